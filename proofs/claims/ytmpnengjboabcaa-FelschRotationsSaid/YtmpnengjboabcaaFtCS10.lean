/- The cosets of Felsch's strategy: coincide (printed by genX4.py out of N8); The reference of Felsch's strategy: add (printed by genY4.py out of Q4). -/
import Derived.Test.YtmpnengjboabcaaFtCS9
import Derived.Test.YtmpnengjboabcaaFtCS6
namespace Go.Proofs.Ct
theorem coinToF_succ (m k : Nat) (f : FS) (h : k < (coinToF m k f).s.q.length) : coinToF m (k + 1) f = procF ((coinToF m k f).s.q.getD k 0) m (coinToF m k f) := by
  have e : coinToF m (k + 1) f = (fun k f => if k < f.s.q.length then procF (f.s.q.getD k 0) m f else f) k (coinToF m k f) := rfl
  rw [e]
  exact if_pos h
theorem coinToF_stop (m : Nat) (f : FS) {k : Nat} (h : (coinToF m k f).s.q.length ≤ k) : ∀ j, k ≤ j → coinToF m j f = coinToF m k f
  | 0, hj => by obtain rfl : k = 0 := by omega
                rfl
  | j + 1, hj => by
    rcases Nat.lt_or_ge j k with h' | h'
    · obtain rfl : k = j + 1 := by omega
      rfl
    · have ih := coinToF_stop m f h j h'
      have e : coinToF m (j + 1) f = (fun k f => if k < f.s.q.length then procF (f.s.q.getD k 0) m f else f) j (coinToF m j f) := rfl
      rw [e, ih]
      exact if_neg (by omega)
def cutF (f : FS) (e c : Nat) : FS := ⟨{ f.s with t := cutT f.s.t e c }, f.k⟩
theorem stepF_cut {e c d : Nat} {f : FS} (hd : ¬ f.s.t.at e c < 0) (hde : f.s.t.at e c = (d : Int)) : stepF e c f =
    if 0 ≤ (cutF f e c).s.t.at ((cutF f e c).s.rp e) c then ⟨mergeS (cutF f e c).s ((cutF f e c).s.t.at ((cutF f e c).s.rp e) c).toNat ((cutF f e c).s.rp d), (cutF f e c).k⟩ else
    if 0 ≤ (cutF f e c).s.t.at ((cutF f e c).s.rp d) (flp c) then ⟨mergeS (cutF f e c).s ((cutF f e c).s.t.at ((cutF f e c).s.rp d) (flp c)).toNat ((cutF f e c).s.rp e), (cutF f e c).k⟩ else
    joinF (cutF f e c) ((cutF f e c).s.rp e) c ((cutF f e c).s.rp d) := by
  have h1 : (cutF f e c).s.t.at ((cutF f e c).s.rp e) c = (cutT f.s.t e c).at (f.s.rp e) c := rfl
  have h2 : (cutF f e c).s.t.at ((cutF f e c).s.rp d) (flp c) = (cutT f.s.t e c).at (f.s.rp d) (flp c) := rfl
  rw [h1, h2]
  unfold stepF stepS stepP
  rw [if_neg hd, if_neg hd, hde, Int.toNat_natCast]
  by_cases k1 : 0 ≤ (cutT f.s.t e c).at (f.s.rp e) c
  · simp only [if_pos k1, List.append_nil]
    rfl
  · by_cases k2 : 0 ≤ (cutT f.s.t e c).at (f.s.rp d) (flp c)
    · simp only [if_neg k1, if_pos k2, List.append_nil]
      rfl
    · simp only [if_neg k1, if_neg k2]
      rfl
end Go.Proofs.Ct
namespace Go.Proofs
open Go.RowKit Go.Shelf Go.Proofs.Ct Go.Maps
set_option maxRecDepth 100000 in
set_option maxHeartbeats 4000000 in
theorem coincide215_any (K : Nat → Prop) (T : TypeId) (ex : List Value) (bl cs : Nat → Nat) (g m base b lim x y : Nat) (hm : m = 2 * g) (w : World) (f : FS) (hT : TyF T) (hr : Ct.Rest g f.s) (hg1 : 1 ≤ g) (hg : g ≤ 16) (hS : StFB K T ex bl cs base b m lim w f) (hbw : base ≤ w.heap.size) (hx : x < f.s.t.length) (hy : y < f.s.t.length) (hn : f.s.t.length ≤ 1000000) (hk : f.k.length + f.s.t.length * m ≤ 1000000000000) :
    Calls Try.prog 215 #[.pointer (some ⟨b, 0, none⟩), .int .i64 (x : Int), .int .i64 (y : Int)] w fun e w' => e = .returned (.tuple #[]) ∧ StFB K T ex bl cs base b m lim w' (coinF m f x y) ∧ Keeps base K w w' := by
  have hkl : ∀ k c, k < f.s.t.length → c < m → k * m + c < f.s.t.length * m := fun k c h1 h2 => by
    have h3 : (k + 1) * m ≤ f.s.t.length * m := Nat.mul_le_mul_right m h1
    rw [Nat.add_mul, Nat.one_mul] at h3
    omega
  have HT := Lib.hid hT
  obtain ⟨A, c, q1, q2, -⟩ := hS.que
  have q3 := hS.noque hT
  have hr' : Ct.Rest g f.s := hr
  obtain ⟨s, kk⟩ := f
  simp only at *
  have h0 : Inv g { s with q := [] } := ⟨hr.inv.len, hr.inv.bd, hr.inv.rl, hr.inv.rle, hr.inv.rid, hr.inv.back⟩
  have hq0 : QI g 0 0 { s with q := [] } := ⟨fun x hx hd c hc h0 => absurd h0 (by have := hr.dead x hx hd c hc; simp only at h0; omega), fun j hj => absurd hj (by simp), Nat.zero_le _, hr.lv⟩
  have hm1 := h0.merge (a := x) (b := y) hx hy
  have hqm := hq0.merge h0 (.inr ⟨rfl, rfl⟩) (a := x) (b := y) hx hy
  have hlv : -1000000 ≤ s.live ∧ s.live ≤ 1000000 := by
    have h1 := hr.lv
    have h2 := dc_le s
    omega
  have hbb : base ≤ b := hS.1
  have HME : Hid (∀ W, StFB K T ex bl cs base b m lim W ⟨{ s with q := [] }, kk⟩ → base ≤ W.heap.size → Calls Try.prog 223 #[.pointer (some ⟨b, 0, none⟩), .int .i64 (x : Int), .int .i64 (y : Int)] W fun e w' => e = .returned (.tuple #[]) ∧ StFB K T ex bl cs base b m lim w' ⟨mergeS { s with q := [] } x y, kk⟩ ∧ Keeps base K W w') := Lib.hid fun W h hw => merge223_any K T ex bl cs g base b m lim x y W ⟨{ s with q := [] }, kk⟩ hT h0 h hw hx hy hn (by simp) hlv.1 hlv.2
  have hml : (mergeS { s with q := [] } x y).t.length = s.t.length := by rw [t_merge]
  have HS0 := Lib.hid q3
  have HB0 : Hid (Keeps base K w (w.setCell ⟨b, 4, none⟩ (.slice none 0 0))) := Lib.hid ((Keeps.refl base K w).setCell hbb (by obtain ⟨-, P, vr, vp, vq, vk, -, -, -, hF⟩ := hS; exact hF.box) _)
  have HEND : Hid (∀ k, (coinToF m k ⟨mergeS { s with q := [] } x y, kk⟩).s.q.length ≤ k → k ≤ s.t.length → coinF m ⟨s, kk⟩ x y = coinToF m k ⟨mergeS { s with q := [] } x y, kk⟩) := Lib.hid fun k h1 h2 => coinToF_stop _ _ h1 _ h2
  have HALL : Hid (∀ k, Inv g (coinToF m k ⟨mergeS { s with q := [] } x y, kk⟩).s ∧ (coinToF m k ⟨mergeS { s with q := [] } x y, kk⟩).s.t.length = s.t.length ∧ QI g (min k (coinToF m k ⟨mergeS { s with q := [] } x y, kk⟩).s.q.length) 0 (coinToF m k ⟨mergeS { s with q := [] } x y, kk⟩).s ∧ (coinToF m k ⟨mergeS { s with q := [] } x y, kk⟩).k.length ≤ kk.length + k * m) := Lib.hid fun k => by
    obtain ⟨a1, a2, a3, -⟩ := coinTo_inv hm1 hqm k
    rw [← hm] at a1 a2 a3
    rw [coinToF_s]
    exact ⟨a1, a2.n.trans hml, a3, coinToF_len _ _ _⟩
  have HKL := Lib.hid hkl
  generalize hf1 : (⟨mergeS { s with q := [] } x y, kk⟩ : FS) = f1 at *
  generalize mergeS { s with q := [] } x y = s1 at *
  generalize hse : coinF m ⟨s, kk⟩ x y = se at *
  generalize hs0 : (⟨{ s with q := [] }, kk⟩ : FS) = s0 at *
  generalize s.t.length = n at *
  have HBW := Lib.hid hbw
  have HM := Lib.hid hm
  have hm0 : (m : Int) ≤ 32 := by omega
  have hn0 : (n : Int) ≤ 1000000 := by omega
  clear h0 hq0 hm1 hqm hr hr' hS q3 hml hbw hbb hse hs0 hlv hm hkl hT
  go_enter Try.func215, Try.ntmps215
  go_wp2_with (first
    | (go_at_call 223; (with_reducible refine (HME.out _ HS0.out (Nat.le_trans HBW.out HB0.out.size)).mono ?_); rintro e w1 ⟨rfl, hs1, hb1⟩
       have HS1 := Lib.hid hs1
       have HB1 := Lib.hid (HB0.out.trans hb1)
       clear hs1 hb1))
  clear q1 q2 HS0 HB0 HME hf1
  go_loopw [6] (fun i wr => ∃ k : Nat, i = .int .i64 k ∧ k ≤ n ∧ Hid (StFB K T ex bl cs base b m lim wr (coinToF m k f1)) ∧ Hid (Keeps base K w wr)) (fun i _ => n - (intOf i).toNat)
  case atStart => exact ⟨0, rfl, Nat.zero_le _, HS1, HB1⟩
  case round =>
    obtain ⟨k, rfl, hkn, HS, HB⟩ := hrel
    clear HS1 HB1
    have hk0 : (0 : Int) ≤ (k : Int) := Int.natCast_nonneg _
    obtain ⟨a1, a2, a3, a4⟩ := HALL.out k
    obtain ⟨A2, c2, q1, -, q3⟩ := HS.out.que
    have hql : (coinToF m k f1).s.q.length ≤ n := by have := a3.cnt; have := dc_le (coinToF m k f1).s; omega
    by_cases hlt : k < (coinToF m k f1).s.q.length
    · rw [show min k (coinToF m k f1).s.q.length = k by omega] at a3
      obtain ⟨gq, rfl, hcc⟩ := q3 (by omega)
      have hck := hcc k hlt
      have hPQ := fun c (hc : c ≤ 2 * g) => proc_q a1 a3 hlt c hc
      have HN1 := Lib.hid (coinToF_succ m k f1 hlt)
      have hel := (a3.qd k hlt).1
      have c0 := HS.out.width.1
      rw [a2] at hel
      generalize coinToF m k f1 = sk at *
      generalize sk.s.q.getD k 0 = e at *
      have HPQ : Hid (∀ c, c ≤ m → Inv g (procF e c sk).s ∧ QI g k c (procF e c sk).s ∧ (procF e c sk).s.t.length = n ∧ (procF e c sk).k.length ≤ kk.length + (k * m + c)) := Lib.hid fun c hc => by
        obtain ⟨p1, p2, p3, -⟩ := hPQ c (by rw [← HM.out]; exact hc)
        rw [procF_s]
        exact ⟨p1, p3, p2.n.trans a2, by have := procF_len e sk c; omega⟩
      have he0 : (0 : Int) ≤ (e : Int) := Int.natCast_nonneg _
      have he1 : (e : Int) < (n : Int) := by omega
      have hkl : (k : Int) < (sk.s.q.length : Int) := by omega
      have hqn : (sk.s.q.length : Int) ≤ (n : Int) := by omega
      obtain ⟨gr0, cr0, f1', f2', -⟩ := HS.out.at_ a1 (r := e) (c := 0) (by omega) (by omega)
      rw [a2] at f1'
      rw [← HM.out] at f2'
      clear a1 a2 a3 a4 q3 hcc hPQ
      go_wp2_with fail
      go_loopw [45] (fun j wi => ∃ c : Nat, j = .int .i64 c ∧ c ≤ m ∧ Hid (StFB K T ex bl cs base b m lim wi (procF e c sk)) ∧ Hid (Keeps base K w wi)) (fun j _ => m - (intOf j).toNat)
      case atStart => exact ⟨0, rfl, Nat.zero_le _, HS, HB⟩
      case round =>
        clear q1 hck c0 f1' f2' HS HB
        obtain ⟨c, rfl, hcm, HS, HB⟩ := hrel
        have hc0 : (0 : Int) ≤ (c : Int) := Int.natCast_nonneg _
        by_cases hc : c < m
        · have hcI : (c : Int) < (m : Int) := by omega
          obtain ⟨hI, hQ, hL, hKL⟩ := HPQ.out c hcm
          have hKL2 : (procF e c sk).k.length ≤ 1000000000000 := by have := HKL.out k c (by omega) hc; omega
          clear hKL
          have HSTEP : Hid (procF e (c + 1) sk = stepF e c (procF e c sk)) := Lib.hid rfl
          have hlv : -1000000 ≤ (procF e c sk).s.live ∧ (procF e c sk).s.live ≤ 1000000 := by
            have h1 := hQ.lv
            have h2 := dc_le (procF e c sk).s
            omega
          have hqs : (procF e c sk).s.q.length ≤ 1000000 := by
            have h1 := hQ.cnt
            have h2 := dc_le (procF e c sk).s
            omega
          generalize hsn : procF e (c + 1) sk = sn at *
          have HSN := Lib.hid hsn
          clear hsn
          generalize procF e c sk = sc at *
          have hel' : e < sc.s.t.length := by omega
          have hcg : c < 2 * g := by rw [← HM.out]; exact hc
          have hbd := hI.bd e hel' c hcg
          by_cases hd : sc.s.t.at e c < 0
          · have HE : Hid (stepF e c sc = sc) := Lib.hid (by unfold stepF stepS stepP; rw [if_pos hd, if_pos hd, List.append_nil])
            obtain ⟨gr, cr, f1, f2, f3⟩ := HS.out.at_ hI hel' hcg
            rw [hL] at f1
            rw [← HM.out] at f2
            have hbd1 := hbd.1
            clear hI hQ hbd hlv hqs
            generalize sc.s.t.at e c = d at *
            go_wp2_with fail
            go_roundw
            case rel => exact ⟨c + 1, by go_num, by omega, by rw [HSN.out, HSTEP.out, HE.out]; exact HS, HB⟩
            case measure => simp [intOf]; omega
          · obtain ⟨d, hde⟩ : ∃ d : Nat, sc.s.t.at e c = (d : Int) := ⟨(sc.s.t.at e c).toNat, by omega⟩
            have hd' : 0 ≤ sc.s.t.at e c := by omega
            obtain ⟨gr, cr, be, ke, bd, kd, x2, f1, f2, f3, f4, f5, g1, g2, g3, g4, hst, hbe⟩ := (HS.out.below (Below.refl _ _).drew).cut HT.out hI hel' hcg hd'
            obtain ⟨gr9, cr9, -, -, p4⟩ := HS.out.at_ hI hel' hcg
            rw [hde] at p4
            have hcut := hI.cut hel' hcg hd'
            rw [hde] at f3 f4 g2 hbd
            rw [Int.toNat_natCast] at f3 g2
            rw [hL] at f1 g1
            rw [← HM.out] at f2 f3 g2
            have hdl : d < n := by omega
            have hfl : flp c < m := by rw [HM.out]; exact flp_lt2 hcg
            have HXE := Lib.hid (flp_eq c (by omega))
            have HF4 := Lib.hid f4
            have HF5 := Lib.hid f5
            have HG3 := Lib.hid g3
            have HG4 := Lib.hid g4
            have HST := Lib.hid hst
            have HBE := Lib.hid (HB.out.drew.trans hbe)
            have HCUT := Lib.hid hcut
            have HCW : Hid (∀ W, (W = wr.drew ∨ W = wr.drew.setCell ⟨be, c, none⟩ (.int .i64 (-1))) → W.cell? ⟨b, 2, none⟩ = some (.slice (some ⟨gr, 0, none⟩) n cr) ∧ W.cell? ⟨gr, d, none⟩ = some (.slice (some ⟨bd, 0, none⟩) m kd)) := Lib.hid fun W hW => by
              rcases hW with rfl | rfl
              · exact ⟨f1, f3⟩
              · exact ⟨g1, g2⟩
            have HCE : Hid (∀ W, W = wr.drew → W.cell? ⟨gr, e, none⟩ = some (.slice (some ⟨be, 0, none⟩) m ke)) := Lib.hid fun W hW => by rw [hW]; exact f2
            have p1 : wr.cell? ⟨b, 2, none⟩ = some (.slice (some ⟨gr, 0, none⟩) n cr) := f1
            have p2 : wr.cell? ⟨gr, e, none⟩ = some (.slice (some ⟨be, 0, none⟩) m ke) := f2
            have p3 : wr.cell? ⟨be, c, none⟩ = some (.int .i64 (d : Int)) := f4
            have hd0 : (0 : Int) ≤ (d : Int) := Int.natCast_nonneg _
            have HSE := Lib.hid (stepF_cut hd hde)
            clear f1 f2 f3 f4 f5 g1 g2 g3 g4 hst hbe hd hd' hbd hcut
            go_wp2_with fail
            refine (wpIn_wide (n := 3)).1 ?_
            refine wpIn_region_all (by kernel_rfl) 21 rfl (fun i => if i < 18 then some (62 + i) else if i = 18 then none else if i = 19 then some 80 else none) (lex_of (by kernel_rfl)) (fun ls W => W = bif ls 20 then (wr.drew.setCell ⟨be, c, none⟩ (.int .i64 (-1))).setCell ⟨bd, flp c, none⟩ (.int .i64 (-1)) else bif ls 18 then wr.drew.setCell ⟨be, c, none⟩ (.int .i64 (-1)) else wr.drew)
              (fun i v _ => v = ([.pointer (some ⟨b, 0, none⟩), .pointer (some ⟨b, 0, none⟩), .pointer (some ⟨b, 2, none⟩), .slice (some ⟨gr, 0, none⟩) n cr, .int .i64 (e : Int), .pointer (some ⟨gr, e, none⟩), .slice (some ⟨be, 0, none⟩) m ke, .int .i64 (c : Int), .pointer (some ⟨b, 0, none⟩), .pointer (some ⟨b, 0, none⟩), .pointer (some ⟨b, 2, none⟩), .slice (some ⟨gr, 0, none⟩) n cr, .int .i64 (d : Int), .pointer (some ⟨gr, d, none⟩), .slice (some ⟨bd, 0, none⟩) m kd, .int .i64 (c : Int), .int .i64 ((flp c : Nat) : Int), .pointer (some ⟨be, c, none⟩), undef, .pointer (some ⟨bd, (flp c), none⟩), undef] : List Value).getD i undef) (fun _ _ _ => True) (dm_inj (by kernel_rfl)) (fun _ _ _ _ _ _ _ _ _ h => h) (dm_lt (n := 126) (by kernel_rfl)) rfl ?_ ?_
            · intro ls q o a w2 hq ho hS2 hls hcl hP hpre
              have hcases : q = 0 ∨ q = 1 ∨ q = 2 ∨ q = 3 ∨ q = 4 ∨ q = 5 ∨ q = 6 ∨ q = 7 ∨ q = 8 ∨ q = 9 ∨ q = 10 ∨ q = 11 ∨ q = 12 ∨ q = 13 ∨ q = 14 ∨ q = 15 ∨ q = 16 ∨ q = 17 ∨ q = 18 ∨ q = 19 ∨ q = 20 := by
                have : q < 21 := hq
                omega
              rcases hcases with rfl | rfl | rfl | rfl | rfl | rfl | rfl | rfl | rfl | rfl | rfl | rfl | rfl | rfl | rfl | rfl | rfl | rfl | rfl | rfl | rfl
              · obtain rfl := Option.some.inj ho
                exact wpOpIn_of rfl rfl (wpW_val (r_move (.tmp 0) rfl (hP.out 0 (dm_out (by kernel_rfl)))) ⟨_, rfl, hS2, trivial, (fun h => by simp at h), rfl⟩)
              · obtain rfl := Option.some.inj ho
                exact wpOpIn_of rfl rfl (wpW_val (r_nil (.tmp 62) _ rfl (hpre ⟨0, .data⟩ (by simp) rfl).2) ⟨_, rfl, hS2, trivial, (fun h => by simp at h), rfl⟩)
              · obtain rfl := Option.some.inj ho
                exact wpOpIn_of rfl rfl (wpW_val (r_fld (.tmp 63) _ rfl (hpre ⟨1, .data⟩ (by simp) rfl).2 (fld151_2 b _)) ⟨_, rfl, hS2, trivial, (fun h => by simp at h), rfl⟩)
              · obtain rfl := Option.some.inj ho
                have h20 := not_yet hcl 20 rfl ⟨3, .phase⟩ (by simp) rfl hls
                have hw := sel2 hS2 h20
                exact wpOpIn_of rfl rfl (wpW_val (r_load1 22 agg22 (.tmp 64) ⟨b, 2, none⟩ rfl (hpre ⟨2, .data⟩ (by simp) rfl).2 (HCW.out _ hw).1) ⟨_, rfl, hS2, trivial, (fun h => by simp at h), rfl⟩)
              · obtain rfl := Option.some.inj ho
                exact wpOpIn_of rfl rfl (wpW_val (r_move (.tmp 7) rfl (hP.out 7 (dm_out (by kernel_rfl)))) ⟨_, rfl, hS2, trivial, (fun h => by simp at h), rfl⟩)
              · obtain rfl := Option.some.inj ho
                exact wpOpIn_of rfl rfl (wpW_val (r_idx (.tmp 65) (.tmp 66) _ _ rfl (hpre ⟨3, .data⟩ (by simp) rfl).2 (hpre ⟨4, .data⟩ (by simp) rfl).2 (idx_sl Try.underlying22 size24 gr _ cr e hel _)) ⟨_, rfl, hS2, trivial, (fun h => by simp at h), rfl⟩)
              · obtain rfl := Option.some.inj ho
                have h20 := not_yet hcl 20 rfl ⟨6, .phase⟩ (by simp) rfl hls
                have h18 := not_yet hcl 18 rfl ⟨6, .phase⟩ (by simp) rfl hls
                exact wpOpIn_of rfl rfl (wpW_val (r_load1 24 agg24 (.tmp 67) ⟨gr, e, none⟩ rfl (hpre ⟨5, .data⟩ (by simp) rfl).2 (HCE.out _ (sel3 hS2 h20 h18))) ⟨_, rfl, hS2, trivial, (fun h => by simp at h), rfl⟩)
              · obtain rfl := Option.some.inj ho
                exact wpOpIn_of rfl rfl (wpW_val (r_move (.tmp 8) rfl (hP.out 8 (dm_out (by kernel_rfl)))) ⟨_, rfl, hS2, trivial, (fun h => by simp at h), rfl⟩)
              · obtain rfl := Option.some.inj ho
                exact wpOpIn_of rfl rfl (wpW_val (r_move (.tmp 0) rfl (hP.out 0 (dm_out (by kernel_rfl)))) ⟨_, rfl, hS2, trivial, (fun h => by simp at h), rfl⟩)
              · obtain rfl := Option.some.inj ho
                exact wpOpIn_of rfl rfl (wpW_val (r_nil (.tmp 70) _ rfl (hpre ⟨8, .data⟩ (by simp) rfl).2) ⟨_, rfl, hS2, trivial, (fun h => by simp at h), rfl⟩)
              · obtain rfl := Option.some.inj ho
                exact wpOpIn_of rfl rfl (wpW_val (r_fld (.tmp 71) _ rfl (hpre ⟨9, .data⟩ (by simp) rfl).2 (fld151_2 b _)) ⟨_, rfl, hS2, trivial, (fun h => by simp at h), rfl⟩)
              · obtain rfl := Option.some.inj ho
                have h20 := not_yet hcl 20 rfl ⟨11, .phase⟩ (by simp) rfl hls
                have hw := sel2 hS2 h20
                exact wpOpIn_of rfl rfl (wpW_val (r_load1 22 agg22 (.tmp 72) ⟨b, 2, none⟩ rfl (hpre ⟨10, .data⟩ (by simp) rfl).2 (HCW.out _ hw).1) ⟨_, rfl, hS2, trivial, (fun h => by simp at h), rfl⟩)
              · obtain rfl := Option.some.inj ho
                exact wpOpIn_of rfl rfl (wpW_val (r_move (.tmp 9) rfl (hP.out 9 (dm_out (by kernel_rfl)))) ⟨_, rfl, hS2, trivial, (fun h => by simp at h), rfl⟩)
              · obtain rfl := Option.some.inj ho
                exact wpOpIn_of rfl rfl (wpW_val (r_idx (.tmp 73) (.tmp 74) _ _ rfl (hpre ⟨11, .data⟩ (by simp) rfl).2 (hpre ⟨12, .data⟩ (by simp) rfl).2 (idx_sl Try.underlying22 size24 gr _ cr d hdl _)) ⟨_, rfl, hS2, trivial, (fun h => by simp at h), rfl⟩)
              · obtain rfl := Option.some.inj ho
                have h20 := not_yet hcl 20 rfl ⟨14, .phase⟩ (by simp) rfl hls
                have hw := sel2 hS2 h20
                exact wpOpIn_of rfl rfl (wpW_val (r_load1 24 agg24 (.tmp 75) ⟨gr, d, none⟩ rfl (hpre ⟨13, .data⟩ (by simp) rfl).2 (HCW.out _ hw).2) ⟨_, rfl, hS2, trivial, (fun h => by simp at h), rfl⟩)
              · obtain rfl := Option.some.inj ho
                exact wpOpIn_of rfl rfl (wpW_val (r_move (.tmp 8) rfl (hP.out 8 (dm_out (by kernel_rfl)))) ⟨_, rfl, hS2, trivial, (fun h => by simp at h), rfl⟩)
              · obtain rfl := Option.some.inj ho
                exact wpOpIn_of rfl rfl (wpW_val (r_xor (.tmp 77) (c : Int) _ rfl (hpre ⟨15, .data⟩ (by simp) rfl).2 HXE.out) ⟨_, rfl, hS2, trivial, (fun h => by simp at h), rfl⟩)
              · obtain rfl := Option.some.inj ho
                exact wpOpIn_of rfl rfl (wpW_val (r_idx (.tmp 68) (.tmp 69) _ _ rfl (hpre ⟨6, .data⟩ (by simp) rfl).2 (hpre ⟨7, .data⟩ (by simp) rfl).2 (idx_sl Try.underlying24 size3 be _ ke c hc _)) ⟨_, rfl, hS2, trivial, (fun h => by simp at h), rfl⟩)
              · obtain rfl := Option.some.inj ho
                have h20 := not_yet hcl 20 rfl ⟨18, .chain⟩ (by simp) rfl hls
                have hw := sel3 hS2 h20 hls
                subst hw
                exact wpOpIn_of rfl rfl (wpW_skip (r_store1 3 (.tmp 79) (.const (.int .i64 (-1))) _ _ _ rfl (hpre ⟨17, .data⟩ (by simp) rfl).2 rfl rfl HF4.out HF5.out (st3 _ _ _ HF4.out HF5.out)) ⟨undef, rfl, (by show _ = bif ls 20 then _ else _; rw [h20]; rfl), trivial, fun _ => rfl, rfl⟩)
              · obtain rfl := Option.some.inj ho
                exact wpOpIn_of rfl rfl (wpW_val (r_idx (.tmp 76) (.tmp 78) _ _ rfl (hpre ⟨14, .data⟩ (by simp) rfl).2 (hpre ⟨16, .data⟩ (by simp) rfl).2 (idx_sl Try.underlying24 size3 bd _ kd (flp c) hfl _)) ⟨_, rfl, hS2, trivial, (fun h => by simp at h), rfl⟩)
              · obtain rfl := Option.some.inj ho
                have h18 : ls 18 = true := (hpre ⟨18, .chain⟩ (by simp) rfl).1
                rw [hls, h18] at hS2
                change w2 = wr.drew.setCell ⟨be, c, none⟩ (.int .i64 (-1)) at hS2
                subst hS2
                exact wpOpIn_of rfl rfl (wpW_skip (r_store1 3 (.tmp 80) (.const (.int .i64 (-1))) _ _ _ rfl (hpre ⟨19, .data⟩ (by simp) rfl).2 rfl rfl HG3.out HG4.out (st3 _ _ _ HG3.out HG4.out)) ⟨undef, rfl, rfl, trivial, fun _ => rfl, rfl⟩)
            · intro ls a w2 hall hS2 hP hsl
              have h20 : ls 20 = true := hall 20 (by decide)
              rw [h20] at hS2
              obtain ⟨vs, hvs, hfr⟩ := hP.frame 126 rfl
              clear hsl hP hall h20 hvs HCW HCE HF4 HF5 HG3 HG4
              subst hfr
              subst hS2
              dsimp only
              simp only [List.range, List.range.loop, List.map_cons, List.map_nil, List.any_cons, List.any_nil, Nat.reduceAdd, Nat.reduceBEq, Nat.reduceLT, Nat.reduceEqDiff, Option.some_beq_some, Bool.or_false, if_true, if_false, List.getD_cons_zero, List.getD_cons_succ, cond_true]
              have hst' : StFB K T ex bl cs base b m lim ((wr.drew.setCell ⟨be, c, none⟩ (.int .i64 (-1))).setCell ⟨bd, flp c, none⟩ (.int .i64 (-1))) (cutF sc e c) := HST.out
              have HST := Lib.hid hst'
              clear hst'
              have hL2 : (cutF sc e c).s.t.length = n := (length_cut _ _ _).trans hL
              have hlv2 : -1000000 ≤ (cutF sc e c).s.live ∧ (cutF sc e c).s.live ≤ 1000000 := hlv
              have hqs2 : (cutF sc e c).s.q.length ≤ 1000000 := hqs
              have hks2 : (cutF sc e c).k.length ≤ 1000000000000 := hKL2
              have HCUT : Hid (Inv g (cutF sc e c).s) := Lib.hid HCUT.out
              generalize cutF sc e c = s2 at *
              have hu : s2.s.rp e < n := by have := HCUT.out.rlt (x := e) (by omega); omega
              have hv : s2.s.rp d < n := by have := HCUT.out.rlt (x := d) (by omega); omega
              have hb1 := HCUT.out.bd (s2.s.rp e) (by omega) c hcg
              have hb2 := HCUT.out.bd (s2.s.rp d) (by omega) (flp c) (flp_lt2 hcg)
              have HFE := Lib.hid fun W (h : StFB K T ex bl cs base b m lim W s2) => top224_any K T ex bl cs base b m lim e W s2 HT.out h (by omega) (by omega)
              have HFD := Lib.hid fun W (h : StFB K T ex bl cs base b m lim W s2) => top224_any K T ex bl cs base b m lim d W s2 HT.out h (by omega) (by omega)
              have HAE : Hid (∀ W, StFB K T ex bl cs base b m lim W s2 → ∃ gr cr, W.cell? ⟨b, 2, none⟩ = some (.slice (some ⟨gr, 0, none⟩) n cr) ∧ W.cell? ⟨gr, s2.s.rp e, none⟩ = some (.slice (some ⟨bl (s2.s.rp e), 0, none⟩) m (cs (s2.s.rp e))) ∧ W.cell? ⟨bl (s2.s.rp e), c, none⟩ = some (.int .i64 (s2.s.t.at (s2.s.rp e) c))) := Lib.hid fun W h => by
                obtain ⟨gr, cr, h1, h2, h3⟩ := h.at_ HCUT.out (r := s2.s.rp e) (c := c) (by omega) hcg
                rw [hL2] at h1
                rw [← HM.out] at h2
                exact ⟨gr, cr, h1, h2, h3⟩
              have HAD : Hid (∀ W, StFB K T ex bl cs base b m lim W s2 → ∃ gr cr, W.cell? ⟨b, 2, none⟩ = some (.slice (some ⟨gr, 0, none⟩) n cr) ∧ W.cell? ⟨gr, s2.s.rp d, none⟩ = some (.slice (some ⟨bl (s2.s.rp d), 0, none⟩) m (cs (s2.s.rp d))) ∧ W.cell? ⟨bl (s2.s.rp d), flp c, none⟩ = some (.int .i64 (s2.s.t.at (s2.s.rp d) (flp c)))) := Lib.hid fun W h => by
                obtain ⟨gr, cr, h1, h2, h3⟩ := h.at_ HCUT.out (r := s2.s.rp d) (c := flp c) (by omega) (flp_lt2 hcg)
                rw [hL2] at h1
                rw [← HM.out] at h2
                exact ⟨gr, cr, h1, h2, h3⟩
              have HME2 : Hid (∀ W (p q : Nat), p < n → q < n → StFB K T ex bl cs base b m lim W s2 → base ≤ W.heap.size → Calls Try.prog 223 #[.pointer (some ⟨b, 0, none⟩), .int .i64 (p : Int), .int .i64 (q : Int)] W fun e w' => e = .returned (.tuple #[]) ∧ StFB K T ex bl cs base b m lim w' ⟨mergeS s2.s p q, s2.k⟩ ∧ Keeps base K W w') := Lib.hid fun W p q hp hq h hw =>
                merge223_any K T ex bl cs g base b m lim p q W s2 HT.out HCUT.out h hw (by omega) (by omega) (by omega) hqs2 hlv2.1 hlv2.2
              have HJO : Hid (∀ W, StFB K T ex bl cs base b m lim W s2 → base ≤ W.heap.size → Calls Try.prog 216 #[.pointer (some ⟨b, 0, none⟩), .int .i64 (s2.s.rp e : Int), .int .i64 (c : Int), .int .i64 (s2.s.rp d : Int)] W fun E w' => E = .returned (.tuple #[]) ∧ StFB K T ex bl cs base b m lim w' (joinF s2 (s2.s.rp e) c (s2.s.rp d)) ∧ Keeps base K W w') := Lib.hid fun W h hw =>
                set216_any K T ex bl cs g base b m lim (s2.s.rp e) c (s2.s.rp d) W s2 HT.out HCUT.out hg h hw (by omega) (by omega) hcg (by omega) hks2
              clear hlv2 hqs2 hks2 hKL2 hlv hqs HCUT hI hQ
              generalize s2.s.t.at (s2.s.rp e) c = y1 at *
              generalize s2.s.t.at (s2.s.rp d) (flp c) = y2 at *
              generalize joinF s2 (s2.s.rp e) c (s2.s.rp d) = sj at *
              generalize s2.s.rp e = u at *
              generalize s2.s.rp d = v at *
              have hu0 : (0 : Int) ≤ (u : Int) := Int.natCast_nonneg _
              have hv0 : (0 : Int) ≤ (v : Int) := Int.natCast_nonneg _
              have hu1 : (u : Int) < (n : Int) := by omega
              have hv1 : (v : Int) < (n : Int) := by omega
              generalize (wr.drew.setCell ⟨be, c, none⟩ (.int .i64 (-1))).setCell ⟨bd, flp c, none⟩ (.int .i64 (-1)) = w9 at *
              by_cases h1 : 0 ≤ y1
              · obtain ⟨z1, rfl⟩ : ∃ z : Nat, y1 = (z : Int) := ⟨y1.toNat, by omega⟩
                have HRES : Hid (stepF e c sc = ⟨mergeS s2.s z1 v, s2.k⟩) := Lib.hid (by rw [HSE.out, if_pos h1, Int.toNat_natCast])
                have HLAST : Hid (∀ W, StFB K T ex bl cs base b m lim W s2 → base ≤ W.heap.size → Calls Try.prog 223 #[.pointer (some ⟨b, 0, none⟩), .int .i64 (z1 : Int), .int .i64 (v : Int)] W fun E w' => E = .returned (.tuple #[]) ∧ StFB K T ex bl cs base b m lim w' ⟨mergeS s2.s z1 v, s2.k⟩ ∧ Keeps base K W w') := Lib.hid fun W h hw => HME2.out W z1 v (by omega) hv h hw
                clear HME2 HJO HAD
                generalize (⟨mergeS s2.s z1 v, s2.k⟩ : FS) = s9 at *
                go_wp2_with (first
                  | (go_at_call 224; (with_reducible refine (HFE.out _ HST.out).mono ?_); rintro E w10 ⟨rfl, hs1, hb1⟩
                     have HS10 := Lib.hid hs1
                     have HB10 := Lib.hid (HBE.out.trans hb1)
                     clear hs1 hb1 HFE)
                  | (go_at_call 224; (with_reducible refine (HFD.out _ HS10.out).mono ?_); rintro E w11 ⟨rfl, hs2, hb2⟩
                     have HS11 := Lib.hid hs2
                     have HB11 := Lib.hid (HB10.out.trans hb2)
                     obtain ⟨gr2, cr2, a1, a2, a3⟩ := HAE.out _ hs2
                     clear hs2 hb2 HFD)
                  | (go_at_call 223; (with_reducible refine (HLAST.out _ HS11.out (Nat.le_trans HBW.out HB11.out.size)).mono ?_); rintro E w12 ⟨rfl, hs3, hb3⟩
                     have HS12 := Lib.hid hs3
                     have HB12 := Lib.hid (HB11.out.trans hb3)
                     clear hs3 hb3))
                go_roundw
                case rel => exact ⟨c + 1, by go_num, by omega, by rw [HSN.out, HSTEP.out, HRES.out]; exact HS12, HB12⟩
                case measure => simp [intOf]; omega
              · have h1' : y1 < 0 := by omega
                have hfe := HXE.out
                have hf0 : (0 : Int) ≤ ((flp c : Nat) : Int) := Int.natCast_nonneg _
                have hf1 : ((flp c : Nat) : Int) < (m : Int) := by omega
                by_cases h2 : 0 ≤ y2
                · obtain ⟨z2, rfl⟩ : ∃ z : Nat, y2 = (z : Int) := ⟨y2.toNat, by omega⟩
                  have HRES : Hid (stepF e c sc = ⟨mergeS s2.s z2 u, s2.k⟩) := Lib.hid (by rw [HSE.out, if_neg h1, if_pos h2, Int.toNat_natCast])
                  have HLAST : Hid (∀ W, StFB K T ex bl cs base b m lim W s2 → base ≤ W.heap.size → Calls Try.prog 223 #[.pointer (some ⟨b, 0, none⟩), .int .i64 (z2 : Int), .int .i64 (u : Int)] W fun E w' => E = .returned (.tuple #[]) ∧ StFB K T ex bl cs base b m lim w' ⟨mergeS s2.s z2 u, s2.k⟩ ∧ Keeps base K W w') := Lib.hid fun W h hw => HME2.out W z2 u (by omega) hu h hw
                  clear HME2 HJO h1
                  generalize (⟨mergeS s2.s z2 u, s2.k⟩ : FS) = s9 at *
                  go_wp2_with (first
                    | (go_at_call 224; (with_reducible refine (HFE.out _ HST.out).mono ?_); rintro E w10 ⟨rfl, hs1, hb1⟩
                       have HS10 := Lib.hid hs1
                       have HB10 := Lib.hid (HBE.out.trans hb1)
                       clear hs1 hb1 HFE)
                    | (go_at_call 224; (with_reducible refine (HFD.out _ HS10.out).mono ?_); rintro E w11 ⟨rfl, hs2, hb2⟩
                       have HS11 := Lib.hid hs2
                       have HB11 := Lib.hid (HB10.out.trans hb2)
                       obtain ⟨gr2, cr2, a1, a2, a3⟩ := HAE.out _ hs2
                       obtain ⟨gr3, cr3, a4, a5, a6⟩ := HAD.out _ hs2
                       rw [a4] at a1
                       injection a1 with a1
                       injection a1 with a1 e2 e3
                       injection a1 with a1
                       injection a1 with a1
                       subst a1
                       clear e2 e3
                       clear hs2 hb2 HFD)
                    | (go_at_call 223; (with_reducible refine (HLAST.out _ HS11.out (Nat.le_trans HBW.out HB11.out.size)).mono ?_); rintro E w12 ⟨rfl, hs3, hb3⟩
                       have HS12 := Lib.hid hs3
                       have HB12 := Lib.hid (HB11.out.trans hb3)
                       clear hs3 hb3))
                  go_roundw
                  case rel => exact ⟨c + 1, by go_num, by omega, by rw [HSN.out, HSTEP.out, HRES.out]; exact HS12, HB12⟩
                  case measure => simp [intOf]; omega
                · have h2' : y2 < 0 := by omega
                  have HRES : Hid (stepF e c sc = sj) := Lib.hid (by rw [HSE.out, if_neg h1, if_neg h2])
                  have HLAST := HJO
                  clear HME2 HJO h1 h2
                  go_wp2_with (first
                    | (go_at_call 224; (with_reducible refine (HFE.out _ HST.out).mono ?_); rintro E w10 ⟨rfl, hs1, hb1⟩
                       have HS10 := Lib.hid hs1
                       have HB10 := Lib.hid (HBE.out.trans hb1)
                       clear hs1 hb1 HFE)
                    | (go_at_call 224; (with_reducible refine (HFD.out _ HS10.out).mono ?_); rintro E w11 ⟨rfl, hs2, hb2⟩
                       have HS11 := Lib.hid hs2
                       have HB11 := Lib.hid (HB10.out.trans hb2)
                       obtain ⟨gr2, cr2, a1, a2, a3⟩ := HAE.out _ hs2
                       obtain ⟨gr3, cr3, a4, a5, a6⟩ := HAD.out _ hs2
                       rw [a4] at a1
                       injection a1 with a1
                       injection a1 with a1 e2 e3
                       injection a1 with a1
                       injection a1 with a1
                       subst a1
                       clear e2 e3
                       clear hs2 hb2 HFD)
                    | (go_at_call 216; (with_reducible refine (HLAST.out _ HS11.out (Nat.le_trans HBW.out HB11.out.size)).mono ?_); rintro E w12 ⟨rfl, hs3, hb3⟩
                       have HS12 := Lib.hid hs3
                       have HB12 := Lib.hid (HB11.out.trans hb3)
                       clear hs3 hb3))
                  go_roundw
                  case rel => exact ⟨c + 1, by go_num, by omega, by rw [HSN.out, HSTEP.out, HRES.out]; exact HS12, HB12⟩
                  case measure => simp [intOf]; omega
        · have hcm' : c = m := by omega
          subst hcm'
          go_wp2_with fail
          go_roundw
          case rel => exact ⟨k + 1, by go_num, by omega, by rw [HN1.out]; exact HS, HB⟩
          case measure => simp [intOf]; omega
    · clear q3
      have HE : Hid (se = coinToF m k f1) := Lib.hid (HEND.out k (by omega) hkn)
      have hlt' : ¬ (k : Int) < ((coinToF m k f1).s.q.length : Int) := by omega
      have hql' : ((coinToF m k f1).s.q.length : Int) ≤ (n : Int) := by omega
      clear a1 a2 a3
      go_wp2_with fail
      go_end0
      exact ⟨rfl, by rw [HE.out]; exact HS.out, HB.out⟩
end Go.Proofs
namespace Go.Proofs
open Go.RowKit Go.Shelf Go.Proofs.Ct Go.Maps
structure BoxGK (T : TypeId) (wv : Value) (base b lim : Nat) (vk : Value) (ps : List (Nat × Nat)) (w : World) (s : St) (vr vp vq : Value) : Prop where
  ty : TyF T
  bx : BoxG T wv b lim w s vr vp vq vk
  ow : OwnC base w vk ps
section
variable {T : TypeId} {wv : Value} {vk : Value} {ps : List (Nat × Nat)} {base b lim : Nat} {w w' : World} {s s' : St} {vr vp vq : Value}
end
def ParGY (base N : Nat) (t : Tb) (q : List Nat) (P : List Int) (b : Nat) (vr vp vq : Value) (bl cs : Nat → Nat) : Nat → Value → World → Prop
  | 10, v, w => ∃ h, v = .slice (some ⟨h, 0, none⟩) 1 1 ∧ N ≤ h ∧ w.heap[h]? = some (.cells #[.int .i64 (P.length : Int)] 3 (0, 0))
  | 11, v, w => ∃ A c, v = .slice A (P.length + 1) c ∧ (∀ r, v.ownBlock = some r → vp.ownBlock = some r ∨ N ≤ r) ∧ CoreN base w t q (P ++ [(P.length : Int)]) vr v vq bl cs
  | i, v, _ => v = ([.pointer (some ⟨b, 0, none⟩), .pointer (some ⟨b, 0, none⟩), .pointer (some ⟨b, 0, none⟩), .pointer (some ⟨b, 1, none⟩), vp, .pointer (some ⟨b, 0, none⟩), .pointer (some ⟨b, 0, none⟩), .pointer (some ⟨b, 0, none⟩), vr, .int .i64 (P.length : Int), undef, undef, .pointer (some ⟨b, 0, none⟩), .pointer (some ⟨b, 1, none⟩), undef] : List Value).getD i undef
structure ParTY (K : Nat → Prop) (T : TypeId) (wv vk : Value) (ps : List (Nat × Nat)) (base N b lim gx : Nat) (x : List Int) (w : World) (s : St) (t : Tb) (P : List Int) (vr vp vq : Value) (bl cs : Nat → Nat) (p q : Bool) (W : World) : Prop where
  box : q = false → BoxGK T wv base b lim vk ps W s vr vp vq ∧ (p = false → CoreN base W t s.q P vr vp vq bl cs)
  bel : Keeps base K w W
  siz : N ≤ W.heap.size
  row : XsAt W gx x
  done : q = true → ∃ A c, (∀ r, (Value.slice A (P.length + 1) c).ownBlock = some r → vp.ownBlock = some r ∨ N ≤ r) ∧ BoxGK T wv base b lim vk ps W s vr (.slice A (P.length + 1) c) vq ∧ CoreN base W t s.q (P ++ [(P.length : Int)]) vr (.slice A (P.length + 1) c) vq bl cs
section
variable {K : Nat → Prop} {T : TypeId} {wv vk : Value} {ps : List (Nat × Nat)} {base N b lim gx : Nat} {x : List Int} {w W W' : World} {s : St} {t : Tb} {P : List Int} {vr vp vq : Value} {bl cs : Nat → Nat} {p q : Bool}
end
end Go.Proofs
