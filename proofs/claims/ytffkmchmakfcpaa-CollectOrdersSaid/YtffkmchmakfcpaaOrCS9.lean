/- (*coset.state).coincide; slices.Repeat of one number; A state in memory while a coset is added: rows, parents and queue each by itself. -/
import Derived.Test.YtffkmchmakfcpaaOrCS8
import Derived.Shelf.Bits.Mul64
import Derived.Laws.CopyOwn
namespace Go.Proofs.B18
open Go.RowKit Go.Shelf Go.Proofs.Ct Go.Maps
theorem StP.drew {base b wd lim : Nat} {w : World} {s : St} (hS : StP base b wd lim w s) : StP base b wd lim w.drew s := by
  obtain ⟨hb, P, vr, vp, vq, bl, cs, hB, hC⟩ := hS
  have hd := (Below.refl w.heap.size w).drew
  exact ⟨hb, P, vr, vp, vq, bl, cs, hB.below hd, hC.below hd⟩
theorem r_slice0 {o : Oper} {a : Act} {w : World} (x : Operand) (A : Option Addr) (n c : Nat) (ho : o.op = .slice 22 x none (some (.const (.int .i64 0))) none) (hx : a.eval x = .slice A n c) (hA : ∀ p, A = some p → p.off = 0 ∧ p.spot = none) : (execOp a.eval o).run Try.prog w = .ok (.value (.slice A 0 c)) w := by
  have h1 : (A.map fun p => p.add 0) = A := by
    cases A with
    | none => rfl
    | some p =>
      obtain ⟨b, k, sp⟩ := p
      obtain ⟨h1, h2⟩ := hA _ rfl
      simp only at h1 h2
      subst h1 h2
      rfl
  have h2 : Act.eval a (.const (.int .i64 0)) = .int .i64 0 := rfl
  have hc : (0 : Int) ≤ (c : Int) := Int.natCast_nonneg _
  have hu : Try.prog.underlying 22 = some (.slice (Try.prog.elem 22)) := by kernel_rfl
  have hs : (sizeOf (Try.prog.elem 22)).run Try.prog w = .ok 1 w := by kernel_rfl
  unfold execOp
  simp only [ho, hx, Option.map_none, Option.map_some, h2, Sem.run_bind, run_sliceAt_slice w 22 _ _ _ _ hu, run_slice_h w 22 A n c hu .i64 0 (by omega) hc]
  simp [hs, sliced, h1]
theorem r_xor {o : Oper} {a : Act} {w : World} (x : Operand) (i z : Int) (ho : o.op = .binOp .xor 3 x (.const (.int .i64 1)) 3) (hx : a.eval x = .int .i64 i) (hb : bits .xor .i64 i 1 = z) : (execOp a.eval o).run Try.prog w = .ok (.value (.int .i64 z)) w := by
  have h2 : Act.eval a (.const (.int .i64 1)) = .int .i64 1 := rfl
  unfold execOp
  simp only [ho, hx, h2]
  simp [go_sem, hb]
theorem sel2 {W A B C : World} {p q : Bool} (h : W = bif p then C else bif q then B else A) (hp : p = false) : W = A ∨ W = B := by
  subst hp
  cases q
  · exact .inl h
  · exact .inr h
theorem sel3 {W A B C : World} {p q : Bool} (h : W = bif p then C else bif q then B else A) (hp : p = false) (hq : q = false) : W = A := by
  subst hp hq
  exact h
/-- an edge is cut -/
theorem StP.cut {g base b wd lim : Nat} {w : World} {s : St} (hI : Inv g s) (hS : StP base b wd lim w s) {e c : Nat} (he : e < s.t.length) (hc : c < 2 * g) (_hd : 0 ≤ s.t.at e c) :
    ∃ gr cr be ke bd kd x2, w.cell? ⟨b, 2, none⟩ = some (.slice (some ⟨gr, 0, none⟩) s.t.length cr) ∧ w.cell? ⟨gr, e, none⟩ = some (.slice (some ⟨be, 0, none⟩) (2 * g) ke) ∧ w.cell? ⟨gr, (s.t.at e c).toNat, none⟩ = some (.slice (some ⟨bd, 0, none⟩) (2 * g) kd) ∧
      w.cell? ⟨be, c, none⟩ = some (.int .i64 (s.t.at e c)) ∧ w.frozen? ⟨be, c, none⟩ = false ∧
      (w.setCell ⟨be, c, none⟩ (.int .i64 (-1))).cell? ⟨b, 2, none⟩ = some (.slice (some ⟨gr, 0, none⟩) s.t.length cr) ∧ (w.setCell ⟨be, c, none⟩ (.int .i64 (-1))).cell? ⟨gr, (s.t.at e c).toNat, none⟩ = some (.slice (some ⟨bd, 0, none⟩) (2 * g) kd) ∧
      (w.setCell ⟨be, c, none⟩ (.int .i64 (-1))).cell? ⟨bd, flp c, none⟩ = some (.int .i64 x2) ∧ (w.setCell ⟨be, c, none⟩ (.int .i64 (-1))).frozen? ⟨bd, flp c, none⟩ = false ∧
      StP base b wd lim ((w.setCell ⟨be, c, none⟩ (.int .i64 (-1))).setCell ⟨bd, flp c, none⟩ (.int .i64 (-1))) { s with t := cutT s.t e c } ∧ Below base w ((w.setCell ⟨be, c, none⟩ (.int .i64 (-1))).setCell ⟨bd, flp c, none⟩ (.int .i64 (-1))) := by
  obtain ⟨hb, P, vr, vp, vq, bl, cs, hB, hC⟩ := hS
  have hdl : (s.t.at e c).toNat < s.t.length := by have := (hI.bd e he c hc).2; omega
  have hle := hI.len e he
  have hld := hI.len _ hdl
  have hf := flp_lt2 hc
  obtain ⟨gr, cr, rfl, r1, r2, r3⟩ := hC.at_ he (c := c) (by omega)
  obtain ⟨gr', cr', e', p1, p2, p3⟩ := hC.at_ hdl (c := flp c) (by omega)
  injection e' with e1 e2 e3
  injection e1 with e1
  injection e1 with e1
  subst e1
  have hC1 := hC.set he (c := c) (by omega) (-1)
  have hbe := hC.row e he
  obtain ⟨Ce, hCe, -⟩ := id hbe.2.1
  have hB1 := hB.other ⟨Ce, hCe⟩ (by decide) c (.int .i64 (-1))
  have hlen1 : ({ s with t := set2 s.t e c (-1) } : St).t.length = s.t.length := length_set2 _ _ _ _
  obtain ⟨gr', cr', e', q1, q2, q3⟩ := hC1.at_ (r := (s.t.at e c).toNat) (c := flp c) (by rw [hlen1]; exact hdl) (by simp only [rowlen_set2]; omega)
  injection e' with e1 e2 e3
  injection e1 with e1
  injection e1 with e1
  subst e1
  have hC2 := hC1.set (r := (s.t.at e c).toNat) (c := flp c) (by rw [hlen1]; exact hdl) (by simp only [rowlen_set2]; omega) (-1)
  have hbd := hC1.row (s.t.at e c).toNat (by rw [hlen1]; exact hdl)
  obtain ⟨Cd, hCd, -⟩ := id hbd.2.1
  have hB2 := hB1.other ⟨Cd, hCd⟩ (by decide) (flp c) (.int .i64 (-1))
  simp only [rowlen_set2] at q1
  rw [hld] at q1 p1
  rw [hle] at r1
  exact ⟨gr, cr, bl e, cs e, bl (s.t.at e c).toNat, cs (s.t.at e c).toNat, _, hB.cells.2.2.1, r1, p1, r2, r3, hB1.cells.2.2.1, q1, q2, q3, ⟨hb, P, _, vp, vq, bl, cs, hB2.of rfl rfl, hC2⟩, ((Below.refl base w).setCell hbe.1 _).setCell hbd.1 _⟩
set_option maxRecDepth 100000 in
set_option maxHeartbeats 4000000 in
theorem coincide152_any (g m base b lim x y : Nat) (hm : m = 2 * g) (w : World) (s : St) (hr : Ct.Rest g s) (hg : g ≤ 16) (hS : StP base b m lim w s) (hbw : base ≤ w.heap.size) (hx : x < s.t.length) (hy : y < s.t.length) (hn : s.t.length ≤ 1000000) :
    Calls Try.prog 116 #[.pointer (some ⟨b, 0, none⟩), .int .i64 (x : Int), .int .i64 (y : Int)] w fun e w' => e = .returned (.tuple #[]) ∧ StP base b m lim w' (coinS m s x y) ∧ Below base w w' := by
  obtain ⟨A, c, q1, q2, -, q3, q4, q5, q6⟩ := hS.que
  have h0 : Inv g { s with q := [] } := ⟨hr.inv.len, hr.inv.bd, hr.inv.rl, hr.inv.rle, hr.inv.rid, hr.inv.back⟩
  have hq0 : QI g 0 0 { s with q := [] } := ⟨fun x hx hd c hc h0 => absurd h0 (by have := hr.dead x hx hd c hc; simp only at h0; omega), fun j hj => absurd hj (by simp), Nat.zero_le _, hr.lv⟩
  have hm1 := h0.merge (a := x) (b := y) hx hy
  have hqm := hq0.merge h0 (.inr ⟨rfl, rfl⟩) (a := x) (b := y) hx hy
  have hlv : -1000000 ≤ s.live ∧ s.live ≤ 1000000 := by
    have h1 := hr.lv
    have h2 := dc_le s
    omega
  have hbb : base ≤ b := hS.1
  have HME := Lib.hid fun W (h : StP base b m lim W { s with q := [] }) (hw : base ≤ W.heap.size) => merge155_any g base b m lim x y W { s with q := [] } h0 h hw hx hy hn (by simp) hlv.1 hlv.2
  have hml : (mergeS { s with q := [] } x y).t.length = s.t.length := by rw [t_merge]
  have HS0 := Lib.hid (q3 hbb)
  have HB0 : Hid (Below base w (w.setCell ⟨b, 4, none⟩ (.slice A 0 c))) := Lib.hid ((Below.refl base w).setCell hbb _)
  have HEND : Hid (∀ k, (coinTo m k (mergeS { s with q := [] } x y)).q.length ≤ k → k ≤ s.t.length → coinS m s x y = coinTo m k (mergeS { s with q := [] } x y)) := Lib.hid fun k h1 h2 => coinTo_stop _ _ h1 _ h2
  have HALL : Hid (∀ k, Inv g (coinTo m k (mergeS { s with q := [] } x y)) ∧ (coinTo m k (mergeS { s with q := [] } x y)).t.length = s.t.length ∧ QI g (min k (coinTo m k (mergeS { s with q := [] } x y)).q.length) 0 (coinTo m k (mergeS { s with q := [] } x y))) := Lib.hid fun k => by
    obtain ⟨a1, a2, a3, -⟩ := coinTo_inv hm1 hqm k
    rw [← hm] at a1 a2 a3
    exact ⟨a1, a2.n.trans hml, a3⟩
  generalize mergeS { s with q := [] } x y = s1 at *
  generalize hse : coinS m s x y = se at *
  generalize hs0 : ({ s with q := [] } : St) = s0 at *
  generalize s.t.length = n at *
  have HBW := Lib.hid hbw
  have HM := Lib.hid hm
  have hm0 : (m : Int) ≤ 32 := by omega
  have hn0 : (n : Int) ≤ 1000000 := by omega
  clear h0 hq0 hm1 hqm hr hS q3 hml hbw hbb hse hs0 q4 q6 hlv hm
  have Q5 := Lib.hid q5
  clear q5
  go_enter Try.func116, Try.ntmps116
  go_wp2_with (first
    | ((with_reducible refine wpList_sel 17 ?_); refine wpList_val rfl (r_slice0 (.tmp 16) A _ c rfl rfl Q5.out) ?_)
    | (go_at_call 117; (with_reducible refine (HME.out _ HS0.out (Nat.le_trans HBW.out HB0.out.size)).mono ?_); rintro e w1 ⟨rfl, hs1, hb1⟩
       have HS1 := Lib.hid hs1
       have HB1 := Lib.hid (HB0.out.trans hb1)
       clear hs1 hb1))
  clear q1 q2 HS0 HB0 HME Q5
  go_loopw [6] (fun i wr => ∃ k : Nat, i = .int .i64 k ∧ k ≤ n ∧ Hid (StP base b m lim wr (coinTo m k s1)) ∧ Hid (Below base w wr)) (fun i _ => n - (intOf i).toNat)
  case atStart => exact ⟨0, rfl, Nat.zero_le _, HS1, HB1⟩
  case round =>
    obtain ⟨k, rfl, hkn, HS, HB⟩ := hrel
    clear HS1 HB1
    have hk0 : (0 : Int) ≤ (k : Int) := Int.natCast_nonneg _
    obtain ⟨a1, a2, a3⟩ := HALL.out k
    obtain ⟨A2, c2, q1, -, q3, -⟩ := HS.out.que
    have hql : (coinTo m k s1).q.length ≤ n := by have := a3.cnt; have := dc_le (coinTo m k s1); omega
    by_cases hlt : k < (coinTo m k s1).q.length
    · rw [show min k (coinTo m k s1).q.length = k by omega] at a3
      obtain ⟨gq, rfl, hcc⟩ := q3 (by omega)
      have hck := hcc k hlt
      have hPQ := fun c (hc : c ≤ 2 * g) => proc_q a1 a3 hlt c hc
      have HN1 := Lib.hid (coinTo_succ m k s1 hlt)
      have hel := (a3.qd k hlt).1
      have c0 := HS.out.width.1
      rw [a2] at hel
      generalize coinTo m k s1 = sk at *
      generalize sk.q.getD k 0 = e at *
      have HPQ : Hid (∀ c, c ≤ m → Inv g (procTo e c sk) ∧ QI g k c (procTo e c sk) ∧ (procTo e c sk).t.length = n) := Lib.hid fun c hc => by
        obtain ⟨p1, p2, p3, -⟩ := hPQ c (by rw [← HM.out]; exact hc)
        exact ⟨p1, p3, p2.n.trans a2⟩
      have he0 : (0 : Int) ≤ (e : Int) := Int.natCast_nonneg _
      have he1 : (e : Int) < (n : Int) := by omega
      have hkl : (k : Int) < (sk.q.length : Int) := by omega
      have hqn : (sk.q.length : Int) ≤ (n : Int) := by omega
      clear a1 a2 a3 q3 hcc hPQ
      go_wp2_with fail
      go_loopw [44] (fun j wi => ∃ c : Nat, j = .int .i64 c ∧ c ≤ m ∧ Hid (StP base b m lim wi (procTo e c sk)) ∧ Hid (Below base w wi)) (fun j _ => m - (intOf j).toNat)
      case atStart => exact ⟨0, rfl, Nat.zero_le _, HS, HB⟩
      case round =>
        clear q1 hck c0 HS HB
        obtain ⟨c, rfl, hcm, HS, HB⟩ := hrel
        have hc0 : (0 : Int) ≤ (c : Int) := Int.natCast_nonneg _
        by_cases hc : c < m
        · have hcI : (c : Int) < (m : Int) := by omega
          obtain ⟨hI, hQ, hL⟩ := HPQ.out c hcm
          have HSTEP : Hid (procTo e (c + 1) sk = stepS e c (procTo e c sk)) := Lib.hid rfl
          have hlv : -1000000 ≤ (procTo e c sk).live ∧ (procTo e c sk).live ≤ 1000000 := by
            have h1 := hQ.lv
            have h2 := dc_le (procTo e c sk)
            omega
          have hqs : (procTo e c sk).q.length ≤ 1000000 := by
            have h1 := hQ.cnt
            have h2 := dc_le (procTo e c sk)
            omega
          generalize hsn : procTo e (c + 1) sk = sn at *
          have HSN := Lib.hid hsn
          clear hsn
          generalize procTo e c sk = sc at *
          have hel' : e < sc.t.length := by omega
          have hcg : c < 2 * g := by rw [← HM.out]; exact hc
          have hbd := hI.bd e hel' c hcg
          by_cases hd : sc.t.at e c < 0
          · have HE : Hid (stepS e c sc = sc) := Lib.hid (by unfold stepS; rw [if_pos hd])
            obtain ⟨gr, cr, be, ke, f1, f2, f3⟩ := HS.out.at_ hI hel' hcg
            rw [hL] at f1
            rw [← HM.out] at f2
            have hbd1 := hbd.1
            clear hI hQ hbd hlv hqs
            generalize sc.t.at e c = d at *
            go_wp2_with fail
            go_roundw
            case rel => exact ⟨c + 1, by go_num, by omega, by rw [HSN.out, HSTEP.out, HE.out]; exact HS, HB⟩
            case measure => simp [intOf]; omega
          · obtain ⟨d, hde⟩ : ∃ d : Nat, sc.t.at e c = (d : Int) := ⟨(sc.t.at e c).toNat, by omega⟩
            have hd' : 0 ≤ sc.t.at e c := by omega
            obtain ⟨gr, cr, be, ke, bd, kd, x2, f1, f2, f3, f4, f5, g1, g2, g3, g4, hst, hbe⟩ := HS.out.drew.cut hI hel' hcg hd'
            have hcut := hI.cut hel' hcg hd'
            rw [hde] at f3 f4 g2 hbd
            rw [Int.toNat_natCast] at f3 g2
            rw [hL] at f1 g1
            rw [← HM.out] at f2 f3 g2
            have hdl : d < n := by omega
            have hfl : flp c < m := by rw [HM.out]; exact flp_lt2 hcg
            have HXE := Lib.hid (flp_eq c (by omega))
            have HF4 := Lib.hid f4
            have HF5 := Lib.hid f5
            have HG3 := Lib.hid g3
            have HG4 := Lib.hid g4
            have HST := Lib.hid hst
            have HBE := Lib.hid ((HB.out.trans ((Below.refl wr.heap.size wr).drew.mono (Nat.le_trans HBW.out HB.out.size))).trans hbe)
            have HCUT := Lib.hid hcut
            have HCW : Hid (∀ W, (W = wr.drew ∨ W = wr.drew.setCell ⟨be, c, none⟩ (.int .i64 (-1))) → W.cell? ⟨b, 2, none⟩ = some (.slice (some ⟨gr, 0, none⟩) n cr) ∧ W.cell? ⟨gr, d, none⟩ = some (.slice (some ⟨bd, 0, none⟩) m kd)) := Lib.hid fun W hW => by
              rcases hW with rfl | rfl
              · exact ⟨f1, f3⟩
              · exact ⟨g1, g2⟩
            have HCE : Hid (∀ W, W = wr.drew → W.cell? ⟨gr, e, none⟩ = some (.slice (some ⟨be, 0, none⟩) m ke)) := Lib.hid fun W hW => by rw [hW]; exact f2
            have p1 : wr.cell? ⟨b, 2, none⟩ = some (.slice (some ⟨gr, 0, none⟩) n cr) := f1
            have p2 : wr.cell? ⟨gr, e, none⟩ = some (.slice (some ⟨be, 0, none⟩) m ke) := f2
            have p3 : wr.cell? ⟨be, c, none⟩ = some (.int .i64 (d : Int)) := f4
            have hd0 : (0 : Int) ≤ (d : Int) := Int.natCast_nonneg _
            have HSE : Hid (stepS e c sc = if 0 ≤ (cutT sc.t e c).at (sc.rp e) c then mergeS { sc with t := cutT sc.t e c } ((cutT sc.t e c).at (sc.rp e) c).toNat (sc.rp d) else
                if 0 ≤ (cutT sc.t e c).at (sc.rp d) (flp c) then mergeS { sc with t := cutT sc.t e c } ((cutT sc.t e c).at (sc.rp d) (flp c)).toNat (sc.rp e) else { sc with t := joinT (cutT sc.t e c) (sc.rp e) c (sc.rp d) }) := Lib.hid (by
              unfold stepS
              rw [if_neg hd, hde, Int.toNat_natCast])
            clear f1 f2 f3 f4 f5 g1 g2 g3 g4 hst hbe hd hd' hbd hcut
            go_wp2_with fail
            refine (wpIn_wide (n := 3)).1 ?_
            refine wpIn_region_all (by kernel_rfl) 21 rfl (fun i => if i < 18 then some (59 + i) else if i = 18 then none else if i = 19 then some 77 else none) (lex_of (by kernel_rfl)) (fun ls W => W = bif ls 20 then (wr.drew.setCell ⟨be, c, none⟩ (.int .i64 (-1))).setCell ⟨bd, flp c, none⟩ (.int .i64 (-1)) else bif ls 18 then wr.drew.setCell ⟨be, c, none⟩ (.int .i64 (-1)) else wr.drew)
              (fun i v _ => v = ([.pointer (some ⟨b, 0, none⟩), .pointer (some ⟨b, 0, none⟩), .pointer (some ⟨b, 2, none⟩), .slice (some ⟨gr, 0, none⟩) n cr, .int .i64 (e : Int), .pointer (some ⟨gr, e, none⟩), .slice (some ⟨be, 0, none⟩) m ke, .int .i64 (c : Int), .pointer (some ⟨b, 0, none⟩), .pointer (some ⟨b, 0, none⟩), .pointer (some ⟨b, 2, none⟩), .slice (some ⟨gr, 0, none⟩) n cr, .int .i64 (d : Int), .pointer (some ⟨gr, d, none⟩), .slice (some ⟨bd, 0, none⟩) m kd, .int .i64 (c : Int), .int .i64 ((flp c : Nat) : Int), .pointer (some ⟨be, c, none⟩), undef, .pointer (some ⟨bd, (flp c), none⟩), undef] : List Value).getD i undef) (fun _ _ _ => True) (dm_inj (by kernel_rfl)) (fun _ _ _ _ _ _ _ _ _ h => h) (dm_lt (n := 142) (by kernel_rfl)) rfl ?_ ?_
            · intro ls q o a w2 hq ho hS2 hls hcl hP hpre
              have hcases : q = 0 ∨ q = 1 ∨ q = 2 ∨ q = 3 ∨ q = 4 ∨ q = 5 ∨ q = 6 ∨ q = 7 ∨ q = 8 ∨ q = 9 ∨ q = 10 ∨ q = 11 ∨ q = 12 ∨ q = 13 ∨ q = 14 ∨ q = 15 ∨ q = 16 ∨ q = 17 ∨ q = 18 ∨ q = 19 ∨ q = 20 := by
                have : q < 21 := hq
                omega
              rcases hcases with rfl | rfl | rfl | rfl | rfl | rfl | rfl | rfl | rfl | rfl | rfl | rfl | rfl | rfl | rfl | rfl | rfl | rfl | rfl | rfl | rfl
              · obtain rfl := Option.some.inj ho
                exact wpOpIn_of rfl rfl (wpW_val (r_move (.tmp 0) rfl (hP.out 0 (dm_out (by kernel_rfl)))) ⟨_, rfl, hS2, trivial, (fun h => by simp at h), rfl⟩)
              · obtain rfl := Option.some.inj ho
                exact wpOpIn_of rfl rfl (wpW_val (r_nil (.tmp 59) _ rfl (hpre ⟨0, .data⟩ (by simp) rfl).2) ⟨_, rfl, hS2, trivial, (fun h => by simp at h), rfl⟩)
              · obtain rfl := Option.some.inj ho
                exact wpOpIn_of rfl rfl (wpW_val (r_fld (.tmp 60) _ rfl (hpre ⟨1, .data⟩ (by simp) rfl).2 (fld116_2 b _)) ⟨_, rfl, hS2, trivial, (fun h => by simp at h), rfl⟩)
              · obtain rfl := Option.some.inj ho
                have h20 := not_yet hcl 20 rfl ⟨3, .phase⟩ (by simp) rfl hls
                have hw := sel2 hS2 h20
                exact wpOpIn_of rfl rfl (wpW_val (r_load1 23 agg22 (.tmp 61) ⟨b, 2, none⟩ rfl (hpre ⟨2, .data⟩ (by simp) rfl).2 (HCW.out _ hw).1) ⟨_, rfl, hS2, trivial, (fun h => by simp at h), rfl⟩)
              · obtain rfl := Option.some.inj ho
                exact wpOpIn_of rfl rfl (wpW_val (r_move (.tmp 7) rfl (hP.out 7 (dm_out (by kernel_rfl)))) ⟨_, rfl, hS2, trivial, (fun h => by simp at h), rfl⟩)
              · obtain rfl := Option.some.inj ho
                exact wpOpIn_of rfl rfl (wpW_val (r_idx (.tmp 62) (.tmp 63) _ _ rfl (hpre ⟨3, .data⟩ (by simp) rfl).2 (hpre ⟨4, .data⟩ (by simp) rfl).2 (idx_sl Try.underlying23 size24 gr _ cr e hel _)) ⟨_, rfl, hS2, trivial, (fun h => by simp at h), rfl⟩)
              · obtain rfl := Option.some.inj ho
                have h20 := not_yet hcl 20 rfl ⟨6, .phase⟩ (by simp) rfl hls
                have h18 := not_yet hcl 18 rfl ⟨6, .phase⟩ (by simp) rfl hls
                exact wpOpIn_of rfl rfl (wpW_val (r_load1 22 agg24 (.tmp 64) ⟨gr, e, none⟩ rfl (hpre ⟨5, .data⟩ (by simp) rfl).2 (HCE.out _ (sel3 hS2 h20 h18))) ⟨_, rfl, hS2, trivial, (fun h => by simp at h), rfl⟩)
              · obtain rfl := Option.some.inj ho
                exact wpOpIn_of rfl rfl (wpW_val (r_move (.tmp 8) rfl (hP.out 8 (dm_out (by kernel_rfl)))) ⟨_, rfl, hS2, trivial, (fun h => by simp at h), rfl⟩)
              · obtain rfl := Option.some.inj ho
                exact wpOpIn_of rfl rfl (wpW_val (r_move (.tmp 0) rfl (hP.out 0 (dm_out (by kernel_rfl)))) ⟨_, rfl, hS2, trivial, (fun h => by simp at h), rfl⟩)
              · obtain rfl := Option.some.inj ho
                exact wpOpIn_of rfl rfl (wpW_val (r_nil (.tmp 67) _ rfl (hpre ⟨8, .data⟩ (by simp) rfl).2) ⟨_, rfl, hS2, trivial, (fun h => by simp at h), rfl⟩)
              · obtain rfl := Option.some.inj ho
                exact wpOpIn_of rfl rfl (wpW_val (r_fld (.tmp 68) _ rfl (hpre ⟨9, .data⟩ (by simp) rfl).2 (fld116_2 b _)) ⟨_, rfl, hS2, trivial, (fun h => by simp at h), rfl⟩)
              · obtain rfl := Option.some.inj ho
                have h20 := not_yet hcl 20 rfl ⟨11, .phase⟩ (by simp) rfl hls
                have hw := sel2 hS2 h20
                exact wpOpIn_of rfl rfl (wpW_val (r_load1 23 agg22 (.tmp 69) ⟨b, 2, none⟩ rfl (hpre ⟨10, .data⟩ (by simp) rfl).2 (HCW.out _ hw).1) ⟨_, rfl, hS2, trivial, (fun h => by simp at h), rfl⟩)
              · obtain rfl := Option.some.inj ho
                exact wpOpIn_of rfl rfl (wpW_val (r_move (.tmp 9) rfl (hP.out 9 (dm_out (by kernel_rfl)))) ⟨_, rfl, hS2, trivial, (fun h => by simp at h), rfl⟩)
              · obtain rfl := Option.some.inj ho
                exact wpOpIn_of rfl rfl (wpW_val (r_idx (.tmp 70) (.tmp 71) _ _ rfl (hpre ⟨11, .data⟩ (by simp) rfl).2 (hpre ⟨12, .data⟩ (by simp) rfl).2 (idx_sl Try.underlying23 size24 gr _ cr d hdl _)) ⟨_, rfl, hS2, trivial, (fun h => by simp at h), rfl⟩)
              · obtain rfl := Option.some.inj ho
                have h20 := not_yet hcl 20 rfl ⟨14, .phase⟩ (by simp) rfl hls
                have hw := sel2 hS2 h20
                exact wpOpIn_of rfl rfl (wpW_val (r_load1 22 agg24 (.tmp 72) ⟨gr, d, none⟩ rfl (hpre ⟨13, .data⟩ (by simp) rfl).2 (HCW.out _ hw).2) ⟨_, rfl, hS2, trivial, (fun h => by simp at h), rfl⟩)
              · obtain rfl := Option.some.inj ho
                exact wpOpIn_of rfl rfl (wpW_val (r_move (.tmp 8) rfl (hP.out 8 (dm_out (by kernel_rfl)))) ⟨_, rfl, hS2, trivial, (fun h => by simp at h), rfl⟩)
              · obtain rfl := Option.some.inj ho
                exact wpOpIn_of rfl rfl (wpW_val (r_xor (.tmp 74) (c : Int) _ rfl (hpre ⟨15, .data⟩ (by simp) rfl).2 HXE.out) ⟨_, rfl, hS2, trivial, (fun h => by simp at h), rfl⟩)
              · obtain rfl := Option.some.inj ho
                exact wpOpIn_of rfl rfl (wpW_val (r_idx (.tmp 65) (.tmp 66) _ _ rfl (hpre ⟨6, .data⟩ (by simp) rfl).2 (hpre ⟨7, .data⟩ (by simp) rfl).2 (idx_sl Try.underlying22 size3 be _ ke c hc _)) ⟨_, rfl, hS2, trivial, (fun h => by simp at h), rfl⟩)
              · obtain rfl := Option.some.inj ho
                have h20 := not_yet hcl 20 rfl ⟨18, .chain⟩ (by simp) rfl hls
                have hw := sel3 hS2 h20 hls
                subst hw
                exact wpOpIn_of rfl rfl (wpW_skip (r_store1 3 (.tmp 76) (.const (.int .i64 (-1))) _ _ _ rfl (hpre ⟨17, .data⟩ (by simp) rfl).2 rfl rfl HF4.out HF5.out (st3 _ _ _ HF4.out HF5.out)) ⟨undef, rfl, (by show _ = bif ls 20 then _ else _; rw [h20]; rfl), trivial, fun _ => rfl, rfl⟩)
              · obtain rfl := Option.some.inj ho
                exact wpOpIn_of rfl rfl (wpW_val (r_idx (.tmp 73) (.tmp 75) _ _ rfl (hpre ⟨14, .data⟩ (by simp) rfl).2 (hpre ⟨16, .data⟩ (by simp) rfl).2 (idx_sl Try.underlying22 size3 bd _ kd (flp c) hfl _)) ⟨_, rfl, hS2, trivial, (fun h => by simp at h), rfl⟩)
              · obtain rfl := Option.some.inj ho
                have h18 : ls 18 = true := (hpre ⟨18, .chain⟩ (by simp) rfl).1
                rw [hls, h18] at hS2
                change w2 = wr.drew.setCell ⟨be, c, none⟩ (.int .i64 (-1)) at hS2
                subst hS2
                exact wpOpIn_of rfl rfl (wpW_skip (r_store1 3 (.tmp 77) (.const (.int .i64 (-1))) _ _ _ rfl (hpre ⟨19, .data⟩ (by simp) rfl).2 rfl rfl HG3.out HG4.out (st3 _ _ _ HG3.out HG4.out)) ⟨undef, rfl, rfl, trivial, fun _ => rfl, rfl⟩)
            · intro ls a w2 hall hS2 hP hsl
              have h20 : ls 20 = true := hall 20 (by decide)
              rw [h20] at hS2
              obtain ⟨vs, hvs, hfr⟩ := hP.frame 142 rfl
              clear hsl hP hall h20 hvs HCW HCE HF4 HF5 HG3 HG4
              subst hfr
              subst hS2
              dsimp only
              simp only [List.range, List.range.loop, List.map_cons, List.map_nil, List.any_cons, List.any_nil, Nat.reduceAdd, Nat.reduceBEq, Nat.reduceLT, Nat.reduceEqDiff, Option.some_beq_some, Bool.or_false, if_true, if_false, List.getD_cons_zero, List.getD_cons_succ, cond_true]
              generalize hs1e : ({ sc with t := cutT sc.t e c } : St) = s2 at *
              have hL2 : s2.t.length = n := by rw [← hs1e]; exact (length_cut _ _ _).trans hL
              have ht2 : s2.t = cutT sc.t e c := by rw [← hs1e]
              have hrp : ∀ z, s2.rp z = sc.rp z := fun z => by rw [← hs1e]; rfl
              have hlv2 : -1000000 ≤ s2.live ∧ s2.live ≤ 1000000 := by rw [← hs1e]; exact hlv
              have hqs2 : s2.q.length ≤ 1000000 := by rw [← hs1e]; exact hqs
              rw [← ht2, ← hrp e, ← hrp d] at HSE
              have hu : s2.rp e < n := by have := HCUT.out.rlt (x := e) (by omega); omega
              have hv : s2.rp d < n := by have := HCUT.out.rlt (x := d) (by omega); omega
              have hb1 := HCUT.out.bd (s2.rp e) (by omega) c hcg
              have hb2 := HCUT.out.bd (s2.rp d) (by omega) (flp c) (flp_lt2 hcg)
              have HFE := Lib.hid fun W (h : StP base b m lim W s2) => find156_any g base b m lim e W s2 HCUT.out h (by omega) (by omega)
              have HFD := Lib.hid fun W (h : StP base b m lim W s2) => find156_any g base b m lim d W s2 HCUT.out h (by omega) (by omega)
              have HAE : Hid (∀ W, StP base b m lim W s2 → ∃ gr cr br k, W.cell? ⟨b, 2, none⟩ = some (.slice (some ⟨gr, 0, none⟩) n cr) ∧ W.cell? ⟨gr, s2.rp e, none⟩ = some (.slice (some ⟨br, 0, none⟩) m k) ∧ W.cell? ⟨br, c, none⟩ = some (.int .i64 (s2.t.at (s2.rp e) c))) := Lib.hid fun W h => by
                obtain ⟨gr, cr, br, k, h1, h2, h3⟩ := h.at_ HCUT.out (r := s2.rp e) (c := c) (by omega) hcg
                rw [hL2] at h1
                rw [← HM.out] at h2
                exact ⟨gr, cr, br, k, h1, h2, h3⟩
              have HAD : Hid (∀ W, StP base b m lim W s2 → ∃ gr cr br k, W.cell? ⟨b, 2, none⟩ = some (.slice (some ⟨gr, 0, none⟩) n cr) ∧ W.cell? ⟨gr, s2.rp d, none⟩ = some (.slice (some ⟨br, 0, none⟩) m k) ∧ W.cell? ⟨br, flp c, none⟩ = some (.int .i64 (s2.t.at (s2.rp d) (flp c)))) := Lib.hid fun W h => by
                obtain ⟨gr, cr, br, k, h1, h2, h3⟩ := h.at_ HCUT.out (r := s2.rp d) (c := flp c) (by omega) (flp_lt2 hcg)
                rw [hL2] at h1
                rw [← HM.out] at h2
                exact ⟨gr, cr, br, k, h1, h2, h3⟩
              have HME2 : Hid (∀ W (p q : Nat), p < n → q < n → StP base b m lim W s2 → base ≤ W.heap.size → Calls Try.prog 117 #[.pointer (some ⟨b, 0, none⟩), .int .i64 (p : Int), .int .i64 (q : Int)] W fun e w' => e = .returned (.tuple #[]) ∧ StP base b m lim w' (mergeS s2 p q) ∧ Below base W w') := Lib.hid fun W p q hp hq h hw =>
                merge155_any g base b m lim p q W s2 HCUT.out h hw (by omega) (by omega) (by omega) hqs2 hlv2.1 hlv2.2
              have HJO : Hid (∀ W, StP base b m lim W s2 → base ≤ W.heap.size → Calls Try.prog 112 #[.pointer (some ⟨b, 0, none⟩), .int .i64 (s2.rp e : Int), .int .i64 (c : Int), .int .i64 (s2.rp d : Int)] W fun E w' => E = .returned (.tuple #[]) ∧ StP base b m lim w' (joinS s2 (s2.rp e) c (s2.rp d)) ∧ Below base W w') := Lib.hid fun W h hw =>
                join149_any g base b m lim (s2.rp e) c (s2.rp d) W s2 HCUT.out hg h hw (by omega) (by omega) hcg (by omega)
              have hjoin : ({ sc with t := joinT s2.t (s2.rp e) c (s2.rp d) } : St) = joinS s2 (s2.rp e) c (s2.rp d) := by rw [← hs1e]; rfl
              rw [hjoin] at HSE
              clear hjoin hs1e hlv2 hqs2 hlv hqs hrp ht2 HCUT hI hQ
              generalize s2.t.at (s2.rp e) c = y1 at *
              generalize s2.t.at (s2.rp d) (flp c) = y2 at *
              generalize joinS s2 (s2.rp e) c (s2.rp d) = sj at *
              generalize s2.rp e = u at *
              generalize s2.rp d = v at *
              have hu0 : (0 : Int) ≤ (u : Int) := Int.natCast_nonneg _
              have hv0 : (0 : Int) ≤ (v : Int) := Int.natCast_nonneg _
              have hu1 : (u : Int) < (n : Int) := by omega
              have hv1 : (v : Int) < (n : Int) := by omega
              generalize (wr.drew.setCell ⟨be, c, none⟩ (.int .i64 (-1))).setCell ⟨bd, flp c, none⟩ (.int .i64 (-1)) = w9 at *
              by_cases h1 : 0 ≤ y1
              · obtain ⟨z1, rfl⟩ : ∃ z : Nat, y1 = (z : Int) := ⟨y1.toNat, by omega⟩
                have HRES : Hid (stepS e c sc = mergeS s2 z1 v) := Lib.hid (by rw [HSE.out, if_pos h1, Int.toNat_natCast])
                have HLAST : Hid (∀ W, StP base b m lim W s2 → base ≤ W.heap.size → Calls Try.prog 117 #[.pointer (some ⟨b, 0, none⟩), .int .i64 (z1 : Int), .int .i64 (v : Int)] W fun E w' => E = .returned (.tuple #[]) ∧ StP base b m lim w' (mergeS s2 z1 v) ∧ Below base W w') := Lib.hid fun W h hw => HME2.out W z1 v (by omega) hv h hw
                clear HME2 HJO HAD
                generalize mergeS s2 z1 v = s9 at *
                go_wp2_with (first
                  | (go_at_call 118; (with_reducible refine (HFE.out _ HST.out).mono ?_); rintro E w10 ⟨rfl, hs1, hb1⟩
                     have HS10 := Lib.hid hs1
                     have HB10 := Lib.hid (HBE.out.trans hb1)
                     clear hs1 hb1 HFE)
                  | (go_at_call 118; (with_reducible refine (HFD.out _ HS10.out).mono ?_); rintro E w11 ⟨rfl, hs2, hb2⟩
                     have HS11 := Lib.hid hs2
                     have HB11 := Lib.hid (HB10.out.trans hb2)
                     obtain ⟨gr2, cr2, br2, k2, a1, a2, a3⟩ := HAE.out _ hs2
                     clear hs2 hb2 HFD)
                  | (go_at_call 117; (with_reducible refine (HLAST.out _ HS11.out (Nat.le_trans HBW.out HB11.out.size)).mono ?_); rintro E w12 ⟨rfl, hs3, hb3⟩
                     have HS12 := Lib.hid hs3
                     have HB12 := Lib.hid (HB11.out.trans hb3)
                     clear hs3 hb3))
                go_roundw
                case rel => exact ⟨c + 1, by go_num, by omega, by rw [HSN.out, HSTEP.out, HRES.out]; exact HS12, HB12⟩
                case measure => simp [intOf]; omega
              · have h1' : y1 < 0 := by omega
                have hfe := HXE.out
                have hf0 : (0 : Int) ≤ ((flp c : Nat) : Int) := Int.natCast_nonneg _
                have hf1 : ((flp c : Nat) : Int) < (m : Int) := by omega
                by_cases h2 : 0 ≤ y2
                · obtain ⟨z2, rfl⟩ : ∃ z : Nat, y2 = (z : Int) := ⟨y2.toNat, by omega⟩
                  have HRES : Hid (stepS e c sc = mergeS s2 z2 u) := Lib.hid (by rw [HSE.out, if_neg h1, if_pos h2, Int.toNat_natCast])
                  have HLAST : Hid (∀ W, StP base b m lim W s2 → base ≤ W.heap.size → Calls Try.prog 117 #[.pointer (some ⟨b, 0, none⟩), .int .i64 (z2 : Int), .int .i64 (u : Int)] W fun E w' => E = .returned (.tuple #[]) ∧ StP base b m lim w' (mergeS s2 z2 u) ∧ Below base W w') := Lib.hid fun W h hw => HME2.out W z2 u (by omega) hu h hw
                  clear HME2 HJO h1
                  generalize mergeS s2 z2 u = s9 at *
                  go_wp2_with (first
                    | (go_at_call 118; (with_reducible refine (HFE.out _ HST.out).mono ?_); rintro E w10 ⟨rfl, hs1, hb1⟩
                       have HS10 := Lib.hid hs1
                       have HB10 := Lib.hid (HBE.out.trans hb1)
                       clear hs1 hb1 HFE)
                    | (go_at_call 118; (with_reducible refine (HFD.out _ HS10.out).mono ?_); rintro E w11 ⟨rfl, hs2, hb2⟩
                       have HS11 := Lib.hid hs2
                       have HB11 := Lib.hid (HB10.out.trans hb2)
                       obtain ⟨gr2, cr2, br2, k2, a1, a2, a3⟩ := HAE.out _ hs2
                       obtain ⟨gr3, cr3, br3, k3, a4, a5, a6⟩ := HAD.out _ hs2
                       rw [a4] at a1
                       injection a1 with a1
                       injection a1 with a1 e2 e3
                       injection a1 with a1
                       injection a1 with a1
                       subst a1
                       clear e2 e3
                       clear hs2 hb2 HFD)
                    | (go_at_call 117; (with_reducible refine (HLAST.out _ HS11.out (Nat.le_trans HBW.out HB11.out.size)).mono ?_); rintro E w12 ⟨rfl, hs3, hb3⟩
                       have HS12 := Lib.hid hs3
                       have HB12 := Lib.hid (HB11.out.trans hb3)
                       clear hs3 hb3))
                  go_roundw
                  case rel => exact ⟨c + 1, by go_num, by omega, by rw [HSN.out, HSTEP.out, HRES.out]; exact HS12, HB12⟩
                  case measure => simp [intOf]; omega
                · have h2' : y2 < 0 := by omega
                  have HRES : Hid (stepS e c sc = sj) := Lib.hid (by rw [HSE.out, if_neg h1, if_neg h2])
                  have HLAST := HJO
                  clear HME2 HJO h1 h2
                  go_wp2_with (first
                    | (go_at_call 118; (with_reducible refine (HFE.out _ HST.out).mono ?_); rintro E w10 ⟨rfl, hs1, hb1⟩
                       have HS10 := Lib.hid hs1
                       have HB10 := Lib.hid (HBE.out.trans hb1)
                       clear hs1 hb1 HFE)
                    | (go_at_call 118; (with_reducible refine (HFD.out _ HS10.out).mono ?_); rintro E w11 ⟨rfl, hs2, hb2⟩
                       have HS11 := Lib.hid hs2
                       have HB11 := Lib.hid (HB10.out.trans hb2)
                       obtain ⟨gr2, cr2, br2, k2, a1, a2, a3⟩ := HAE.out _ hs2
                       obtain ⟨gr3, cr3, br3, k3, a4, a5, a6⟩ := HAD.out _ hs2
                       rw [a4] at a1
                       injection a1 with a1
                       injection a1 with a1 e2 e3
                       injection a1 with a1
                       injection a1 with a1
                       subst a1
                       clear e2 e3
                       clear hs2 hb2 HFD)
                    | (go_at_call 112; (with_reducible refine (HLAST.out _ HS11.out (Nat.le_trans HBW.out HB11.out.size)).mono ?_); rintro E w12 ⟨rfl, hs3, hb3⟩
                       have HS12 := Lib.hid hs3
                       have HB12 := Lib.hid (HB11.out.trans hb3)
                       clear hs3 hb3))
                  go_roundw
                  case rel => exact ⟨c + 1, by go_num, by omega, by rw [HSN.out, HSTEP.out, HRES.out]; exact HS12, HB12⟩
                  case measure => simp [intOf]; omega
        · have hcm' : c = m := by omega
          subst hcm'
          go_wp2_with fail
          go_roundw
          case rel => exact ⟨k + 1, by go_num, by omega, by rw [HN1.out]; exact HS, HB⟩
          case measure => simp [intOf]; omega
    · clear q3
      have HE : Hid (se = coinTo m k s1) := Lib.hid (HEND.out k (by omega) hkn)
      have hlt' : ¬ (k : Int) < ((coinTo m k s1).q.length : Int) := by omega
      have hql' : ((coinTo m k s1).q.length : Int) ≤ (n : Int) := by omega
      clear a1 a2 a3
      go_wp2_with fail
      go_end0
      exact ⟨rfl, by rw [HE.out]; exact HS.out, HB.out⟩
end Go.Proofs.B18
namespace Go.Proofs.B18
open Go.Shelf
def Try.lays212_ren : Go.Shelf.Ren := ⟨fun | 212 => 96 | 263 => 107 | 264 => 108 | n => n, fun | 46 => 140 | 51 => 152 | 146 => 153 | 53 => 155 | 148 => 156 | n => n, fun | n => n⟩
theorem Try.lays212 : Go.Proofs.Lays.n212 Try.prog Try.lays212_ren := {
  mixed := by kernel_rfl
  f212 := Try.func96.trans (congrArg some (by kernel_rfl))
  f263 := Try.func107.trans (congrArg some (by kernel_rfl))
  f264 := Try.func108.trans (congrArg some (by kernel_rfl))
  t46 := Try.underlying140
  a46 := Try.isAgg140
  z46 := Try.sizeOf140
  v46 := Try.zeroValue140
  t51 := Try.underlying152
  a51 := Try.isAgg152
  z51 := Try.sizeOf152
  v51 := Try.zeroValue152
  t53 := Try.underlying155
  a53 := Try.isAgg155
  z53 := Try.sizeOf155
  v53 := Try.zeroValue155
  t146 := Try.underlying153
  a146 := Try.isAgg153
  z146 := Try.sizeOf153
  v146 := Try.zeroValue153
  t148 := Try.underlying156
  a148 := Try.isAgg156
  z148 := Try.sizeOf156
  v148 := Try.zeroValue156 }
end Go.Proofs.B18
namespace Go.Proofs.B18
open Go.RowKit Go.Proofs.Ct Go.Shelf
/-- k letters x, then noughts, c in all -/
def rp (x : Int) (k c : Nat) : List Value := List.replicate k (.int .i64 x) ++ List.replicate (c - k) (.int .i64 0)
theorem length_rp (x : Int) {k c : Nat} (h : k ≤ c) : (rp x k c).length = c := by simp [rp]; omega
theorem rp_get (x : Int) {k c j : Nat} (_h : k ≤ c) (hj : j < c) : (rp x k c)[j]? = some (.int .i64 (if j < k then x else 0)) := by
  unfold rp
  rw [List.getElem?_append]
  simp only [List.length_replicate, List.getElem?_replicate]
  by_cases h1 : j < k
  · simp [h1]
  · simp [h1]; omega
theorem rp_step (x : Int) {k m c : Nat} (h : k + m ≤ c) : (rp x k c).take k ++ List.replicate m (.int .i64 x) ++ (rp x k c).drop (k + m) = rp x (k + m) c := by
  have h1 : (rp x k c).take k = List.replicate k (.int .i64 x) := by
    unfold rp
    rw [List.take_append_of_le_length (by simp)]
    simp
  have h2 : (rp x k c).drop (k + m) = List.replicate (c - (k + m)) (.int .i64 0) := by
    unfold rp
    rw [List.drop_append, List.drop_replicate, List.length_replicate, List.drop_replicate]
    rw [show k - (k + m) = 0 by omega, show c - k - (k + m - k) = c - (k + m) by omega]
    simp
  rw [h1, h2, List.replicate_append_replicate]
  rfl
theorem make24r (w : World) (n : Nat) (hn : n ≤ 100000) : (Instr.makeSlice 22 (.int .i64 (n : Int)) (.int .i64 (n : Int))).run Try.prog w =
    .ok (.slice (some ⟨w.heap.size, 0, none⟩) n n) (w.alloc (.cells (Array.replicate n (.int .i64 0)) 3)) := by
  obtain ⟨i, hi, hz, hs, hb⟩ := info3p
  have := run_makeSlice (P := Try.prog) w 22 3 i (.int .i64 0) Try.underlying22 hi hz .i64 .i64 n n (by omega) (Int.le_refl _) (by rw [hs]; simp; omega) (by rw [hb]; omega) (by omega)
  rw [this, hs, Int.toNat_natCast, Nat.mul_one, made3]
/-- copy(row[k:], row[:k]), one doubling -/
theorem copy_double {w : World} {g c k m : Nat} {x : Int} (hg : w.heap[g]? = some (.cells (rp x k c).toArray 3 (0, 0))) (hk : k ≤ c) (hm : m = min k (c - k)) (ty : TypeId) :
    (Builtin.copy_ #[22, 22] ty #[.slice (some ⟨g, k, none⟩) (c - k) (c - k), .slice (some ⟨g, 0, none⟩) k c]).run Try.prog w = .ok (.int .i64 m) (w.setRow g (rp x (k + m) c).toArray) := by
  have h3 : (Try.prog.info? 3).map (·.size) = some 1 := by kernel_rfl
  have := run_copy_row (P := Try.prog) w 22 22 ty 3 g k (c - k) (c - k) ⟨g, 0, none⟩ k c (rp x k c).toArray 3 (List.replicate m (.int .i64 x)) Try.underlying22 h3 hg (by rw [List.length_replicate, hm]; first | rfl | done)
    (fun j v hv => by
      have hj : j < m := by have := (List.getElem?_eq_some_iff.1 hv).1; simpa using this
      rw [Addr.add_lit, Nat.zero_add, cell_of_row _ _ _ _ _ _ hg, List.getElem?_toArray, rp_get x hk (by omega), if_pos (by omega), ← hv]
      simp [hj]) (by rw [List.size_toArray, length_rp x hk, List.length_replicate]; omega) (fun v hv => by rw [(List.mem_replicate.1 hv).2]; rfl)
  rw [this]
  simp only [List.length_replicate]
  rw [rp_step x (by omega)]
  rfl
theorem copy_first {w : World} {g c b o cc : Nat} {x : Int} (hg : w.heap[g]? = some (.cells (rp x 0 c).toArray 3 (0, 0))) (hc : 0 < c) (hb : w.cell? ⟨b, o, none⟩ = some (.int .i64 x)) (ty : TypeId) :
    (Builtin.copy_ #[22, 22] ty #[.slice (some ⟨g, 0, none⟩) c c, .slice (some ⟨b, o, none⟩) 1 cc]).run Try.prog w = .ok (.int .i64 1) (w.setRow g (rp x 1 c).toArray) := by
  have h3 : (Try.prog.info? 3).map (·.size) = some 1 := by kernel_rfl
  have := run_copy_row (P := Try.prog) w 22 22 ty 3 g 0 c c ⟨b, o, none⟩ 1 cc (rp x 0 c).toArray 3 [.int .i64 x] Try.underlying22 h3 hg (by show 1 = min 1 c; omega)
    (fun j v hv => by
      match j, hv with
      | 0, hv => rw [Addr.add_lit, Nat.add_zero, hb]; simpa using hv) (by rw [List.size_toArray, length_rp x (Nat.zero_le _)]; simp; omega) (fun v hv => by simp at hv; rw [hv]; rfl)
  rw [this]
  have e := rp_step x (k := 0) (m := 1) (c := c) (by omega)
  rw [Nat.zero_add] at e
  rw [← e]
  simp [goInt]
theorem copy_none {w : World} {g b o cc : Nat} (ty : TypeId) : (Builtin.copy_ #[22, 22] ty #[.slice (some ⟨g, 0, none⟩) 0 0, .slice (some ⟨b, o, none⟩) 1 cc]).run Try.prog w = .ok (.int .i64 0) w := by
  have h3 : (Try.prog.info? 3).map (·.size) = some 1 := by kernel_rfl
  exact run_copy_none (P := Try.prog) w 22 22 ty 3 _ _ _ _ _ _ Try.underlying22 h3 (by show min 1 0 = 0; rfl)
theorem mul153 (w : World) (c : Nat) (hc : c ≤ 1000) : Calls Try.prog 96 #[.int .u64 1, .int .u64 c] w fun e w' => e = .returned (.tuple #[.int .u64 0, .int .u64 c]) ∧ w' = w :=
  (Any.bits_Mul Try.lays212 1 c (by omega) (by omega) w).mono fun e w' ⟨he, hw⟩ => by
    refine ⟨?_, hw⟩
    rw [he, show 1 * c / 18446744073709551616 = 0 by omega, show 1 * c % 18446744073709551616 = c by omega]
    rfl
/-- v owns c letters x -/
def Rep (w : World) (x : Int) (c : Nat) (e : Ending) (w' : World) : Prop := ∃ v, e = .returned v ∧ (∃ g, v = .slice (some ⟨g, 0, none⟩) c c ∧ w.heap.size ≤ g ∧ w'.heap[g]? = some (.cells (rp x c c).toArray 3 (0, 0))) ∧ Below w.heap.size w w'
theorem rp_zero (x : Int) (c : Nat) : Array.replicate c (Value.int .i64 0) = (rp x 0 c).toArray := by simp [rp]
theorem drew_setRow (w : World) (g : Nat) (cs : Array Value) : w.drew.setRow g cs = (w.setRow g cs).drew := rfl
set_option maxRecDepth 100000 in
set_option maxHeartbeats 1000000 in
theorem repeat148_any (w : World) (b o cc : Nat) (x : Int) (c : Nat) (hc : c ≤ 1000) (hx : w.cell? ⟨b, o, none⟩ = some (.int .i64 x)) :
    Calls Try.prog 111 #[.slice (some ⟨b, o, none⟩) 1 cc, .int .i64 c] w (Rep w x c) := by
  have hmk := make24r w c (by omega)
  rw [rp_zero x c] at hmk
  have hg0 := heap_alloc_new w (.cells (rp x 0 c).toArray 3)
  have hb0 : Below w.heap.size w (w.alloc (.cells (rp x 0 c).toArray 3)) := (Below.refl _ _).alloc (Nat.le_refl _) _
  have hx0 := (hb0.cell (p := ⟨b, o, none⟩) (World.block_lt_of_cell? w _ hx)).trans hx
  have hc0 : (0 : Int) ≤ (c : Int) := Int.natCast_nonneg _
  have hc1 : (c : Int) ≤ 1000 := by omega
  have HM := Lib.hid (mul153 w c hc)
  have HG := Lib.hid hg0
  have HB := Lib.hid hb0
  clear hg0 hb0 hx
  generalize w.alloc (.cells (rp x 0 c).toArray 3) = W at *
  have d1 : decide ((c : Int) < 0) = false := by simp
  go_enter Try.func111, Try.ntmps111
  go_wp2_with fail
  rcases Nat.eq_zero_or_pos c with h0 | h0
  · subst h0
    have hmk0 : (Instr.makeSlice 22 (.int .i64 0) (.int .i64 0)).run Try.prog w = .ok (.slice (some ⟨w.heap.size, 0, none⟩) 0 0) W := hmk
    have hcn := copy_none (w := W) (g := w.heap.size) (b := b) (o := o) (cc := cc) 3
    go_wp2_with (go_at_call 96; (refine HM.out.mono ?_); rintro e w' ⟨rfl, rfl⟩)
    go_loop [8] (fun s => s = .int .i64 0) (fun _ => 0)
    case atStart => rfl
    case round =>
      subst hrel
      go_wp2_with fail
      go_ret
      exact ⟨_, rfl, ⟨_, rfl, Nat.le_refl _, HG.out⟩, HB.out⟩
  · have hcf := copy_first (cc := cc) HG.out h0 hx0 3
    have hg1 := setRow_heap W w.heap.size _ (rp x 1 c).toArray 3 (0, 0) HG.out
    have hb1 : Below w.heap.size w (W.setRow w.heap.size (rp x 1 c).toArray) := HB.out.trans ⟨rfl, rfl, rfl, by rw [World.setRow]; simp, fun k hk => setRow_other W _ k _ (by omega)⟩
    have hcc1 : (1 : Int) ≤ (c : Int) := by omega
    go_wp2_with (go_at_call 96; (refine HM.out.mono ?_); rintro e w' ⟨rfl, rfl⟩)
    generalize W.setRow w'.heap.size (rp x 1 c).toArray = W1 at *
    go_loopw [8] (fun s wr => ∃ k : Nat, 1 ≤ k ∧ k ≤ c ∧ s = .int .i64 k ∧ wr.heap[w'.heap.size]? = some (.cells (rp x k c).toArray 3 (0, 0)) ∧ Below w'.heap.size w' wr) (fun s _ => c - (intOf s).toNat)
    case atStart => exact ⟨1, Nat.le_refl _, h0, rfl, hg1, hb1⟩
    case round =>
      obtain ⟨k, hk1, hk, rfl, hg, hb⟩ := hrel
      by_cases hlt : k < c
      · have hk0 : (0 : Int) ≤ (k : Int) := Int.natCast_nonneg _
        have hkc : (k : Int) ≤ (c : Int) := by omega
        have hkl : (k : Int) < (c : Int) := by omega
        obtain ⟨m, hm⟩ : ∃ m, m = min k (c - k) := ⟨_, rfl⟩
        have hm1 : 1 ≤ m := by omega
        have hm2 : k + m ≤ c := by omega
        have hcd := copy_double (w := wr.drew) (x := x) (m := m) hg hk hm 3
        have hgn := setRow_heap wr w'.heap.size _ (rp x (k + m) c).toArray 3 (0, 0) hg
        have hbn : Below w'.heap.size w' (wr.setRow w'.heap.size (rp x (k + m) c).toArray) := hb.trans ⟨rfl, rfl, rfl, by rw [World.setRow]; simp, fun k hk => setRow_other wr _ k _ (by omega)⟩
        rw [drew_setRow] at hcd
        have HM' := Lib.hid hm
        have HGN := Lib.hid hgn
        have HBN := Lib.hid hbn
        clear hg hb hm hgn hbn hcf hmk
        go_wp2_with fail
        go_region
        go_wp2_with fail
        go_roundw
        case rel => exact ⟨k + m, by omega, by omega, by go_num, HGN.out, HBN.out.drew⟩
        case measure => simp [intOf]; omega
      · obtain rfl : k = c := by omega
        go_wp2_with fail
        go_ret
        exact ⟨_, rfl, ⟨_, rfl, Nat.le_refl _, hg⟩, hb⟩
end Go.Proofs.B18
namespace Go.Proofs.B18
open Go.RowKit Go.Shelf Go.Proofs.Ct Go.Maps
/-- append of one element, wherever it lies -/
theorem run_push_at {t ty e : TypeId} {z : Value} {bytes : Nat} (ht : Try.prog.underlying t = some (.slice e)) (hi : ∃ i, Try.prog.info? e = some i ∧ i.zero = some z ∧ i.size = 1 ∧ i.bytes = bytes) (hz : z.cells.size = 1) (hby : bytes ≤ 1000)
    (w : World) (base : Nat) (v : Value) (n : Nat) (xs : List Value) (hown : w.ownsRow base e 1 v n xs) (x : Value) (h1 : x.oneCell' = true) (hn : n ≤ 10000000) (hb : base ≤ w.heap.size) (h : Nat) (hx : w.cell? ⟨h, 0, none⟩ = some x) :
    ∃ A' c' w', (Builtin.append_ #[t, t] ty #[v, .slice (some ⟨h, 0, none⟩) 1 1]).run Try.prog w = .ok (.slice A' (n + 1) c') w' ∧ w'.ownsRow base e 1 (.slice A' (n + 1) c') (n + 1) (xs ++ [x]) ∧
      w.grownBy w' v.ownBlock ∧ ((Value.slice A' (n + 1) c').ownBlock = v.ownBlock ∨ ∃ r, (Value.slice A' (n + 1) c').ownBlock = some r ∧ w.heap.size ≤ r) := by
  obtain ⟨i, hi, hz', hs, hb'⟩ := hi
  have hnews : ∀ j u, [x][j]? = some u → w.cell? ((⟨h, 0, none⟩ : Addr).add j) = some u := fun j u hu => by
    match j, hu with
    | 0, hu => rw [Addr.add_lit, Nat.add_zero, hx]; simpa using hu
  obtain ⟨v', w', hr, hown', hg, -, hw⟩ := run_append_own_at (P := Try.prog) w base t ty e i z 1 bytes ht hi hz' hs hb' hz (by omega) v n xs hown ⟨h, 0, none⟩ 1 1 [x] rfl hnews (fun u hu => by simp at hu; rw [hu]; exact h1) (by unfold maxLen; omega)
    (by have : (n + 1) * bytes ≤ 10000001 * 1000 := Nat.mul_le_mul (by omega) hby
        omega) hb
  obtain ⟨A', c', rfl⟩ := owns_form hown'
  refine ⟨A', c', w', hr, hown', hg, ?_⟩
  rcases hw with hw | hw
  · exact .inl hw
  · exact .inr ⟨_, hw, Nat.le_refl _⟩
/-- rows, parents and queue in memory, with nothing between them -/
structure CoreN (base : Nat) (w : World) (t : Tb) (q : List Nat) (P : List Int) (vr vp vq : Value) (bl cs : Nat → Nat) : Prop where
  out : w.ownsRow base 22 1 vr t.length ((List.range t.length).map fun i => .slice (some ⟨bl i, 0, none⟩) (t.row i).length (cs i))
  row : ∀ i, i < t.length → base ≤ bl i ∧ XsAt w (bl i) (t.row i) ∧ (t.row i).length ≤ cs i ∧ cs i ≤ 9223372036854775807
  inj : ∀ i j, i < t.length → j < t.length → bl i = bl j → i = j
  par : OwnI base w vp P
  que : OwnI base w vq (nats q)
  sepP : ∀ i, i < t.length → vp.ownBlock ≠ some (bl i)
  sepQ : ∀ i, i < t.length → vq.ownBlock ≠ some (bl i)
  pq : ∀ r, vp.ownBlock = some r → vq.ownBlock ≠ some r
theorem CoreM.toN {base : Nat} {w : World} {s : St} {P : List Int} {vr vp vq : Value} {bl cs : Nat → Nat} (h : CoreM base w s P vr vp vq bl cs) : CoreN base w s.t s.q P vr vp vq bl cs := ⟨h.out, h.row, h.inj, h.par, h.que, h.sepP, h.sepQ, h.pq⟩
section
variable {base : Nat} {w w' : World} {t : Tb} {q : List Nat} {P : List Int} {vr vp vq : Value} {bl cs : Nat → Nat}
theorem CoreN.toM {s : St} (h : CoreN base w s.t s.q P vr vp vq bl cs) (hr : Roots P s) : CoreM base w s P vr vp vq bl cs := ⟨h.out, h.row, h.inj, h.par, h.que, h.sepP, h.sepQ, h.pq, hr⟩
theorem CoreN.keep (h : CoreN base w t q P vr vp vq bl cs) (hk : ∀ k C e, base ≤ k → w.heap[k]? = some (.cells C e (0, 0)) → (e = 3 ∨ e = 22) → w'.heap[k]? = w.heap[k]?) : CoreN base w' t q P vr vp vq bl cs := by
  refine ⟨owns_keep h.out fun r hr => ?_, fun i hi => ?_, h.inj, owns_keep h.par fun r hr => ?_, owns_keep h.que fun r hr => ?_, h.sepP, h.sepQ, h.pq⟩
  · obtain ⟨a, C, hC⟩ := owns_block h.out r hr
    exact hk r C 22 a hC (.inr rfl)
  · obtain ⟨a, b, c⟩ := h.row i hi
    obtain ⟨C, hC, -⟩ := id b
    exact ⟨a, b.keep (hk _ C 3 a hC (.inl rfl)), c⟩
  · obtain ⟨a, C, hC⟩ := owns_block h.par r hr
    exact hk r C 3 a hC (.inl rfl)
  · obtain ⟨a, C, hC⟩ := owns_block h.que r hr
    exact hk r C 3 a hC (.inl rfl)
theorem CoreN.below (h : CoreN base w t q P vr vp vq bl cs) (hb : Below w.heap.size w w') : CoreN base w' t q P vr vp vq bl cs :=
  h.keep fun k _C _e _ hC _ => hb.block k (Array.getElem?_eq_some_iff.1 hC).1
theorem CoreN.other (h : CoreN base w t q P vr vp vq bl cs) {b : Nat} {C0 : Array Value} {T : TypeId} (hb : w.heap[b]? = some (.cells C0 T (0, 0))) (h3 : T ≠ 3) (h24 : T ≠ 22) (k : Nat) (v : Value) : CoreN base (w.setCell ⟨b, k, none⟩ v) t q P vr vp vq bl cs :=
  h.keep fun j C e _ hC he => Below.heap_setCell w ⟨b, k, none⟩ v j fun e' => by
    have e'' : j = b := e'
    rw [e'', hb] at hC
    cases hC
    rcases he with he | he <;> simp_all
theorem row_append (t : Tb) (x : List Int) (i : Nat) : Tb.row (t ++ [x]) i = if i < t.length then t.row i else if i = t.length then x else [] := by
  unfold Tb.row
  rw [List.getD_eq_getElem?_getD, List.getElem?_append]
  by_cases h : i < t.length
  · simp [h, List.getD_eq_getElem?_getD]
  · by_cases h2 : i = t.length
    · subst h2; simp
    · rw [if_neg h, if_neg h, if_neg h2, List.getElem?_eq_none (by simp; omega)]
      rfl
/-- a row joins -/
theorem CoreN.pushRow (h : CoreN base w t q P vr vp vq bl cs) (hbw : base ≤ w.heap.size) {g h0 m : Nat} {x : List Int} (hg : base ≤ g) (hx : XsAt w g x) (hm : x.length = m) (hm1 : m ≤ 1000) (hn : ∀ i, i < t.length → bl i ≠ g) (hp : vp.ownBlock ≠ some g) (hq : vq.ownBlock ≠ some g) (hc : w.cell? ⟨h0, 0, none⟩ = some (.slice (some ⟨g, 0, none⟩) m m)) (hl : t.length ≤ 1000000) :
    ∃ A c w', (Builtin.append_ #[23, 23] 23 #[vr, .slice (some ⟨h0, 0, none⟩) 1 1]).run Try.prog w = .ok (.slice A (t.length + 1) c) w' ∧ CoreN base w' (t ++ [x]) q P (.slice A (t.length + 1) c) vp vq (fun i => if i = t.length then g else bl i) (fun i => if i = t.length then m else cs i) ∧ w.grownBy w' vr.ownBlock := by
  obtain ⟨A, c, w', hr, ho, hgr, -⟩ := run_push_at (t := 23) (ty := 23) Try.underlying23 info24p rfl (by omega) w base vr t.length _ h.out (.slice (some ⟨g, 0, none⟩) m m) rfl (by omega) hbw h0 hc
  have hne : ∀ (k : Nat) (C : Array Value), w.heap[k]? = some (.cells C 3 (0, 0)) → w'.heap[k]? = w.heap[k]? := fun k C hC => hgr.block k (Array.getElem?_eq_some_iff.1 hC).1 fun e => by
    obtain ⟨-, C', hC'⟩ := owns_block h.out k e.symm
    rw [hC] at hC'
    cases hC'
  have hlen : (t ++ [x]).length = t.length + 1 := by simp
  refine ⟨A, c, w', hr, ⟨?_, fun i hi => ?_, fun i j hi hj e => ?_, owns_keep h.par fun k hk => ?_, owns_keep h.que fun k hk => ?_, fun i hi => ?_, fun i hi => ?_, h.pq⟩, hgr⟩
  · rw [hlen]
    have e : ((List.range (t.length + 1)).map fun i => (.slice (some ⟨(if i = t.length then g else bl i), 0, none⟩) (Tb.row (t ++ [x]) i).length (if i = t.length then m else cs i) : Value)) = (List.range t.length).map (fun i => (.slice (some ⟨bl i, 0, none⟩) (t.row i).length (cs i) : Value)) ++ [.slice (some ⟨g, 0, none⟩) m m] := by
      rw [List.range_succ, List.map_append]
      refine congr (congrArg (fun a b : List Value => a ++ b) ?_) ?_
      · refine List.map_congr_left fun i hi => ?_
        have hi' : i < t.length := List.mem_range.1 hi
        rw [if_neg (by omega), if_neg (by omega), row_append, if_pos hi']
      · rw [List.map_cons, List.map_nil, if_pos rfl, if_pos rfl, row_append, if_neg (Nat.lt_irrefl _), if_pos rfl, hm]
    rw [e]
    exact ho
  · rw [hlen] at hi
    by_cases e : i = t.length
    · subst e
      obtain ⟨C, hC, -⟩ := id hx
      simp only [if_true, row_append, Nat.lt_irrefl, if_false]
      exact ⟨hg, hx.keep (hne _ C hC), by omega, by omega⟩
    · have hi' : i < t.length := by omega
      obtain ⟨a, b, d⟩ := h.row i hi'
      obtain ⟨C, hC, -⟩ := id b
      simp only [if_neg e, row_append, if_pos hi']
      exact ⟨a, b.keep (hne _ C hC), d⟩
  · rw [hlen] at hi hj
    by_cases e1 : i = t.length
    · by_cases e2 : j = t.length
      · omega
      · simp only [if_pos e1, if_neg e2] at e
        exact absurd e.symm (hn j (by omega))
    · by_cases e2 : j = t.length
      · simp only [if_neg e1, if_pos e2] at e
        exact absurd e (hn i (by omega))
      · simp only [if_neg e1, if_neg e2] at e
        exact h.inj i j (by omega) (by omega) e
  · obtain ⟨-, C, hC⟩ := owns_block h.par k hk
    exact hne k C hC
  · obtain ⟨-, C, hC⟩ := owns_block h.que k hk
    exact hne k C hC
  · rw [hlen] at hi
    by_cases e : i = t.length
    · simp only [if_pos e]; exact hp
    · simp only [if_neg e]; exact h.sepP i (by omega)
  · rw [hlen] at hi
    by_cases e : i = t.length
    · simp only [if_pos e]; exact hq
    · simp only [if_neg e]; exact h.sepQ i (by omega)
/-- a parent joins -/
theorem CoreN.pushP (h : CoreN base w t q P vr vp vq bl cs) (hbw : base ≤ w.heap.size) {h0 : Nat} {z : Int} (hc : w.cell? ⟨h0, 0, none⟩ = some (.int .i64 z)) (hl : P.length ≤ 1000000) :
    ∃ A c w', (Builtin.append_ #[22, 22] 22 #[vp, .slice (some ⟨h0, 0, none⟩) 1 1]).run Try.prog w = .ok (.slice A (P.length + 1) c) w' ∧ CoreN base w' t q (P ++ [z]) vr (.slice A (P.length + 1) c) vq bl cs ∧ w.grownBy w' vp.ownBlock := by
  obtain ⟨A, c, w', hr, ho, hgr, hw⟩ := run_push_at (t := 22) (ty := 22) Try.underlying22 info3p rfl (by omega) w base vp P.length _ h.par (.int .i64 z) rfl (by omega) hbw h0 hc
  have hnewb : ∀ r, (Value.slice A (P.length + 1) c).ownBlock = some r → vp.ownBlock = some r ∨ w.heap.size ≤ r := fun r hr => by
    rcases hw with hw | ⟨r', hr', hge⟩
    · exact .inl (by rw [← hw]; exact hr)
    · rw [hr] at hr'
      cases hr'
      exact .inr hge
  refine ⟨A, c, w', hr, ⟨owns_keep h.out fun k hk => ?_, fun i hi => ?_, h.inj, ?_, owns_keep h.que fun k hk => ?_, fun i hi e => ?_, h.sepQ, fun r hr e => ?_⟩, hgr⟩
  · obtain ⟨-, C, hC⟩ := owns_block h.out k hk
    refine hgr.block k (Array.getElem?_eq_some_iff.1 hC).1 fun e => ?_
    obtain ⟨-, C', hC'⟩ := owns_block h.par k e.symm
    rw [hC] at hC'
    cases hC'
  · obtain ⟨a, b, d⟩ := h.row i hi
    obtain ⟨C, hC, -⟩ := id b
    exact ⟨a, b.keep (hgr.block _ (Array.getElem?_eq_some_iff.1 hC).1 fun e => h.sepP i hi e.symm), d⟩
  · show w'.ownsRow base 3 1 _ (P ++ [z]).length (ints (P ++ [z]))
    rw [ints_app, List.length_append]
    exact ho
  · obtain ⟨-, C, hC⟩ := owns_block h.que k hk
    exact hgr.block k (Array.getElem?_eq_some_iff.1 hC).1 fun e => h.pq k e.symm hk
  · obtain ⟨-, b, -⟩ := h.row i hi
    rcases hnewb _ e with e | e
    · exact h.sepP i hi e
    · exact absurd b.lt (by omega)
  · rcases hnewb _ hr with e' | e'
    · exact h.pq r e' e
    · exact absurd (owns_lt h.que e) (by omega)
end
end Go.Proofs.B18
