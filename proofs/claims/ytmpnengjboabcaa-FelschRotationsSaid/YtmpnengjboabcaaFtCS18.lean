/- felsch.begin; felsch.ended: the deferred function; Words of letters, plainly: the law of FelschRotations; The table that a state of an enumeration ends with, plainly, whichever strategy led there; Felsch's strategy leads to the coset table. -/
import Derived.Test.YtmpnengjboabcaaFtCS17
import Derived.Test.YtmpnengjboabcaaFtCS6
import Derived.Test.YtmpnengjboabcaaFtCS8
import Derived.Test.YtmpnengjboabcaaFtCS7
namespace Go.Proofs
open Go.RowKit Go.Shelf Go.Proofs.Ct Go.Maps
def BeginPost (g : Int) (rels sub : List W) (limit : Int) (w : World) (e : Ending) (w' : World) : Prop :=
  ((givenE g rels sub limit ≠ 0 ∧ e = .returned (.tuple #[.agg zero151, .int .i64 (givenE g rels sub limit)])) ∨
    (givenE g rels sub limit = 0 ∧ ∃ cs, e = .returned (.tuple #[.agg cs, .int .i64 0]) ∧ CosF w.heap.size (2 * g.toNat) limit.toNat w' cs (startF (2 * g.toNat)))) ∧ Below w.heap.size w w'
theorem CosF.keep {base wd lim : Nat} {w w' : World} {cs : Array Value} {f : FS} (h : CosF base wd lim w cs f) (hk : ∀ k, base ≤ k → k < w.heap.size → w'.heap[k]? = w.heap[k]?) : CosF base wd lim w' cs f := by
  obtain ⟨bl, css, P, vr, vp, vq, vk, rfl, hc, hO⟩ := h
  exact ⟨bl, css, P, vr, vp, vq, vk, rfl, hc.keep (fun k C e h1 hC _ => hk k h1 (Array.getElem?_eq_some_iff.1 hC).1), owns_keep hO fun r hr => by
    obtain ⟨h1, C, hC⟩ := owns_block2 hO r hr
    exact hk r h1 (Array.getElem?_eq_some_iff.1 hC).1⟩
theorem CosF.low {base base' wd lim : Nat} {w : World} {cs : Array Value} {f : FS} (h : CosF base wd lim w cs f) (hb : base' ≤ base) : CosF base' wd lim w cs f := by
  obtain ⟨bl, css, P, vr, vp, vq, vk, rfl, hc, hO⟩ := h
  exact ⟨bl, css, P, vr, vp, vq, vk, rfl, ⟨owns_base hc.out hb, fun i hi => let ⟨a, b⟩ := hc.row i hi; ⟨Nat.le_trans hb a, b⟩, hc.inj, owns_base hc.par hb, owns_base hc.que hb, hc.sepP, hc.sepQ, hc.pq, hc.root⟩, owns_base hO hb⟩
theorem any_at {p : W → Bool} {l : List W} {k : Nat} (hk : k < l.length) (h : p (l.getD k []) = true) : l.any p = true := by
  rw [List.getD_eq_getElem?_getD, List.getElem?_eq_getElem hk] at h
  exact List.any_eq_true.2 ⟨_, List.getElem_mem hk, h⟩
set_option maxRecDepth 100000 in
set_option maxHeartbeats 1000000 in
theorem begin141_any (w : World) (vr vs : Value) (g : Int) (rels sub : List W) (limit : Int) (hR : Tab w vr rels) (hS : Tab w vs sub) (hsm : ∀ j, (sub.getD j []).length ≤ 100000) (hsl : sub.length ≤ 1000000) :
    Calls Try.prog 141 #[.agg #[.int .i64 g, vr], vs, .int .i64 limit] w (BeginPost g rels sub limit w) := by
  obtain ⟨Ar, cr, rfl⟩ := Tab.form hR
  obtain ⟨As, cs, rfl⟩ := Tab.form hS
  have H78 : Hid (∀ W, Tab W (.slice Ar rels.length cr) rels → Calls Try.prog 102 #[.agg #[.int .i64 g, .slice Ar rels.length cr]] W fun e w' => (∃ y, e = .returned (.tuple #[.int .i64 (presE g rels), .int .i64 y])) ∧ Below W.heap.size W w') := Lib.hid fun W h => pcheck78_any W _ _ rels h
  have HP : Hid (∀ W, W = (w.alloc (.cells #[.int .i64 g, .slice Ar rels.length cr] 40)).alloc (.cells zero151 151) → Below w.heap.size w W ∧ W.heap[w.heap.size]? = some (.cells #[.int .i64 g, .slice Ar rels.length cr] 40 (0, 0)) ∧ W.heap[w.heap.size + 1]? = some (.cells zero151 151 (0, 0)) ∧ W.heap.size = w.heap.size + 2) := Lib.hid fun W h => by
    subst h
    have h1 : Below w.heap.size w (w.alloc (.cells #[.int .i64 g, .slice Ar rels.length cr] 40)) := (Below.refl _ _).alloc (Nat.le_refl _) _
    have h2 : Below (w.heap.size + 1) (w.alloc (.cells #[.int .i64 g, .slice Ar rels.length cr] 40)) ((w.alloc (.cells #[.int .i64 g, .slice Ar rels.length cr] 40)).alloc (.cells zero151 151)) := (Below.refl _ _).alloc (by simp) _
    have h3 := heap_alloc_new (w.alloc (.cells #[.int .i64 g, .slice Ar rels.length cr] 40)) (.cells zero151 151)
    have h4 : (w.alloc (.cells #[.int .i64 g, .slice Ar rels.length cr] 40)).heap.size = w.heap.size + 1 := by simp
    rw [h4] at h3
    exact ⟨h1.trans (h2.mono (Nat.le_succ _)), (h2.block _ (Nat.lt_succ_self _)).trans (heap_alloc_new w _), h3, by simp⟩
  have HRR := Lib.hid hR
  have HSS := Lib.hid hS
  clear hR hS
  go_enter Try.func141, Try.ntmps141
  go_wp2_with ((with_reducible refine wpList_sel 6 ?_); refine wpList_val rfl (r_alloc151 rfl) ?_)
  generalize hw0 : (w.alloc (.cells #[.int .i64 g, .slice Ar rels.length cr] 40)).alloc (.cells zero151 151) = w0 at *
  obtain ⟨hb0, hbp, hbq, hsz⟩ := HP.out w0 rfl
  have HB0 := Lib.hid hb0
  have HSZ := Lib.hid hsz
  have HBX : Hid (∀ W, Below w0.heap.size w0 W → W.cell? ⟨w.heap.size, 0, none⟩ = some (.int .i64 g) ∧ W.cell? ⟨w.heap.size, 1, none⟩ = some (.slice Ar rels.length cr) ∧ W.heap[w.heap.size + 1]? = some (.cells zero151 151 (0, 0))) := Lib.hid fun W h => by
    obtain ⟨a, b⟩ := cell_of2 ((h.block _ (Array.getElem?_eq_some_iff.1 hbp).1).trans hbp)
    exact ⟨a, b, (h.block _ (Array.getElem?_eq_some_iff.1 hbq).1).trans hbq⟩
  obtain ⟨hc0, hc1, -⟩ := HBX.out w0 (Below.refl _ _)
  have HT0 := Lib.hid (kept_tab.below HRR.out hb0)
  clear hw0 hb0 hbp hbq hsz HP
  by_cases he : presE g rels = 0
  · obtain ⟨gn, rfl, hg1, hg16, hrl, hrg⟩ := presE_good he
    have d1 : (presE (gn : Int) rels != 0) = false := by simp [he]
    have hg0 : (1 : Int) ≤ (gn : Int) := by omega
    have hgI : (gn : Int) ≤ 16 := by omega
    have HBAD : Hid (badArgs gn sub limit = true → givenE gn rels sub limit = 2) := Lib.hid fun h => by unfold givenE; rw [if_neg (by rw [he]; simp), Int.toNat_natCast, if_pos h]
    have HOK : Hid (badArgs gn sub limit = false → givenE gn rels sub limit = 0) := Lib.hid fun h => by unfold givenE; rw [if_neg (by rw [he]; simp), Int.toNat_natCast, if_neg (by rw [h]; simp)]
    clear hrg he hrl
    generalize hxe : presE (gn : Int) rels = z at *
    clear hxe
    go_wp2_with (go_at_call 102; (with_reducible refine (H78.out w0 HT0.out).mono ?_); rintro e w1 ⟨⟨y, rfl⟩, hb⟩
                 obtain ⟨hc0', hc1', hq1⟩ := HBX.out _ hb
                 have HQ1 := Lib.hid hq1
                 have HB1 := Lib.hid hb
                 clear hb hq1)
    have HANY : Hid (∀ q j, j < sub.length → ∀ u, IntsAt w1 u (sub.getD j []) → Calls Try.prog 98 #[u, .func (.func 194) #[] #[.pointer (some ⟨w.heap.size, 0, none⟩)]] (w1.drewN q) fun e w' => e = .returned (.bool ((sub.getD j []).any (letBad gn))) ∧ ∃ q, w' = w1.drewN q) := Lib.hid fun q j hj u hu => (has74_any 194 _ _ _ (w1.drewN q) eg194 (pred194 gn w.heap.size (w1.drewN q) hg16 hc0') u (sub.getD j []) (hu.below (below_drewN (Below.refl _ _) _)) (fun x hx => hu.2 x hx)).mono fun e w' ⟨h1, q2, h2⟩ => ⟨h1, q + q2, by rw [h2, World.drewN_drewN]⟩
    have HTS : Hid (Tab w1 (.slice As sub.length cs) sub) := Lib.hid (kept_tab.below HSS.out (HB0.out.trans (HB1.out.mono HB0.out.size)))
    go_wp2_with fail
    go_loopw [10, 25] (fun l i wx => ∃ k : Nat, i = .int .i64 (k : Int) ∧ k ≤ sub.length ∧ l = .int .i64 ((sumTo sub k : Nat) : Int) ∧ Hid (∀ j, j < k → ((sub.getD j []).any (letBad gn)) = false) ∧ ∃ q, wx = w1.drewN q) (fun _ i _ => sub.length - (intOf i).toNat)
    case atStart => exact ⟨0, rfl, Nat.zero_le _, rfl, Lib.hid (fun j hj => absurd hj (Nat.not_lt_zero _)), 0, rfl⟩
    case round =>
      obtain ⟨k, rfl, hk, rfl, HA, q, rfl⟩ := hrel
      have hk0 : (0 : Int) ≤ (k : Int) := Int.natCast_nonneg _
      have hsk := sumTo_le' hsm k
      have hsk0 : (0 : Int) ≤ ((sumTo sub k : Nat) : Int) := Int.natCast_nonneg _
      have hsk1 : ((sumTo sub k : Nat) : Int) ≤ 100000000000 := by
        have : k * 100000 ≤ 1000000 * 100000 := Nat.mul_le_mul_right _ (by omega)
        omega
      clear hsk
      have HQ2 : Hid ((w1.drewN q).heap[w.heap.size + 1]? = some (.cells zero151 151 (0, 0))) := HQ1
      by_cases hlt : k < sub.length
      · have hltI : (k : Int) < (sub.length : Int) := by omega
        obtain ⟨bs, os, rfl, hcell⟩ := HTS.out.cells (by omega)
        obtain ⟨u, hu, hI⟩ := hcell k hlt
        have hul : (w1.drewN q).cell? ⟨bs, os + k, none⟩ = some u := hu
        have HCA := Lib.hid (HANY.out q k hlt u hI)
        obtain ⟨Au, cu, rfl, hu1, hu2, -⟩ := hI.open_
        have hlu := hsm k
        have HSU : Hid (sumTo sub (k + 1) = sumTo sub k + (sub.getD k []).length) := Lib.hid rfl
        have HAT : Hid ((sub.getD k []).any (letBad gn) = true → badArgs gn sub limit = true) := Lib.hid fun h => by
          have := any_at (p := fun w => w.any (letBad gn)) hlt h
          unfold badArgs; rw [this]; simp
        cases hbad : (sub.getD k []).any (letBad gn) with
        | true =>
          have HE : Hid (givenE gn rels sub limit = 2) := Lib.hid (HBAD.out (HAT.out hbad))
          rw [hbad] at HCA
          clear hbad HAT HBAD HOK
          generalize hgl : (sub.getD k []).length = L at *
          have hl0 : (0 : Int) ≤ (L : Int) := Int.natCast_nonneg _
          have hl1 : (L : Int) ≤ 100000 := by omega
          clear hcell hI hu1 hu2 hlu hgl hu
          go_wp2_with (first
            | (go_at_call 98; (with_reducible refine HCA.out.mono ?_); rintro e w2 ⟨rfl, q2, rfl⟩
               have HQ3 : Hid ((w1.drewN q2).heap[w.heap.size + 1]? = some (.cells zero151 151 (0, 0))) := HQ1)
            | ((with_reducible refine wpList_sel 36 ?_); refine wpList_val rfl (r_build151 rfl) ?_; refine wpList_skip rfl (r_store151 (.tmp 6) (.tmp 36) rfl (w.heap.size + 1) zero151 zero151 rfl rfl HQ3.out rfl rfl zero151_one) ?_))
          (try simp only [Exit.inBlock, Exit.then])
          refine bodyPost_ret (results_151_tmp (p := 6) (q := 7) rfl _ _ (w.heap.size + 1) zero151 (.int .i64 2) rfl rfl (setRow_heap _ _ _ _ _ _ HQ3.out) rfl) rfl ⟨.inl ⟨by rw [HE.out]; decide, by rw [HE.out]⟩, below_setRow (below_drewN (HB0.out.trans (HB1.out.mono HB0.out.size)) _) (Nat.le_succ _) _⟩
        | false =>
          rw [hbad] at HCA
          have HA2 := Lib.hid (all_succ HA.out hbad)
          clear hbad HAT
          generalize hgl : (sub.getD k []).length = L at *
          have hl0 : (0 : Int) ≤ (L : Int) := Int.natCast_nonneg _
          have hl1 : (L : Int) ≤ 100000 := by omega
          clear hcell hI hu1 hu2 hlu hgl hu
          go_wp2_with (go_at_call 98; (with_reducible refine HCA.out.mono ?_); rintro e w2 ⟨rfl, q2, rfl⟩)
          go_roundw
          case rel => exact ⟨k + 1, by go_num, by omega, by rw [HSU.out]; go_num, HA2, (by first | exact ⟨_, rfl⟩ | exact ex_drewN)⟩
          case measure => simp [intOf]; omega
      · obtain rfl : k = sub.length := by omega
        clear hlt
        have HNB : Hid ((sub.any fun w => w.any (letBad gn)) = false) := Lib.hid (any_false_ofR HA.out)
        have HW : Hid (Below w.heap.size w (w1.drewN q)) := Lib.hid (below_drewN (HB0.out.trans (HB1.out.mono HB0.out.size)) _)
        have hlb0 : (0 : Int) ≤ (sub.length : Int) := Int.natCast_nonneg _
        by_cases hbad : (100 : Int) < (sub.length : Int) ∨ (4000 : Int) < ((sumTo sub sub.length : Nat) : Int) ∨ limit < 1 ∨ 20000 < limit
        · have HE : Hid (givenE gn rels sub limit = 2) := Lib.hid (HBAD.out (by unfold badArgs; simp; omega))
          clear HBAD HOK
          by_cases h1 : (100 : Int) < (sub.length : Int)
          · go_wp2_with ((with_reducible refine wpList_sel 53 ?_); refine wpList_val rfl (r_build151 rfl) ?_; refine wpList_skip rfl (r_store151 (.tmp 6) (.tmp 53) rfl (w.heap.size + 1) zero151 zero151 rfl rfl HQ2.out rfl rfl zero151_one) ?_)
            (try simp only [Exit.inBlock, Exit.then])
            refine bodyPost_ret (results_151_tmp (p := 6) (q := 7) rfl _ _ (w.heap.size + 1) zero151 (.int .i64 2) rfl rfl (setRow_heap _ _ _ _ _ _ HQ2.out) rfl) rfl ⟨.inl ⟨by rw [HE.out]; decide, by rw [HE.out]⟩, below_setRow HW.out (Nat.le_succ _) _⟩
          · by_cases h2 : (4000 : Int) < ((sumTo sub sub.length : Nat) : Int)
            · go_wp2_with ((with_reducible refine wpList_sel 53 ?_); refine wpList_val rfl (r_build151 rfl) ?_; refine wpList_skip rfl (r_store151 (.tmp 6) (.tmp 53) rfl (w.heap.size + 1) zero151 zero151 rfl rfl HQ2.out rfl rfl zero151_one) ?_)
              (try simp only [Exit.inBlock, Exit.then])
              refine bodyPost_ret (results_151_tmp (p := 6) (q := 7) rfl _ _ (w.heap.size + 1) zero151 (.int .i64 2) rfl rfl (setRow_heap _ _ _ _ _ _ HQ2.out) rfl) rfl ⟨.inl ⟨by rw [HE.out]; decide, by rw [HE.out]⟩, below_setRow HW.out (Nat.le_succ _) _⟩
            · by_cases h3 : limit < 1
              · go_wp2_with ((with_reducible refine wpList_sel 53 ?_); refine wpList_val rfl (r_build151 rfl) ?_; refine wpList_skip rfl (r_store151 (.tmp 6) (.tmp 53) rfl (w.heap.size + 1) zero151 zero151 rfl rfl HQ2.out rfl rfl zero151_one) ?_)
                (try simp only [Exit.inBlock, Exit.then])
                refine bodyPost_ret (results_151_tmp (p := 6) (q := 7) rfl _ _ (w.heap.size + 1) zero151 (.int .i64 2) rfl rfl (setRow_heap _ _ _ _ _ _ HQ2.out) rfl) rfl ⟨.inl ⟨by rw [HE.out]; decide, by rw [HE.out]⟩, below_setRow HW.out (Nat.le_succ _) _⟩
              · have h4 : 20000 < limit := by omega
                clear hbad
                go_wp2_with ((with_reducible refine wpList_sel 53 ?_); refine wpList_val rfl (r_build151 rfl) ?_; refine wpList_skip rfl (r_store151 (.tmp 6) (.tmp 53) rfl (w.heap.size + 1) zero151 zero151 rfl rfl HQ2.out rfl rfl zero151_one) ?_)
                (try simp only [Exit.inBlock, Exit.then])
                refine bodyPost_ret (results_151_tmp (p := 6) (q := 7) rfl _ _ (w.heap.size + 1) zero151 (.int .i64 2) rfl rfl (setRow_heap _ _ _ _ _ _ HQ2.out) rfl) rfl ⟨.inl ⟨by rw [HE.out]; decide, by rw [HE.out]⟩, below_setRow HW.out (Nat.le_succ _) _⟩
        · have HE : Hid (givenE gn rels sub limit = 0) := Lib.hid (HOK.out (by unfold badArgs; rw [HNB.out]; simp; omega))
          clear HBAD HOK
          obtain ⟨lim, rfl⟩ : ∃ lim : Nat, limit = (lim : Int) := ⟨limit.toNat, by omega⟩
          have h1 : ¬ (100 : Int) < (sub.length : Int) := fun h => hbad (.inl h)
          have h2 : ¬ (4000 : Int) < ((sumTo sub sub.length : Nat) : Int) := fun h => hbad (.inr (.inl h))
          have h3 : ¬ (lim : Int) < 1 := fun h => hbad (.inr (.inr (.inl h)))
          have h4 : ¬ (20000 : Int) < (lim : Int) := fun h => hbad (.inr (.inr (.inr h)))
          clear hbad
          generalize hw2 : w1.drewN q = w2 at *
          have hc2 : w2.cell? ⟨w.heap.size, 0, none⟩ = some (.int .i64 (gn : Int)) := by rw [← hw2]; exact hc0'
          have hz2 : w.heap.size + 1 < w2.heap.size := (Array.getElem?_eq_some_iff.1 HQ2.out).1
          clear hw2 HANY HTS HQ1 HB1 HA hc0' hc1'
          have e2 : ((2 * gn : Nat) : Int) = 2 * (gn : Int) := by omega
          have hADD : Calls Try.prog 195 #[.pointer (some ⟨w2.heap.size, 0, none⟩)] (w2.alloc (.cells #[.int .i64 (2 * (gn : Int)), .int .i64 (lim : Int), .slice none 0 0, .slice none 0 0, .slice none 0 0, .slice none 0 0, .int .i64 0, .int .i64 0] 151)) fun e w' => e = .returned (.int .i64 0) ∧ StF (fun _ => False) 151 [] w2.heap.size w2.heap.size (2 * gn) lim w' (startF (2 * gn)) ∧ Below w2.heap.size w2 w' := by
            have hal : Below w2.heap.size w2 (w2.alloc (.cells #[.int .i64 (2 * (gn : Int)), .int .i64 (lim : Int), .slice none 0 0, .slice none 0 0, .slice none 0 0, .slice none 0 0, .int .i64 0, .int .i64 0] 151)) := (Below.refl _ _).alloc (Nat.le_refl _) _
            have hnew := heap_alloc_new w2 (.cells #[.int .i64 (2 * (gn : Int)), .int .i64 (lim : Int), .slice none 0 0, .slice none 0 0, .slice none 0 0, .slice none 0 0, .int .i64 0, .int .i64 0] 151)
            obtain ⟨bl, css, hst⟩ := (CosF.made (w := w2) (wd := 2 * gn) (lim := lim) w2.heap.size).rebox (T := 151) (ex := []) (b := w2.heap.size) (K := fun _ => False) hal (by rw [hnew]; simp [fcells, nilS, e2]) (Nat.le_refl _) (fun k h => h.elim)
            refine (add195_any (fun _ => False) 151 [] bl css gn (2 * gn) w2.heap.size w2.heap.size lim (by omega) _ ⟨nilS, []⟩ ⟨by decide, by decide, by decide⟩ (inv_nil gn) hst hal.size (Nat.zero_le _) (by decide) (by decide)).mono fun e w' ⟨h1, h2, h3⟩ => ⟨h1, h2, hal.trans h3.1⟩
          have HADD := Lib.hid hADD
          clear hADD e2
          go_wp2_with (first
            | ((with_reducible refine wpList_sel 58 ?_); refine wpList_val rfl (r_build151_2 (.tmp 56) (.tmp 57) (2 * (gn : Int)) (lim : Int) rfl rfl rfl) ?_; refine wpList_val rfl (r_alloc151 rfl) ?_; refine wpList_skip rfl (r_store151 (.tmp 13) (.tmp 58) rfl w2.heap.size zero151 _ rfl rfl (heap_alloc_new w2 _) rfl rfl (by simp [Value.oneCell'])) ?_; rw [World.setRow_alloc_new])
            | (go_at_call 195; (with_reducible refine HADD.out.mono ?_); rintro e w3 ⟨rfl, hs3, hb3⟩
               obtain ⟨bl3, cs3, hs3⟩ := hs3
               obtain ⟨C, hC, hbx⟩ := hs3.cos
               have HC := Lib.hid hC
               obtain ⟨bl, css, P, vr, vp, vq, vk, rfl, -⟩ := hC
               have HBXX := Lib.hid hbx
               have HB3 := Lib.hid hb3
               have HQ3 : Hid (w3.heap[w.heap.size + 1]? = some (.cells zero151 151 (0, 0))) := Lib.hid ((hb3.block _ hz2).trans HQ2.out)
               clear hs3 hb3 hbx)
            | ((with_reducible refine wpList_sel 60 ?_); refine wpList_val rfl (r_load151 (.tmp 13) w2.heap.size _ _ _ _ _ _ _ _ rfl rfl HBXX.out) ?_; refine wpList_skip rfl (r_store151 (.tmp 6) (.tmp 60) rfl (w.heap.size + 1) zero151 _ rfl rfl HQ3.out rfl rfl HC.out.one) ?_))
          (try simp only [Exit.inBlock, Exit.then])
          refine bodyPost_ret (results_151_tmp (p := 6) (q := 7) rfl _ _ (w.heap.size + 1) _ (.int .i64 0) rfl rfl (setRow_heap _ _ _ _ _ _ HQ3.out) rfl) rfl ⟨.inr ⟨HE.out, _, rfl, ?_⟩, below_setRow (HW.out.trans (HB3.out.mono HW.out.size)) (Nat.le_succ _) _⟩
          rw [Int.toNat_natCast, Int.toNat_natCast]
          exact (HC.out.keep fun k h1 _ => setRow_other _ _ k _ (by omega)).low HW.out.size
  · have d1 : (presE g rels != 0) = true := by simpa using he
    have HE : Hid (givenE g rels sub limit = presE g rels ∧ presE g rels ≠ 0) := Lib.hid ⟨by unfold givenE; rw [if_pos he], he⟩
    clear he
    generalize presE g rels = x at *
    go_wp2_with (first
      | (go_at_call 102; (with_reducible refine (H78.out w0 HT0.out).mono ?_); rintro e w1 ⟨⟨y, rfl⟩, hb⟩
         have HB1 := Lib.hid hb
         have HG1 := Lib.hid (HBX.out _ hb).2.2
         clear hb)
      | ((with_reducible refine wpList_sel 21 ?_); refine wpList_val rfl (r_build151 rfl) ?_; refine wpList_val rfl (r_move (.tmp 8) rfl rfl) ?_; refine wpList_skip rfl (r_store151 (.tmp 6) (.tmp 21) rfl (w.heap.size + 1) zero151 zero151 rfl rfl HG1.out rfl rfl zero151_one) ?_))
    (try simp only [Exit.inBlock, Exit.then])
    refine bodyPost_ret (results_151_tmp (p := 6) (q := 7) rfl _ _ (w.heap.size + 1) zero151 (.int .i64 x) rfl rfl (setRow_heap _ _ _ _ _ _ HG1.out) rfl) rfl ⟨.inl ⟨by rw [HE.out.1]; exact HE.out.2, by rw [HE.out.1]⟩, below_setRow (HB0.out.trans (HB1.out.mono HB0.out.size)) (Nat.le_succ _) _⟩
end Go.Proofs
namespace Go.Proofs
open Go.RowKit Go.Shelf Go.Proofs.Ct Go.Maps
theorem ta_nilF (w : World) : (Instr.typeAssert .nilIface 20 196 true).run Try.prog w = .ok (.tuple #[.agg #[], .bool false]) w := by kernel_rfl
theorem ta_fullF (w : World) : (Instr.typeAssert (.iface 196 (.agg #[])) 20 196 true).run Try.prog w = .ok (.tuple #[.agg #[], .bool true]) w := by kernel_rfl
theorem alloc196 (w : World) : (Instr.alloc 196 true (.tuple #[])).run Try.prog w = .ok (.pointer (some ⟨w.heap.size, 0, none⟩)) (w.alloc (.cells #[] 196)) := by kernel_rfl
set_option maxRecDepth 100000 in
theorem ended_idle (p q r : Addr) (w : World) :
    CallsD Try.prog 142 #[.pointer (some p), .pointer (some q), .pointer (some r)] .returning w fun e u' w' => e = .returned (.tuple #[]) ∧ u' = .returning ∧ Below w.heap.size w w' := by
  refine callsD_of_wpS Try.func142 rfl fun c₀ cs hu => ?_
  apply wpS_seq
  apply wpS_region
  simp [wpOpsS, go_sem, recoverD, hu, Try.ntmps142, Exit.thenS]
  have harr : (#[.pointer (some p), .pointer (some q), .pointer (some r)] ++ ((Array.replicate 23 undef).setIfInBounds 6 Value.nilIface).setIfInBounds 3 Value.nilIface : Array Value) = #[.pointer (some p), .pointer (some q), .pointer (some r), undef, undef, undef, .nilIface, undef, undef, .nilIface, undef, undef, undef, undef, undef, undef, undef, undef, undef, undef, undef, undef, undef, undef, undef, undef] := by kernel_rfl
  rw [harr]
  refine wpS_of_wp ?_
  have h1 := ta_nilF
  have h2 := alloc196
  have h3 := neq_nil
  go_wp2_with fail
  have hB : Below w.heap.size w (w.alloc (.cells #[] 196)) := (Below.refl _ _).alloc (Nat.le_refl _) _
  cases c₀
  simp_all [bodyPostS, results, Try.results142]
set_option maxRecDepth 100000 in
theorem ended_full (q base : Nat) (w : World) (v : Value) (a b c e : Int) (hq : base ≤ q) (h : ResC q w v a b c e) :
    CallsD Try.prog 142 #[.pointer (some ⟨q, 0, none⟩), .pointer (some ⟨q + 1, 0, none⟩), .pointer (some ⟨q + 1 + 1, 0, none⟩)] (.panicking fullF) w fun e u' w' => e = .returned (.tuple #[]) ∧ u' = .panicking [{ v := .iface 196 (.agg #[]), recovered := true }] ∧ ResC q w' (.slice none 0 0) 0 0 0 12 ∧ Below base w w' := by
  have hlt := h.lt
  have hB : Below w.heap.size w (w.alloc (.cells #[] 196)) := (Below.refl _ _).alloc (Nat.le_refl _) _
  obtain ⟨c0, c1, c2, c3, c4, f0, f1, f2, f3, f4⟩ := h.below hlt hB
  refine callsD_of_wpS Try.func142 rfl fun c₀ cs hu => ?_
  apply wpS_seq
  apply wpS_region
  simp [wpOpsS, go_sem, recoverD, hu, Try.ntmps142, Exit.thenS, fullF]
  have harr : (#[.pointer (some ⟨q, 0, none⟩), .pointer (some ⟨q + 1, 0, none⟩), .pointer (some ⟨q + 1 + 1, 0, none⟩)] ++ ((Array.replicate 23 undef).setIfInBounds 6 (Value.iface 196 (.agg #[]))).setIfInBounds 3 (Value.iface 196 (.agg #[])) : Array Value) = #[.pointer (some ⟨q, 0, none⟩), .pointer (some ⟨q + 1, 0, none⟩), .pointer (some ⟨q + 1 + 1, 0, none⟩), undef, undef, undef, .iface 196 (.agg #[]), undef, undef, .iface 196 (.agg #[]), undef, undef, undef, undef, undef, undef, undef, undef, undef, undef, undef, undef, undef, undef, undef, undef] := by kernel_rfl
  rw [harr]
  refine wpS_of_wp ?_
  have h1 := ta_fullF
  have h2 := alloc196
  have h3 := neq_nil
  have HR := Lib.hid ((h.below hlt hB).set (.slice none 0 0) 0 0 0 12)
  have HB := Lib.hid (setR_below (hB.mono (by omega)) hq (.slice none 0 0) 0 0 0 12)
  clear h hB
  go_wp2_with fail
  have hres := HR.out
  have hbel := HB.out
  unfold setR at hres hbel
  cases c₀
  simp_all [bodyPostS, results, Try.results142]
end Go.Proofs
namespace Go.Proofs.Ct
def rot (w : W) (k : Nat) : W := w.drop k ++ w.take k
theorem rot_head {w : W} {k : Nat} (h : k < w.length) : ∃ v, rot w k = w.getD k 0 :: v := by
  unfold rot
  rw [List.drop_eq_getElem_cons h, List.getD_eq_getElem?_getD, List.getElem?_eq_getElem h]
  exact ⟨_, rfl⟩
theorem rotTo_mem {l : List W} {w : W} {x : Int} {v : W} : ∀ {k : Nat}, v ∈ rotTo l w x k ↔ v ∈ l ∨ ∃ j, j < k ∧ w.getD j 0 = x ∧ v = rot w j
  | 0 => ⟨.inl, fun h => h.elim id fun ⟨j, h, _⟩ => absurd h (Nat.not_lt_zero _)⟩
  | k + 1 => by
    have ih := rotTo_mem (l := l) (w := w) (x := x) (v := v) (k := k)
    have e : rotTo l w x (k + 1) = if w.getD k 0 = x ∧ rot w k ∉ rotTo l w x k then rotTo l w x k ++ [rot w k] else rotTo l w x k := rfl
    rw [e]
    constructor
    · intro h
      split at h
      · rename_i hh
        rcases List.mem_append.1 h with h | h
        · rcases ih.1 h with h | ⟨j, h1, h2⟩
          · exact .inl h
          · exact .inr ⟨j, by omega, h2⟩
        · exact .inr ⟨k, by omega, hh.1, List.mem_singleton.1 h⟩
      · rcases ih.1 h with h | ⟨j, h1, h2⟩
        · exact .inl h
        · exact .inr ⟨j, by omega, h2⟩
    · intro h
      have hold : v ∈ rotTo l w x k → v ∈ if w.getD k 0 = x ∧ rot w k ∉ rotTo l w x k then rotTo l w x k ++ [rot w k] else rotTo l w x k := fun h => by
        split
        · exact List.mem_append_left _ h
        · exact h
      rcases h with h | ⟨j, h1, h2, h3⟩
      · exact hold (ih.2 (.inl h))
      · rcases Nat.lt_or_ge j k with h4 | h4
        · exact hold (ih.2 (.inr ⟨j, h4, h2, h3⟩))
        · obtain rfl : j = k := by omega
          subst h3
          by_cases hm : rot w j ∈ rotTo l w x j
          · exact hold hm
          · rw [if_pos ⟨h2, hm⟩]
            exact List.mem_append_right _ (List.mem_singleton_self _)
theorem rotTo_nodup {l : List W} (hl : l.Nodup) (w : W) (x : Int) : ∀ k, (rotTo l w x k).Nodup
  | 0 => hl
  | k + 1 => by
    have ih := rotTo_nodup hl w x k
    have e : rotTo l w x (k + 1) = if w.getD k 0 = x ∧ rot w k ∉ rotTo l w x k then rotTo l w x k ++ [rot w k] else rotTo l w x k := rfl
    rw [e]
    split
    · rename_i hh
      refine List.nodup_append.2 ⟨ih, by simp, fun a ha b hb hab => ?_⟩
      rw [List.mem_singleton.1 hb] at hab
      rw [hab] at ha
      exact hh.2 ha
    · exact ih
theorem wordsTo2_nodup (rels : List W) (x : Int) : ∀ k, (wordsTo2 rels x k).Nodup
  | 0 => List.nodup_nil
  | k + 1 => rotTo_nodup (rotTo_nodup (wordsTo2_nodup rels x k) _ _ _) _ _ _
def allIn (w : W) (l : List W) (k : Nat) : List W := foldTo (fun k l => l ++ [rot w k, rot (inv w) k]) k l
def allTo (rels : List W) (i : Nat) : List W := foldTo (fun i l => allIn (rels.getD i []) l (rels.getD i []).length) i []
def allR (rels : List W) : List W := allTo rels rels.length
theorem allIn_mem {w v : W} {l : List W} : ∀ {k : Nat}, v ∈ allIn w l k ↔ v ∈ l ∨ ∃ j, j < k ∧ (v = rot w j ∨ v = rot (inv w) j)
  | 0 => ⟨.inl, fun h => h.elim id fun ⟨j, h, _⟩ => absurd h (Nat.not_lt_zero _)⟩
  | k + 1 => by
    have ih := allIn_mem (w := w) (v := v) (l := l) (k := k)
    have e : allIn w l (k + 1) = allIn w l k ++ [rot w k, rot (inv w) k] := rfl
    rw [e, List.mem_append, ih]
    simp only [List.mem_cons, List.not_mem_nil, or_false]
    constructor
    · rintro ((h | ⟨j, h1, h2⟩) | h)
      · exact .inl h
      · exact .inr ⟨j, by omega, h2⟩
      · exact .inr ⟨k, by omega, h⟩
    · rintro (h | ⟨j, h1, h2⟩)
      · exact .inl (.inl h)
      · rcases Nat.lt_or_ge j k with h3 | h3
        · exact .inl (.inr ⟨j, h3, h2⟩)
        · obtain rfl : j = k := by omega
          exact .inr h2
theorem allTo_mem {rels : List W} {v : W} : ∀ {i : Nat}, v ∈ allTo rels i ↔ ∃ m j, m < i ∧ j < (rels.getD m []).length ∧ (v = rot (rels.getD m []) j ∨ v = rot (inv (rels.getD m [])) j)
  | 0 => ⟨(fun h => by cases h), fun ⟨m, j, h, _⟩ => absurd h (Nat.not_lt_zero _)⟩
  | i + 1 => by
    have ih := allTo_mem (rels := rels) (v := v) (i := i)
    have e : allTo rels (i + 1) = allIn (rels.getD i []) (allTo rels i) (rels.getD i []).length := rfl
    rw [e, allIn_mem, ih]
    constructor
    · rintro (⟨m, j, h1, h2⟩ | ⟨j, h1, h2⟩)
      · exact ⟨m, j, by omega, h2⟩
      · exact ⟨i, j, by omega, h1, h2⟩
    · rintro ⟨m, j, h1, h2, h3⟩
      rcases Nat.lt_or_ge m i with h4 | h4
      · exact .inl ⟨m, j, h4, h2, h3⟩
      · obtain rfl : m = i := by omega
        exact .inr ⟨j, h2, h3⟩
theorem wordsTo2_mem {rels : List W} {x : Int} {v : W} : ∀ {i : Nat}, v ∈ wordsTo2 rels x i ↔ ∃ m j, m < i ∧ j < (rels.getD m []).length ∧ (((rels.getD m []).getD j 0 = x ∧ v = rot (rels.getD m []) j) ∨ ((inv (rels.getD m [])).getD j 0 = x ∧ v = rot (inv (rels.getD m [])) j))
  | 0 => ⟨(fun h => by cases h), fun ⟨m, j, h, _⟩ => absurd h (Nat.not_lt_zero _)⟩
  | i + 1 => by
    have ih := wordsTo2_mem (rels := rels) (x := x) (v := v) (i := i)
    have e : wordsTo2 rels x (i + 1) = rotTo (rotTo (wordsTo2 rels x i) (rels.getD i []) x (rels.getD i []).length) (inv (rels.getD i [])) x (inv (rels.getD i [])).length := rfl
    rw [e, rotTo_mem, rotTo_mem, ih, length_inv]
    constructor
    · rintro ((⟨m, j, h1, h2⟩ | ⟨j, h1, h2⟩) | ⟨j, h1, h2⟩)
      · exact ⟨m, j, by omega, h2⟩
      · exact ⟨i, j, by omega, h1, .inl h2⟩
      · exact ⟨i, j, by omega, h1, .inr h2⟩
    · rintro ⟨m, j, h1, h2, h3⟩
      rcases Nat.lt_or_ge m i with h4 | h4
      · exact .inl (.inl ⟨m, j, h4, h2, h3⟩)
      · obtain rfl : m = i := by omega
        rcases h3 with h3 | h3
        · exact .inl (.inr ⟨j, h2, h3⟩)
        · exact .inr ⟨j, h2, h3⟩
def cntW (l : List W) (w : W) : Nat := l.countP fun v => v == w
theorem cnt_pos {l : List W} {w : W} (h : w ∈ l) : cntW l w ≠ 0 := by
  unfold cntW
  have := (List.countP_pos_iff (p := fun v => v == w) (l := l)).2 ⟨w, h, by simp⟩
  omega
theorem cnt_one {l : List W} (hn : l.Nodup) {w : W} (h : w ∈ l) : cntW l w = 1 := by
  induction l with
  | nil => cases h
  | cons a l ih =>
    obtain ⟨h1, h2⟩ := List.nodup_cons.1 hn
    unfold cntW at ih ⊢
    rw [List.countP_cons]
    rcases List.mem_cons.1 h with rfl | h3
    · have : l.countP (fun v => v == w) = 0 := List.countP_eq_zero.2 fun b hb hbw => by
        have : b = w := by simpa using hbw
        rw [this] at hb
        exact h1 hb
      rw [this]
      simp
    · have hne : ¬ (a == w) = true := fun e => by
        have : a = w := by simpa using e
        rw [this] at h1
        exact h1 h3
      rw [if_neg hne, ih h2 h3]
theorem rotations_law (rels : List W) (x : Int) :
    (∀ v ∈ wordsX rels x, (∃ u, v = x :: u) ∧ cntW (allR rels) v ≠ 0 ∧ cntW (wordsX rels x) v = 1) ∧
    (∀ v ∈ allR rels, (∃ y u, v = y :: u) ∧ (v.headD 0 = x → cntW (wordsX rels x) v = 1)) := by
  have hm : ∀ v, v ∈ wordsX rels x ↔ v ∈ allR rels ∧ ∃ u, v = x :: u := fun v => by
    unfold wordsX allR
    rw [wordsTo2_mem, allTo_mem]
    constructor
    · rintro ⟨m, j, h1, h2, ⟨h3, rfl⟩ | ⟨h3, rfl⟩⟩
      · obtain ⟨u, hu⟩ := rot_head h2
        exact ⟨⟨m, j, h1, h2, .inl rfl⟩, u, by rw [hu, h3]⟩
      · obtain ⟨u, hu⟩ := rot_head (w := inv (rels.getD m [])) (by rw [length_inv]; exact h2)
        exact ⟨⟨m, j, h1, h2, .inr rfl⟩, u, by rw [hu, h3]⟩
    · rintro ⟨⟨m, j, h1, h2, rfl | rfl⟩, u, hu⟩
      · obtain ⟨u', hu'⟩ := rot_head h2
        rw [hu'] at hu
        exact ⟨m, j, h1, h2, .inl ⟨(List.cons.inj hu).1, rfl⟩⟩
      · obtain ⟨u', hu'⟩ := rot_head (w := inv (rels.getD m [])) (by rw [length_inv]; exact h2)
        rw [hu'] at hu
        exact ⟨m, j, h1, h2, .inr ⟨(List.cons.inj hu).1, rfl⟩⟩
  have hne : ∀ v ∈ allR rels, ∃ y u, v = y :: u := fun v hv => by
    obtain ⟨m, j, h1, h2, rfl | rfl⟩ := allTo_mem.1 hv
    · obtain ⟨u, hu⟩ := rot_head h2
      exact ⟨_, u, hu⟩
    · obtain ⟨u, hu⟩ := rot_head (w := inv (rels.getD m [])) (by rw [length_inv]; exact h2)
      exact ⟨_, u, hu⟩
  have hnd : (wordsX rels x).Nodup := wordsTo2_nodup rels x _
  refine ⟨fun v hv => ⟨((hm v).1 hv).2, cnt_pos ((hm v).1 hv).1, cnt_one hnd hv⟩, fun v hv => ⟨hne v hv, fun h => cnt_one hnd ((hm v).2 ⟨hv, ?_⟩)⟩⟩
  obtain ⟨y, u, rfl⟩ := hne v hv
  exact ⟨u, by rw [show y = x from h]⟩
end Go.Proofs.Ct
namespace Go.Proofs.Ct
section
variable {g lim : Nat} {rels sub : List W} {s : St} {f : FS}
theorem coset_of_state (hg1 : 1 ≤ g) (hg16 : g ≤ 16) (hlim : lim ≤ 20000) (hr : ∀ j, j < rels.length → LOk g (rels.getD j [])) (hs : ∀ j, j < sub.length → LOk g (sub.getD j [])) {s : St} (hG : Good g lim s) (hC : Comp g s s.t.length) (hRC : RC rels s s.t.length) (hSC : ∀ j, j < sub.length → Clo s 0 (sub.getD j []))
    (hU : ∀ {α : Type} {D : α → Prop} {act : α → Nat → α} {p0 : α}, Mdl g rels D act → D p0 → (∀ j, j < sub.length → actW act p0 (sub.getD j []) = p0) → ∃ f, Mp g D act s f ∧ f 0 = p0) :
    Coset g rels sub (stdT (tabS s) 0) ∧ stdE g (tabS s) 0 = (stdT (tabS s) 0, 0) ∧ (stdT (tabS s) 0).length = (liv s).length := by
  obtain ⟨a, b, c⟩ := tab_good hg1 hg16 hlim hG hC
  have hF : Full g (tabS s) := ⟨a, b, c⟩
  have hS := hF.std_of a.n1
  refine ⟨⟨hS.full, hS.std, fun i hi j hj => ?_, fun j hj => ?_, fun {α D act p0} hM h0 hp => ?_⟩, (tab_std hg1 hg16 hlim hG hC).2, by rw [length_stdT, length_tab]⟩
  · obtain ⟨φ, hφ, h0φ, -⟩ := hS.there
    obtain ⟨ψ, hψ, h0ψ, -⟩ := hS.back
    -- every number is met
    have hw := tab_closed hG.rest hr hRC (ψ i) (hψ.lt i hi) j hj
    have h2 := hφ.way a (hr j hj) (hψ.lt i hi) hw
    -- φ (ψ i) = i: both are maps of the standard table to itself that fix 0
    have key : ∀ x, Reach g (stdT (tabS s) 0) 0 x → x < (stdT (tabS s) 0).length ∧ φ (ψ x) = x := fun x hx => by
      induction hx with
      | refl =>
        exact ⟨hS.full.good.n1, by rw [h0ψ, h0φ]⟩
      | @step y z c _ hc he ih =>
        obtain ⟨i1, i2⟩ := ih
        refine ⟨hS.full.good.elt i1 hc he, ?_⟩
        have h3 := hφ.edge _ _ _ (hψ.lt y i1) hc (hψ.edge y c z i1 hc he)
        rw [i2] at h3
        unfold Edge at he h3
        omega
    rw [(key i (hS.full.conn i hi)).2] at h2
    exact h2
  · obtain ⟨φ, hφ, h0, -⟩ := hS.there
    have hw := tab_closed0 hG.rest hG.n1 (hs j hj) (hSC j hj)
    have h2 := hφ.way a (hs j hj) a.n1 hw
    rwa [h0] at h2
  · obtain ⟨f, hf, hf0⟩ := hU hM h0 hp
    obtain ⟨ψ, hψ, hψ0, -⟩ := hS.back
    have hlv : ∀ i, i < (tabS s).length → (liv s).getD i 0 < s.t.length := fun i hi => by
      rw [length_tab] at hi
      exact (livTo_at (s := s) s.t.length i hi).1
    refine ⟨fun x => f ((liv s).getD (ψ x) 0), ?_, fun x hx => hf.dom _ (hlv _ (hψ.lt x hx)), fun x c y hx hc he => ?_⟩
    · show f ((liv s).getD (ψ 0) 0) = p0
      rw [hψ0]
      have h1 := (num_lt (n := s.t.length) hG.n1 (rp_zero hG.rest hG.n1)).2
      have h2 : num s 0 = 0 := rfl
      rw [h2] at h1
      have h3 : (liv s).getD 0 0 = 0 := h1
      rw [h3]; exact hf0
    · have h1 := hψ.edge x c y hx hc he
      obtain ⟨x', y', h2, h3, h4, h5, h6⟩ := tab_from hG.rest hc (hψ.lt x hx) (fun x hx => hC x hx hx c hc) h1
      show act (f ((liv s).getD (ψ x) 0)) c = f ((liv s).getD (ψ y) 0)
      rw [h5, h6]
      exact hf.edge _ _ _ h2 hc h4
theorem lead_all (h : Rest g s) (hC : ∀ r, r < s.t.length → s.rp r = r → ∀ c, c < 2 * g → 0 ≤ s.t.at r c) {ws : W} (hw : LOk g ws) {r : Nat} (hr : r < s.t.length) (hlr : s.rp r = r) : ∀ k, k ≤ ws.length → 0 ≤ leadTo s.t r ws k
  | 0, _ => Int.natCast_nonneg r
  | k + 1, hk => by
    have ih := lead_all h hC hw hr hlr k (by omega)
    obtain ⟨h1, h2⟩ := lead_live h hw hr hlr k (by omega) ih
    rw [leadTo_succ, if_neg (by omega)]
    exact hC _ h1 h2 _ (hw.col (by omega))
theorem fwd_all (h : Rest g s) (hC : ∀ r, r < s.t.length → s.rp r = r → ∀ c, c < 2 * g → 0 ≤ s.t.at r c) {w : W} (hw : LOk g w) {r : Nat} (hr : r < s.t.length) (hlr : s.rp r = r) : fwd s.t r w = w.length :=
  fwd_eq (Nat.le_refl _) (.inl rfl) fun j hj => lead_all h hC hw hr hlr (j + 1) (by omega)
theorem coin_live (h : Rest g s) {a b : Nat} (ha : a < s.t.length) (hb : b < s.t.length) (hne : s.rp a ≠ s.rp b) : (coinS (2 * g) s a b).live < s.live := by
  obtain ⟨c1, c2, c3, -⟩ := coin_rest h ha hb
  have hn := c2.n
  have l1 := c1.lv
  have l2 := h.lv
  have hd := dc_less h c1 c2 ha hb hne c3
  omega
theorem scan_full (h : FRest g f) (hC : ∀ r, r < f.s.t.length → f.s.rp r = r → ∀ c, c < 2 * g → 0 ≤ f.s.t.at r c) {r : Nat} (hr : r < f.s.t.length) (hlr : f.s.rp r = r) {w : W} (hw : LOk g w) :
    ((scanF (2 * g) f r w).1 = f ∧ leadTo f.s.t r w w.length = (r : Int)) ∨ (scanF (2 * g) f r w).1.s.live < f.s.live := by
  have hf := fwd_all h.rest hC hw hr hlr
  unfold scanF
  rw [if_pos hf, hf]
  by_cases e : leadTo f.s.t r w w.length = (r : Int)
  · rw [if_pos e]
    exact .inl ⟨rfl, e⟩
  · rw [if_neg e]
    refine .inr ?_
    have hp := lead_all h.rest hC hw hr hlr w.length (Nat.le_refl _)
    obtain ⟨h1, h2⟩ := lead_live h.rest hw hr hlr w.length (Nat.le_refl _) hp
    show (coinF (2 * g) f _ r).s.live < _
    rw [coinF_s]
    exact coin_live h.rest h1 hr (by rw [h2, hlr]; omega)
theorem FExt.live {f' : FS} (h : FRest g f) (k : FExt g f f') : f'.s.live ≤ f.s.live := live_le h.rest k.rest.rest k.ext k.n
theorem scansTo_full (h : FRest g f) (hC : ∀ r, r < f.s.t.length → f.s.rp r = r → ∀ c, c < 2 * g → 0 ≤ f.s.t.at r c) {ws : List W} (hw : ∀ j, j < ws.length → LOk g (ws.getD j [])) {r : Nat} (hr : r < f.s.t.length) : ∀ n, n ≤ ws.length →
    (scansTo (2 * g) r ws n f = f ∧ (f.s.rp r = r → ∀ j, j < n → leadTo f.s.t r (ws.getD j []) (ws.getD j []).length = (r : Int))) ∨ (scansTo (2 * g) r ws n f).s.live < f.s.live
  | 0, _ => .inl ⟨rfl, fun _ j hj => absurd hj (Nat.not_lt_zero _)⟩
  | n + 1, hn => by
    obtain ⟨i1, i2, i3, i4, i5⟩ := scansTo_F hw h hr n (by omega)
    have i3' := i3
    have ih := scansTo_full h hC hw hr n (by omega)
    have e : scansTo (2 * g) r ws (n + 1) f = if (scansTo (2 * g) r ws n f).s.rp r = r then (scanF (2 * g) (scansTo (2 * g) r ws n f) r (ws.getD n [])).1 else scansTo (2 * g) r ws n f := rfl
    rw [e]
    rcases ih with ⟨ih1, ih2⟩ | ih
    · rw [ih1]
      by_cases hl : f.s.rp r = r
      · rw [if_pos hl]
        rcases scan_full h hC hr hl (hw n (by omega)) with ⟨h1, h2⟩ | h1
        · refine .inl ⟨h1, fun hl j hj => ?_⟩
          rcases Nat.lt_or_ge j n with h3 | h3
          · exact ih2 hl j h3
          · obtain rfl : j = n := by omega
            exact h2
        · exact .inr h1
      · rw [if_neg hl]
        exact .inl ⟨rfl, fun h => absurd h hl⟩
    · refine .inr ?_
      split
      · rename_i hl
        obtain ⟨j1, j2, j3, j4, j5⟩ := (scan_F i1 (by rw [i3]; exact hr) hl (hw n (by omega))).1
        have := live_le i1.rest j1.rest j2 j3
        omega
      · exact ih
theorem chkTo_full (hr : ∀ j, j < rels.length → LOk g (rels.getD j [])) (h : FRest g f) (hC : ∀ r, r < f.s.t.length → f.s.rp r = r → ∀ c, c < 2 * g → 0 ≤ f.s.t.at r c) : ∀ n, n ≤ f.s.t.length →
    (chkTo (2 * g) rels n f = f ∧ ∀ r, r < n → f.s.rp r = r → ∀ j, j < rels.length → leadTo f.s.t r (rels.getD j []) (rels.getD j []).length = (r : Int)) ∨ (chkTo (2 * g) rels n f).s.live < f.s.live
  | 0, _ => .inl ⟨rfl, fun r hr => absurd hr (Nat.not_lt_zero _)⟩
  | n + 1, hn => by
    have i1 := chkTo_F hr h n (by omega)
    have ih := chkTo_full hr h hC n (by omega)
    have e : chkTo (2 * g) rels (n + 1) f = scansF (2 * g) (chkTo (2 * g) rels n f) n rels := rfl
    rw [e]
    rcases ih with ⟨ih1, ih2⟩ | ih
    · rw [ih1]
      rcases scansTo_full h hC hr (r := n) (by omega) rels.length (Nat.le_refl _) with ⟨h1, h2⟩ | h1
      · refine .inl ⟨h1, fun r hr hl j hj => ?_⟩
        rcases Nat.lt_or_ge r n with h3 | h3
        · exact ih2 r h3 hl j hj
        · obtain rfl : r = n := by omega
          exact h2 hl j hj
      · exact .inr h1
    · have := (scans_F hr i1.rest (r := n) (by rw [i1.n]; omega)).live i1.rest
      exact .inr (by omega)
theorem chk_full (hr : ∀ j, j < rels.length → LOk g (rels.getD j [])) (hs : ∀ j, j < sub.length → LOk g (sub.getD j [])) (h : FGood g lim f) (ho : openS (2 * g) f.s = none) (e : (chkF (2 * g) rels sub f).s.live = f.s.live) :
    chkF (2 * g) rels sub f = f ∧ Comp g f.s f.s.t.length ∧ RC rels f.s f.s.t.length ∧ ∀ j, j < sub.length → Clo f.s 0 (sub.getD j []) := by
  have hC := openS_none ho
  have h1 := h.good.n1
  have h0 := rp_zero h.good.rest h1
  have i1 := chkTo_F hr h.rest f.s.t.length (Nat.le_refl _)
  have hlv := (scans_F hs i1.rest (r := 0) (by rw [i1.n]; omega)).live i1.rest
  have e' : chkF (2 * g) rels sub f = scansF (2 * g) (chkTo (2 * g) rels f.s.t.length f) 0 sub := rfl
  rw [e'] at e ⊢
  rcases chkTo_full hr h.rest hC f.s.t.length (Nat.le_refl _) with ⟨a1, a2⟩ | a1
  · rw [a1] at e ⊢
    rcases scansTo_full h.rest hC hs (r := 0) h1 sub.length (Nat.le_refl _) with ⟨b1, b2⟩ | b1
    · refine ⟨b1, fun x hx _ c hc => hC _ (h.good.rest.inv.rlt hx) (h.good.rest.inv.rid x hx) c hc, fun x hx _ j hj => ?_, fun j hj => ?_⟩
      · unfold Clo
        have := a2 _ (h.good.rest.inv.rlt hx) (h.good.rest.inv.rid x hx) j hj
        exact leads_iff.1 this
      · unfold Clo
        rw [h0]
        exact leads_iff.1 (b2 h0 j hj)
    · have : (scansF (2 * g) f 0 sub).s.live < f.s.live := b1
      omega
  · omega
end
section
variable {g lim : Nat} {rels sub : List W} {f : FS} {α : Type} {D : α → Prop} {act : α → Nat → α} {φ : Nat → α}
def CloD (D : α → Prop) (act : α → Nat → α) (w : W) : Prop := ∀ p, D p → actW act p w = p
theorem clo_rot (hM : Mdl g rels D act) {w : W} (hw : LOk g w) (h : CloD D act w) (k : Nat) : CloD D act (rot w k) := fun p hp => by
  show actW act p (w.drop k ++ w.take k) = p
  have hd : LOk g (w.drop k) := fun x hx => hw x (List.mem_of_mem_drop hx)
  have ht : LOk g (w.take k) := fun x hx => hw x (List.mem_of_mem_take hx)
  -- p is led there by the first part
  have h1 := hM.invW ht.inv hp
  rw [inv_inv] at h1
  have hq := hM.clW ht.inv hp
  have h2 := h _ hq
  have e : w = w.take k ++ w.drop k := (List.take_append_drop k w).symm
  generalize w.take k = a at *
  generalize w.drop k = b at *
  subst e
  rw [actW_app, h1] at h2
  rw [actW_app, h2]
  exact h1
theorem clo_inv (hM : Mdl g rels D act) {w : W} (hw : LOk g w) (h : CloD D act w) : CloD D act (inv w) := fun p hp => by
  have := hM.invW hw hp
  rwa [h p hp] at this
theorem wsF_clo (hM : Mdl g rels D act) (hr : ∀ j, j < rels.length → LOk g (rels.getD j [])) (c j : Nat) (hj : j < (wsF rels c).length) : CloD D act ((wsF rels c).getD j []) := by
  obtain ⟨m, k, h1, h2, ⟨-, e⟩ | ⟨-, e⟩⟩ := wordsTo2_mem.1 (mem_getD0 hj)
  · have e' : (wsF rels c).getD j [] = rot (rels.getD m []) k := e
    rw [e']
    exact clo_rot hM (hr m h1) (fun p hp => hM.rel p m hp h1) k
  · have e' : (wsF rels c).getD j [] = rot (inv (rels.getD m [])) k := e
    rw [e']
    exact clo_rot hM (hr m h1).inv (clo_inv hM (hr m h1) fun p hp => hM.rel p m hp h1) k
theorem scanF_mp (hM : Mdl g rels D act) (hm : Mp g D act f.s φ) (h : FRest g f) {r : Nat} (hr : r < f.s.t.length) (hlr : f.s.rp r = r) {w : W} (hw : LOk g w) (hcl : actW act (φ r) w = φ r) : Mp g D act (scanF (2 * g) f r w).1.s φ := by
  have es := scanF_s (2 * g) f r w
  cases ho : (scanF (2 * g) f r w).2 with
  | none => rw [ho] at es; exact scan_mp hM hm h.rest hr hlr hw hcl _ es
  | some uc =>
    obtain ⟨u, c⟩ := uc
    rw [((scan_F h hr hlr hw).2 u c ho).1]
    exact hm
theorem scansTo_mp (hM : Mdl g rels D act) (hm : Mp g D act f.s φ) (h : FRest g f) {ws : List W} (hw : ∀ j, j < ws.length → LOk g (ws.getD j [])) {r : Nat} (hr : r < f.s.t.length) (hcl : ∀ j, j < ws.length → actW act (φ r) (ws.getD j []) = φ r) : ∀ n, n ≤ ws.length → Mp g D act (scansTo (2 * g) r ws n f).s φ
  | 0, _ => hm
  | n + 1, hn => by
    obtain ⟨i1, i2, i3, i4, i5⟩ := scansTo_F hw h hr n (by omega)
    have ih := scansTo_mp hM hm h hw hr hcl n (by omega)
    have e : scansTo (2 * g) r ws (n + 1) f = if (scansTo (2 * g) r ws n f).s.rp r = r then (scanF (2 * g) (scansTo (2 * g) r ws n f) r (ws.getD n [])).1 else scansTo (2 * g) r ws n f := rfl
    rw [e]
    split
    · rename_i hl
      exact scanF_mp hM ih i1 (by rw [i3]; exact hr) hl (hw n (by omega)) (hcl n (by omega))
    · exact ih
theorem scansF_mp (hM : Mdl g rels D act) (hm : Mp g D act f.s φ) (h : FRest g f) {ws : List W} (hw : ∀ j, j < ws.length → LOk g (ws.getD j [])) {r : Nat} (hr : r < f.s.t.length) (hcl : ∀ j, j < ws.length → actW act (φ r) (ws.getD j []) = φ r) : Mp g D act (scansF (2 * g) f r ws).s φ := scansTo_mp hM hm h hw hr hcl _ (Nat.le_refl _)
theorem dedS_mp (hM : Mdl g rels D act) (hm : Mp g D act f.s φ) (h : FRest g f) {ws : Nat → List W} (hw : ∀ c, c < 2 * g → ∀ j, j < (ws c).length → LOk g ((ws c).getD j [])) (hcl : ∀ c j, j < (ws c).length → CloD D act ((ws c).getD j [])) {r c : Nat} (hr : r < f.s.t.length) (hc : c < 2 * g) : Mp g D act (dedS (2 * g) ws f r c).s φ := by
  have h1 := scans_F (hw c hc) h hr
  have m1 := scansF_mp hM hm h (hw c hc) hr fun j hj => hcl c j hj _ (hm.dom r hr)
  unfold dedS
  generalize scansF (2 * g) f r (ws c) = f1 at *
  split
  · rename_i hh
    have hb := h1.rest.rest.inv.bd r (by rw [h1.n]; exact hr) c hc
    exact scansF_mp hM m1 h1.rest (hw _ (flp_lt2 hc)) (by omega) fun j hj => hcl _ j hj _ (m1.dom _ (by omega))
  · exact m1
theorem dedN_mp (hM : Mdl g rels D act) {ws : Nat → List W} (hw : ∀ c, c < 2 * g → ∀ j, j < (ws c).length → LOk g ((ws c).getD j [])) (hcl : ∀ c j, j < (ws c).length → CloD D act ((ws c).getD j [])) : ∀ (n : Nat) {f : FS}, FRest g f → Mp g D act f.s φ → Mp g D act (dedN (2 * g) ws n f).s φ
  | 0, _, _, hm => hm
  | n + 1, f, h, hm => by
    rw [dedN]
    split
    · exact hm
    · rename_i hk
      obtain ⟨h1, h2⟩ := h.kok _ (top_mem hk)
      exact dedN_mp hM hw hcl n (dedStep_F hw h hk).rest (dedS_mp (f := f.pop) hM hm (pop_F h) hw hcl h1 h2)
theorem defF_mp (hM : Mdl g rels D act) (hm : Mp g D act f.s φ) (h : FRest g f) {r c : Nat} (hr : r < f.s.t.length) (hc : c < 2 * g) : Mp g D act (defF (2 * g) f r c).s (fun x => if x = f.s.t.length then act (φ r) c else φ x) := hm.defn hM h.rest.inv hr hc
theorem fillFF_mp (hM : Mdl g rels D act) : ∀ (fuel : Nat) {f : FS} {φ : Nat → α}, Mp g D act f.s φ → FGood g lim f → ∀ {r : Nat}, r < f.s.t.length → f.s.rp r = r → ∀ {w : W}, LOk g w → actW act (φ r) w = φ r → ∀ f', fillFF (2 * g) lim fuel f r w = some f' → ∃ φ', Mp g D act f'.s φ' ∧ ∀ x, x < f.s.t.length → φ' x = φ x
  | 0, _, _, _, _, _, _, _, _, _, _, f', e => by cases e
  | fuel + 1, f, φ, hm, h, r, hr, hl, w, hw, hcl, f', e => by
    have hsm := scanF_mp hM hm h.rest hr hl hw hcl
    obtain ⟨-, b⟩ := scan_F h.rest hr hl hw
    unfold fillFF at e
    cases ho : (scanF (2 * g) f r w).2 with
    | none =>
      rw [ho] at e
      cases e
      exact ⟨φ, hsm, fun _ _ => rfl⟩
    | some uc =>
      obtain ⟨u, c⟩ := uc
      rw [ho] at e
      simp only at e
      obtain ⟨-, h2, h3, h4, h5⟩ := b _ _ ho
      split at e
      · cases e
      · obtain ⟨k1, k2⟩ := h.defn h2 h3 h4 h5 (by omega)
        have hn : (defF (2 * g) f u c).s.t.length = f.s.t.length + 1 := length_def _ _ _
        have hd := defF_mp hM hm h.rest h2 h3
        obtain ⟨φ', m1, m2⟩ := fillFF_mp hM fuel hd k1 (r := r) (by omega) (by
          show (defS (2 * g) f.s u c).rp r = r
          rw [rp_def_old h.good.rest.inv _ _ _ hr]; exact hl) hw (by rw [if_neg (by omega)]; exact hcl) f' e
        refine ⟨φ', m1, fun x hx => ?_⟩
        rw [m2 x (by omega), if_neg (by omega)]
theorem compN_mp (hM : Mdl g rels D act) {ws : Nat → List W} (hw : ∀ c, c < 2 * g → ∀ j, j < (ws c).length → LOk g ((ws c).getD j [])) (hcl : ∀ c j, j < (ws c).length → CloD D act ((ws c).getD j [])) : ∀ (n : Nat) {f : FS} {φ : Nat → α}, FGood g lim f → Mp g D act f.s φ → ∀ f', compN (2 * g) lim ws n f = some f' → ∃ φ', Mp g D act f'.s φ' ∧ φ' 0 = φ 0
  | 0, _, _, _, _, f', e => by cases e
  | n + 1, f, φ, h, hm, f', e => by
    rw [compN] at e
    cases ho : openS (2 * g) f.s with
    | none =>
      rw [ho] at e
      cases e
      exact ⟨φ, hm, rfl⟩
    | some rc =>
      obtain ⟨r, c⟩ := rc
      rw [ho] at e
      simp only at e
      split at e
      · cases e
      · obtain ⟨h1, h2, h3, h4⟩ := openS_some ho
        obtain ⟨k1, -⟩ := h.defn h1 h3 h2 h4 (by omega)
        obtain ⟨d1, d2, d3, d4⟩ := def_ded hw h ho (by omega)
        have hm1 := dedN_mp hM hw hcl (pot (2 * g) (defF (2 * g) f r c)) k1.rest (defF_mp hM hm h.rest h1 h3)
        obtain ⟨φ', m1, m2⟩ := compN_mp hM hw hcl n d1 hm1 f' e
        refine ⟨φ', m1, m2.trans ?_⟩
        have := h.good.n1
        exact if_neg (by omega)
theorem chkTo_mp (hM : Mdl g rels D act) (hr : ∀ j, j < rels.length → LOk g (rels.getD j [])) (h : FRest g f) (hm : Mp g D act f.s φ) : ∀ n, n ≤ f.s.t.length → Mp g D act (chkTo (2 * g) rels n f).s φ
  | 0, _ => hm
  | n + 1, hn => by
    have ih := chkTo_mp hM hr h hm n (by omega)
    have i1 := chkTo_F hr h n (by omega)
    exact scansF_mp hM ih i1.rest hr (by rw [i1.n]; omega) fun j hj => hM.rel _ j (hm.dom n (by omega)) hj
theorem rndN_mp (hM : Mdl g rels D act) (hr : ∀ j, j < rels.length → LOk g (rels.getD j [])) (hs : ∀ j, j < sub.length → LOk g (sub.getD j [])) : ∀ (n : Nat) {f : FS} {φ : Nat → α}, FGood g lim f → Mp g D act f.s φ → (∀ j, j < sub.length → actW act (φ 0) (sub.getD j []) = φ 0) → ∀ f', rndN (2 * g) lim rels sub n f = some (some f') →
    (∃ φ', Mp g D act f'.s φ' ∧ φ' 0 = φ 0)
  | 0, _, _, _, _, _, f', e => by cases e
  | n + 1, f, φ, h, hm, hp, f', e => by
    rw [rndN] at e
    have d1 := ded_F (fun c _ => wsF_ok hr c) h.rest
    have hm1 := dedN_mp hM (fun c _ => wsF_ok hr c) (fun c j => wsF_clo hM hr c j) (pot (2 * g) f) h.rest hm
    cases ec : compF (2 * g) lim (wsF rels) (ded (2 * g) (wsF rels) f) with
    | none => rw [ec] at e; cases e
    | some f2 =>
      rw [ec] at e
      simp only at e
      obtain ⟨r1, -, -, r4, -⟩ := round_less hr hs h ec
      obtain ⟨φ2, m1, m2⟩ := compN_mp hM (fun c _ => wsF_ok hr c) (fun c j => wsF_clo hM hr c j) _ (h.ext d1.1) hm1 f2 ec
      have m3 := chkTo_mp hM hr r1.rest m1 _ (Nat.le_refl _)
      have i1 := chkTo_F hr r1.rest f2.s.t.length (Nat.le_refl _)
      have m4 := scansF_mp hM m3 i1.rest hs (r := 0) (by rw [i1.n]; exact r1.good.n1) fun j hj => by rw [m2]; exact hp j hj
      split at e
      · cases e
        exact ⟨φ2, m4, m2⟩
      · obtain ⟨φ', m5, m6⟩ := rndN_mp hM hr hs n (r1.ext r4) m4 (fun j hj => by rw [m2]; exact hp j hj) f' e
        exact ⟨φ', m5, m6.trans m2⟩
theorem start_mp {p0 : α} (h0 : D p0) : Mp g D act (startF (2 * g)).s (fun _ => p0) := by
  have hst : (startS (2 * g)).t.length = 1 := by unfold startS; rw [length_add]; rfl
  refine ⟨fun _ _ => h0, fun _ _ => rfl, fun x c y hx hc hy => ?_⟩
  have hx0 : x = nilS.t.length := by
    have hx' : x < (startS (2 * g)).t.length := hx
    rw [hst] at hx'; show x = 0; omega
  have hy' : Edge (startS (2 * g)).t x c y := hy
  unfold Edge startS at hy'
  rw [hx0, at_add_new _ _ hc] at hy'
  omega
theorem subF_mp (hM : Mdl g rels D act) (hr : ∀ j, j < rels.length → LOk g (rels.getD j [])) (hs : ∀ j, j < sub.length → LOk g (sub.getD j [])) (hl : 1 ≤ lim) {p0 : α} (h0 : D p0) (hp : ∀ j, j < sub.length → actW act p0 (sub.getD j []) = p0) {f' : FS} (e : optTo (subF (2 * g) lim rels sub) sub.length (startF (2 * g)) = some f') : ∃ φ, Mp g D act f'.s φ ∧ φ 0 = p0 := by
  have key := optTo_inv (p := fun _ f => FGood g lim f ∧ ∃ φ : Nat → α, Mp g D act f.s φ ∧ φ 0 = p0) (f := subF (2 * g) lim rels sub) (s := startF (2 * g)) ⟨startF_good hl, fun _ => p0, start_mp h0, rfl⟩ sub.length (fun i f f1 hi ⟨h, φ, hm, hφ⟩ e => ?_) f' e
  · exact key.2
  · unfold subF at e
    obtain ⟨f2, h2, rfl⟩ := Option.map_eq_some_iff.1 e
    have hz := rp_zero h.good.rest h.good.n1
    have h3 := (fillFF_good _ h h.good.n1 hz (hs i (by omega)) f2 h2).1
    obtain ⟨φ2, m1, m2⟩ := fillFF_mp hM _ hm h h.good.n1 hz (hs i (by omega)) (by rw [hφ]; exact hp i (by omega)) f2 h2
    refine ⟨h3.ext (ded_F (fun c _ => wsF_ok hr c) h3.rest).1, φ2, dedN_mp hM (fun c _ => wsF_ok hr c) (fun c j => wsF_clo hM hr c j) _ h3.rest m1, ?_⟩
    rw [m2 0 h.good.n1, hφ]
theorem coset_of_felsch (hg1 : 1 ≤ g) (hg16 : g ≤ 16) (hlim : lim ≤ 20000) (hl1 : 1 ≤ lim) (hr : ∀ j, j < rels.length → LOk g (rels.getD j [])) (hs : ∀ j, j < sub.length → LOk g (sub.getD j [])) {f : FS} (e : felschS (2 * g) lim rels sub = some f) :
    FGood g lim f ∧ Coset g rels sub (stdT (tabS f.s) 0) ∧ stdE g (tabS f.s) 0 = (stdT (tabS f.s) 0, 0) ∧ (stdT (tabS f.s) 0).length = (liv f.s).length ∧ Comp g f.s f.s.t.length := by
  unfold felschS at e
  obtain ⟨f0, e0, e1⟩ := Option.bind_eq_some_iff.1 e
  have hG0 := subF_good hr hs hl1 (Nat.le_refl _) e0
  unfold rndF at e1
  obtain ⟨o, ho⟩ := rndN_ends hr hs _ hG0 (Nat.le_refl _)
  rw [ho] at e1
  have e1' : o = some f := e1
  subst e1'
  -- the last round
  have hend : ∀ (n : Nat) {f1 : FS}, FGood g lim f1 → rndN (2 * g) lim rels sub n f1 = some (some f) → FGood g lim f ∧ Comp g f.s f.s.t.length ∧ RC rels f.s f.s.t.length ∧ ∀ j, j < sub.length → Clo f.s 0 (sub.getD j []) := by
    intro n
    induction n with
    | zero => intro f1 _ h; cases h
    | succ n ih =>
      intro f1 h1 h
      rw [rndN] at h
      cases ec : compF (2 * g) lim (wsF rels) (ded (2 * g) (wsF rels) f1) with
      | none => rw [ec] at h; cases h
      | some f2 =>
        rw [ec] at h
        simp only at h
        obtain ⟨r1, -, r3, r4, -⟩ := round_less hr hs h1 ec
        split at h
        · rename_i hl
          cases h
          obtain ⟨c1, c2⟩ := chk_full hr hs r1 r3 hl
          rw [c1]
          exact ⟨r1, c2⟩
        · exact ih (r1.ext r4) h
  obtain ⟨g1, g2, g3, g4⟩ := hend _ hG0 ho
  have hcs := coset_of_state hg1 hg16 hlim hr hs g1.good g2 g3 g4 fun {α D act p0} hM h0 hp => ?_
  · exact ⟨g1, hcs.1, hcs.2.1, hcs.2.2, g2⟩
  obtain ⟨φ, m1, m2⟩ := subF_mp hM hr hs hl1 h0 hp e0
  obtain ⟨φ', m3, m4⟩ := rndN_mp hM hr hs _ hG0 m1 (fun j hj => by rw [m2]; exact hp j hj) f ho
  exact ⟨φ', m3, m4.trans m2⟩
end
end Go.Proofs.Ct
