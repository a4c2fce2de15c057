/- slices.Repeat of one number; A state in memory while a coset is added: rows, parents and queue each by itself; Operations that make or grow a list, one at a time; what stands while a row joins; (*coset.state).add; The reference's Add: what it meets; The reference's Add. -/
import Derived.Test.YtmpnengjboabcaaFlCS7
import Derived.Shelf.Bits.Mul64
import Derived.Laws.CopyOwn
namespace Go.Proofs
open Go.Shelf
def Try.lays212_ren : Go.Shelf.Ren := ⟨fun | 212 => 222 | 263 => 231 | 264 => 232 | n => n, fun | 46 => 206 | 51 => 209 | 146 => 210 | 53 => 212 | 148 => 213 | n => n, fun | n => n⟩
theorem Try.lays212 : Go.Proofs.Lays.n212 Try.prog Try.lays212_ren := {
  mixed := by kernel_rfl
  f212 := Try.func222.trans (congrArg some (by kernel_rfl))
  f263 := Try.func231.trans (congrArg some (by kernel_rfl))
  f264 := Try.func232.trans (congrArg some (by kernel_rfl))
  t46 := Try.underlying206
  a46 := Try.isAgg206
  z46 := Try.sizeOf206
  v46 := Try.zeroValue206
  t51 := Try.underlying209
  a51 := Try.isAgg209
  z51 := Try.sizeOf209
  v51 := Try.zeroValue209
  t53 := Try.underlying212
  a53 := Try.isAgg212
  z53 := Try.sizeOf212
  v53 := Try.zeroValue212
  t146 := Try.underlying210
  a146 := Try.isAgg210
  z146 := Try.sizeOf210
  v146 := Try.zeroValue210
  t148 := Try.underlying213
  a148 := Try.isAgg213
  z148 := Try.sizeOf213
  v148 := Try.zeroValue213 }
end Go.Proofs
namespace Go.Proofs
open Go.RowKit Go.Proofs.Ct Go.Shelf
def rp (x : Int) (k c : Nat) : List Value := List.replicate k (.int .i64 x) ++ List.replicate (c - k) (.int .i64 0)
theorem length_rp (x : Int) {k c : Nat} (h : k ≤ c) : (rp x k c).length = c := by simp [rp]; omega
theorem rp_get (x : Int) {k c j : Nat} (_h : k ≤ c) (hj : j < c) : (rp x k c)[j]? = some (.int .i64 (if j < k then x else 0)) := by
  unfold rp
  rw [List.getElem?_append]
  simp only [List.length_replicate, List.getElem?_replicate]
  by_cases h1 : j < k
  · simp [h1]
  · simp [h1]; omega
theorem rp_step (x : Int) {k m c : Nat} (h : k + m ≤ c) : (rp x k c).take k ++ List.replicate m (.int .i64 x) ++ (rp x k c).drop (k + m) = rp x (k + m) c := by
  have h1 : (rp x k c).take k = List.replicate k (.int .i64 x) := by
    unfold rp
    rw [List.take_append_of_le_length (by simp)]
    simp
  have h2 : (rp x k c).drop (k + m) = List.replicate (c - (k + m)) (.int .i64 0) := by
    unfold rp
    rw [List.drop_append, List.drop_replicate, List.length_replicate, List.drop_replicate]
    rw [show k - (k + m) = 0 by omega, show c - k - (k + m - k) = c - (k + m) by omega]
    simp
  rw [h1, h2, List.replicate_append_replicate]
  rfl
theorem make24r (w : World) (n : Nat) (hn : n ≤ 100000) : (Instr.makeSlice 24 (.int .i64 (n : Int)) (.int .i64 (n : Int))).run Try.prog w =
    .ok (.slice (some ⟨w.heap.size, 0, none⟩) n n) (w.alloc (.cells (Array.replicate n (.int .i64 0)) 3)) := by
  obtain ⟨i, hi, hz, hs, hb⟩ := info3p
  have := run_makeSlice (P := Try.prog) w 24 3 i (.int .i64 0) Try.underlying24 hi hz .i64 .i64 n n (by omega) (Int.le_refl _) (by rw [hs]; simp; omega) (by rw [hb]; omega) (by omega)
  rw [this, hs, Int.toNat_natCast, Nat.mul_one, made3]
theorem copy_double {w : World} {g c k m : Nat} {x : Int} (hg : w.heap[g]? = some (.cells (rp x k c).toArray 3 (0, 0))) (hk : k ≤ c) (hm : m = min k (c - k)) (ty : TypeId) :
    (Builtin.copy_ #[24, 24] ty #[.slice (some ⟨g, k, none⟩) (c - k) (c - k), .slice (some ⟨g, 0, none⟩) k c]).run Try.prog w = .ok (.int .i64 m) (w.setRow g (rp x (k + m) c).toArray) := by
  have h3 : (Try.prog.info? 3).map (·.size) = some 1 := by kernel_rfl
  have := run_copy_row (P := Try.prog) w 24 24 ty 3 g k (c - k) (c - k) ⟨g, 0, none⟩ k c (rp x k c).toArray 3 (List.replicate m (.int .i64 x)) Try.underlying24 h3 hg (by rw [List.length_replicate, hm]; first | rfl | done)
    (fun j v hv => by
      have hj : j < m := by have := (List.getElem?_eq_some_iff.1 hv).1; simpa using this
      rw [Addr.add_lit, Nat.zero_add, cell_of_row _ _ _ _ _ _ hg, List.getElem?_toArray, rp_get x hk (by omega), if_pos (by omega), ← hv]
      simp [hj]) (by rw [List.size_toArray, length_rp x hk, List.length_replicate]; omega) (fun v hv => by rw [(List.mem_replicate.1 hv).2]; rfl)
  rw [this]
  simp only [List.length_replicate]
  rw [rp_step x (by omega)]
  rfl
theorem copy_first {w : World} {g c b o cc : Nat} {x : Int} (hg : w.heap[g]? = some (.cells (rp x 0 c).toArray 3 (0, 0))) (hc : 0 < c) (hb : w.cell? ⟨b, o, none⟩ = some (.int .i64 x)) (ty : TypeId) :
    (Builtin.copy_ #[24, 24] ty #[.slice (some ⟨g, 0, none⟩) c c, .slice (some ⟨b, o, none⟩) 1 cc]).run Try.prog w = .ok (.int .i64 1) (w.setRow g (rp x 1 c).toArray) := by
  have h3 : (Try.prog.info? 3).map (·.size) = some 1 := by kernel_rfl
  have := run_copy_row (P := Try.prog) w 24 24 ty 3 g 0 c c ⟨b, o, none⟩ 1 cc (rp x 0 c).toArray 3 [.int .i64 x] Try.underlying24 h3 hg (by show 1 = min 1 c; omega)
    (fun j v hv => by
      match j, hv with
      | 0, hv => rw [Addr.add_lit, Nat.add_zero, hb]; simpa using hv) (by rw [List.size_toArray, length_rp x (Nat.zero_le _)]; simp; omega) (fun v hv => by simp at hv; rw [hv]; rfl)
  rw [this]
  have e := rp_step x (k := 0) (m := 1) (c := c) (by omega)
  rw [Nat.zero_add] at e
  rw [← e]
  simp [goInt]
theorem copy_none {w : World} {g b o cc : Nat} (ty : TypeId) : (Builtin.copy_ #[24, 24] ty #[.slice (some ⟨g, 0, none⟩) 0 0, .slice (some ⟨b, o, none⟩) 1 cc]).run Try.prog w = .ok (.int .i64 0) w := by
  have h3 : (Try.prog.info? 3).map (·.size) = some 1 := by kernel_rfl
  exact run_copy_none (P := Try.prog) w 24 24 ty 3 _ _ _ _ _ _ Try.underlying24 h3 (by show min 1 0 = 0; rfl)
theorem mul153 (w : World) (c : Nat) (hc : c ≤ 1000) : Calls Try.prog 222 #[.int .u64 1, .int .u64 c] w fun e w' => e = .returned (.tuple #[.int .u64 0, .int .u64 c]) ∧ w' = w :=
  (Any.bits_Mul Try.lays212 1 c (by omega) (by omega) w).mono fun e w' ⟨he, hw⟩ => by
    refine ⟨?_, hw⟩
    rw [he, show 1 * c / 18446744073709551616 = 0 by omega, show 1 * c % 18446744073709551616 = c by omega]
    rfl
def Rep (w : World) (x : Int) (c : Nat) (e : Ending) (w' : World) : Prop := ∃ v, e = .returned v ∧ (∃ g, v = .slice (some ⟨g, 0, none⟩) c c ∧ w.heap.size ≤ g ∧ w'.heap[g]? = some (.cells (rp x c c).toArray 3 (0, 0))) ∧ Below w.heap.size w w'
theorem rp_zero (x : Int) (c : Nat) : Array.replicate c (Value.int .i64 0) = (rp x 0 c).toArray := by simp [rp]
theorem drew_setRow (w : World) (g : Nat) (cs : Array Value) : w.drew.setRow g cs = (w.setRow g cs).drew := rfl
set_option maxRecDepth 100000 in
set_option maxHeartbeats 1000000 in
theorem repeat148_any (w : World) (b o cc : Nat) (x : Int) (c : Nat) (hc : c ≤ 1000) (hx : w.cell? ⟨b, o, none⟩ = some (.int .i64 x)) :
    Calls Try.prog 209 #[.slice (some ⟨b, o, none⟩) 1 cc, .int .i64 c] w (Rep w x c) := by
  have hmk := make24r w c (by omega)
  rw [rp_zero x c] at hmk
  have hg0 := heap_alloc_new w (.cells (rp x 0 c).toArray 3)
  have hb0 : Below w.heap.size w (w.alloc (.cells (rp x 0 c).toArray 3)) := (Below.refl _ _).alloc (Nat.le_refl _) _
  have hx0 := (hb0.cell (p := ⟨b, o, none⟩) (World.block_lt_of_cell? w _ hx)).trans hx
  have hc0 : (0 : Int) ≤ (c : Int) := Int.natCast_nonneg _
  have hc1 : (c : Int) ≤ 1000 := by omega
  have HM := Lib.hid (mul153 w c hc)
  have HG := Lib.hid hg0
  have HB := Lib.hid hb0
  clear hg0 hb0 hx
  generalize w.alloc (.cells (rp x 0 c).toArray 3) = W at *
  have d1 : decide ((c : Int) < 0) = false := by simp
  go_enter Try.func209, Try.ntmps209
  go_wp2_with fail
  rcases Nat.eq_zero_or_pos c with h0 | h0
  · subst h0
    have hmk0 : (Instr.makeSlice 24 (.int .i64 0) (.int .i64 0)).run Try.prog w = .ok (.slice (some ⟨w.heap.size, 0, none⟩) 0 0) W := hmk
    have hcn := copy_none (w := W) (g := w.heap.size) (b := b) (o := o) (cc := cc) 3
    go_wp2_with (go_at_call 222; (refine HM.out.mono ?_); rintro e w' ⟨rfl, rfl⟩)
    go_loop [8] (fun s => s = .int .i64 0) (fun _ => 0)
    case atStart => rfl
    case round =>
      subst hrel
      go_wp2_with fail
      go_ret
      exact ⟨_, rfl, ⟨_, rfl, Nat.le_refl _, HG.out⟩, HB.out⟩
  · have hcf := copy_first (cc := cc) HG.out h0 hx0 3
    have hg1 := setRow_heap W w.heap.size _ (rp x 1 c).toArray 3 (0, 0) HG.out
    have hb1 : Below w.heap.size w (W.setRow w.heap.size (rp x 1 c).toArray) := HB.out.trans ⟨rfl, rfl, rfl, by rw [World.setRow]; simp, fun k hk => setRow_other W _ k _ (by omega)⟩
    have hcc1 : (1 : Int) ≤ (c : Int) := by omega
    go_wp2_with (go_at_call 222; (refine HM.out.mono ?_); rintro e w' ⟨rfl, rfl⟩)
    generalize W.setRow w'.heap.size (rp x 1 c).toArray = W1 at *
    go_loopw [8] (fun s wr => ∃ k : Nat, 1 ≤ k ∧ k ≤ c ∧ s = .int .i64 k ∧ wr.heap[w'.heap.size]? = some (.cells (rp x k c).toArray 3 (0, 0)) ∧ Below w'.heap.size w' wr) (fun s _ => c - (intOf s).toNat)
    case atStart => exact ⟨1, Nat.le_refl _, h0, rfl, hg1, hb1⟩
    case round =>
      obtain ⟨k, hk1, hk, rfl, hg, hb⟩ := hrel
      by_cases hlt : k < c
      · have hk0 : (0 : Int) ≤ (k : Int) := Int.natCast_nonneg _
        have hkc : (k : Int) ≤ (c : Int) := by omega
        have hkl : (k : Int) < (c : Int) := by omega
        obtain ⟨m, hm⟩ : ∃ m, m = min k (c - k) := ⟨_, rfl⟩
        have hm1 : 1 ≤ m := by omega
        have hm2 : k + m ≤ c := by omega
        have hcd := copy_double (w := wr.drew) (x := x) (m := m) hg hk hm 3
        have hgn := setRow_heap wr w'.heap.size _ (rp x (k + m) c).toArray 3 (0, 0) hg
        have hbn : Below w'.heap.size w' (wr.setRow w'.heap.size (rp x (k + m) c).toArray) := hb.trans ⟨rfl, rfl, rfl, by rw [World.setRow]; simp, fun k hk => setRow_other wr _ k _ (by omega)⟩
        rw [drew_setRow] at hcd
        have HM' := Lib.hid hm
        have HGN := Lib.hid hgn
        have HBN := Lib.hid hbn
        clear hg hb hm hgn hbn hcf hmk
        go_wp2_with fail
        go_region
        go_wp2_with fail
        go_roundw
        case rel => exact ⟨k + m, by omega, by omega, by go_num, HGN.out, HBN.out.drew⟩
        case measure => simp [intOf]; omega
      · obtain rfl : k = c := by omega
        go_wp2_with fail
        go_ret
        exact ⟨_, rfl, ⟨_, rfl, Nat.le_refl _, hg⟩, hb⟩
end Go.Proofs
namespace Go.Proofs
open Go.RowKit Go.Shelf Go.Proofs.Ct Go.Maps
theorem run_push_at {t ty e : TypeId} {z : Value} {bytes : Nat} (ht : Try.prog.underlying t = some (.slice e)) (hi : ∃ i, Try.prog.info? e = some i ∧ i.zero = some z ∧ i.size = 1 ∧ i.bytes = bytes) (hz : z.cells.size = 1) (hby : bytes ≤ 1000)
    (w : World) (base : Nat) (v : Value) (n : Nat) (xs : List Value) (hown : w.ownsRow base e 1 v n xs) (x : Value) (h1 : x.oneCell' = true) (hn : n ≤ 10000000) (hb : base ≤ w.heap.size) (h : Nat) (hx : w.cell? ⟨h, 0, none⟩ = some x) :
    ∃ A' c' w', (Builtin.append_ #[t, t] ty #[v, .slice (some ⟨h, 0, none⟩) 1 1]).run Try.prog w = .ok (.slice A' (n + 1) c') w' ∧ w'.ownsRow base e 1 (.slice A' (n + 1) c') (n + 1) (xs ++ [x]) ∧
      w.grownBy w' v.ownBlock ∧ ((Value.slice A' (n + 1) c').ownBlock = v.ownBlock ∨ ∃ r, (Value.slice A' (n + 1) c').ownBlock = some r ∧ w.heap.size ≤ r) := by
  obtain ⟨i, hi, hz', hs, hb'⟩ := hi
  have hnews : ∀ j u, [x][j]? = some u → w.cell? ((⟨h, 0, none⟩ : Addr).add j) = some u := fun j u hu => by
    match j, hu with
    | 0, hu => rw [Addr.add_lit, Nat.add_zero, hx]; simpa using hu
  obtain ⟨v', w', hr, hown', hg, -, hw⟩ := run_append_own_at (P := Try.prog) w base t ty e i z 1 bytes ht hi hz' hs hb' hz (by omega) v n xs hown ⟨h, 0, none⟩ 1 1 [x] rfl hnews (fun u hu => by simp at hu; rw [hu]; exact h1) (by unfold maxLen; omega)
    (by have : (n + 1) * bytes ≤ 10000001 * 1000 := Nat.mul_le_mul (by omega) hby
        omega) hb
  obtain ⟨A', c', rfl⟩ := owns_form hown'
  refine ⟨A', c', w', hr, hown', hg, ?_⟩
  rcases hw with hw | hw
  · exact .inl hw
  · exact .inr ⟨_, hw, Nat.le_refl _⟩
structure CoreN (base : Nat) (w : World) (t : Tb) (q : List Nat) (P : List Int) (vr vp vq : Value) (bl cs : Nat → Nat) : Prop where
  out : w.ownsRow base 24 1 vr t.length ((List.range t.length).map fun i => .slice (some ⟨bl i, 0, none⟩) (t.row i).length (cs i))
  row : ∀ i, i < t.length → base ≤ bl i ∧ XsAt w (bl i) (t.row i) ∧ (t.row i).length ≤ cs i ∧ cs i ≤ 9223372036854775807
  inj : ∀ i j, i < t.length → j < t.length → bl i = bl j → i = j
  par : OwnI base w vp P
  que : OwnI base w vq (nats q)
  sepP : ∀ i, i < t.length → vp.ownBlock ≠ some (bl i)
  sepQ : ∀ i, i < t.length → vq.ownBlock ≠ some (bl i)
  pq : ∀ r, vp.ownBlock = some r → vq.ownBlock ≠ some r
theorem CoreM.toN {base : Nat} {w : World} {s : St} {P : List Int} {vr vp vq : Value} {bl cs : Nat → Nat} (h : CoreM base w s P vr vp vq bl cs) : CoreN base w s.t s.q P vr vp vq bl cs := ⟨h.out, h.row, h.inj, h.par, h.que, h.sepP, h.sepQ, h.pq⟩
section
variable {base : Nat} {w w' : World} {t : Tb} {q : List Nat} {P : List Int} {vr vp vq : Value} {bl cs : Nat → Nat}
theorem CoreN.toM {s : St} (h : CoreN base w s.t s.q P vr vp vq bl cs) (hr : Roots P s) : CoreM base w s P vr vp vq bl cs := ⟨h.out, h.row, h.inj, h.par, h.que, h.sepP, h.sepQ, h.pq, hr⟩
theorem CoreN.keep (h : CoreN base w t q P vr vp vq bl cs) (hk : ∀ k C e, base ≤ k → w.heap[k]? = some (.cells C e (0, 0)) → (e = 3 ∨ e = 24) → w'.heap[k]? = w.heap[k]?) : CoreN base w' t q P vr vp vq bl cs := by
  refine ⟨owns_keep h.out fun r hr => ?_, fun i hi => ?_, h.inj, owns_keep h.par fun r hr => ?_, owns_keep h.que fun r hr => ?_, h.sepP, h.sepQ, h.pq⟩
  · obtain ⟨a, C, hC⟩ := owns_block h.out r hr
    exact hk r C 24 a hC (.inr rfl)
  · obtain ⟨a, b, c⟩ := h.row i hi
    obtain ⟨C, hC, -⟩ := id b
    exact ⟨a, b.keep (hk _ C 3 a hC (.inl rfl)), c⟩
  · obtain ⟨a, C, hC⟩ := owns_block h.par r hr
    exact hk r C 3 a hC (.inl rfl)
  · obtain ⟨a, C, hC⟩ := owns_block h.que r hr
    exact hk r C 3 a hC (.inl rfl)
theorem CoreN.below (h : CoreN base w t q P vr vp vq bl cs) (hb : Below w.heap.size w w') : CoreN base w' t q P vr vp vq bl cs :=
  h.keep fun k _C _e _ hC _ => hb.block k (Array.getElem?_eq_some_iff.1 hC).1
theorem CoreN.other (h : CoreN base w t q P vr vp vq bl cs) {b : Nat} {C0 : Array Value} {T : TypeId} (hb : w.heap[b]? = some (.cells C0 T (0, 0))) (h3 : T ≠ 3) (h24 : T ≠ 24) (k : Nat) (v : Value) : CoreN base (w.setCell ⟨b, k, none⟩ v) t q P vr vp vq bl cs :=
  h.keep fun j C e _ hC he => Below.heap_setCell w ⟨b, k, none⟩ v j fun e' => by
    have e'' : j = b := e'
    rw [e'', hb] at hC
    cases hC
    rcases he with he | he <;> simp_all
theorem row_append (t : Tb) (x : List Int) (i : Nat) : Tb.row (t ++ [x]) i = if i < t.length then t.row i else if i = t.length then x else [] := by
  unfold Tb.row
  rw [List.getD_eq_getElem?_getD, List.getElem?_append]
  by_cases h : i < t.length
  · simp [h, List.getD_eq_getElem?_getD]
  · by_cases h2 : i = t.length
    · subst h2; simp
    · rw [if_neg h, if_neg h, if_neg h2, List.getElem?_eq_none (by simp; omega)]
      rfl
theorem CoreN.pushRow (h : CoreN base w t q P vr vp vq bl cs) (hbw : base ≤ w.heap.size) {g h0 m : Nat} {x : List Int} (hg : base ≤ g) (hx : XsAt w g x) (hm : x.length = m) (hm1 : m ≤ 1000) (hn : ∀ i, i < t.length → bl i ≠ g) (hp : vp.ownBlock ≠ some g) (hq : vq.ownBlock ≠ some g) (hc : w.cell? ⟨h0, 0, none⟩ = some (.slice (some ⟨g, 0, none⟩) m m)) (hl : t.length ≤ 1000000) :
    ∃ A c w', (Builtin.append_ #[22, 22] 22 #[vr, .slice (some ⟨h0, 0, none⟩) 1 1]).run Try.prog w = .ok (.slice A (t.length + 1) c) w' ∧ CoreN base w' (t ++ [x]) q P (.slice A (t.length + 1) c) vp vq (fun i => if i = t.length then g else bl i) (fun i => if i = t.length then m else cs i) ∧ w.grownBy w' vr.ownBlock := by
  obtain ⟨A, c, w', hr, ho, hgr, -⟩ := run_push_at (t := 22) (ty := 22) Try.underlying22 info24p rfl (by omega) w base vr t.length _ h.out (.slice (some ⟨g, 0, none⟩) m m) rfl (by omega) hbw h0 hc
  have hne : ∀ (k : Nat) (C : Array Value), w.heap[k]? = some (.cells C 3 (0, 0)) → w'.heap[k]? = w.heap[k]? := fun k C hC => hgr.block k (Array.getElem?_eq_some_iff.1 hC).1 fun e => by
    obtain ⟨-, C', hC'⟩ := owns_block h.out k e.symm
    rw [hC] at hC'
    cases hC'
  have hlen : (t ++ [x]).length = t.length + 1 := by simp
  refine ⟨A, c, w', hr, ⟨?_, fun i hi => ?_, fun i j hi hj e => ?_, owns_keep h.par fun k hk => ?_, owns_keep h.que fun k hk => ?_, fun i hi => ?_, fun i hi => ?_, h.pq⟩, hgr⟩
  · rw [hlen]
    have e : ((List.range (t.length + 1)).map fun i => (.slice (some ⟨(if i = t.length then g else bl i), 0, none⟩) (Tb.row (t ++ [x]) i).length (if i = t.length then m else cs i) : Value)) = (List.range t.length).map (fun i => (.slice (some ⟨bl i, 0, none⟩) (t.row i).length (cs i) : Value)) ++ [.slice (some ⟨g, 0, none⟩) m m] := by
      rw [List.range_succ, List.map_append]
      refine congr (congrArg (fun a b : List Value => a ++ b) ?_) ?_
      · refine List.map_congr_left fun i hi => ?_
        have hi' : i < t.length := List.mem_range.1 hi
        rw [if_neg (by omega), if_neg (by omega), row_append, if_pos hi']
      · rw [List.map_cons, List.map_nil, if_pos rfl, if_pos rfl, row_append, if_neg (Nat.lt_irrefl _), if_pos rfl, hm]
    rw [e]
    exact ho
  · rw [hlen] at hi
    by_cases e : i = t.length
    · subst e
      obtain ⟨C, hC, -⟩ := id hx
      simp only [if_true, row_append, Nat.lt_irrefl, if_false]
      exact ⟨hg, hx.keep (hne _ C hC), by omega, by omega⟩
    · have hi' : i < t.length := by omega
      obtain ⟨a, b, d⟩ := h.row i hi'
      obtain ⟨C, hC, -⟩ := id b
      simp only [if_neg e, row_append, if_pos hi']
      exact ⟨a, b.keep (hne _ C hC), d⟩
  · rw [hlen] at hi hj
    by_cases e1 : i = t.length
    · by_cases e2 : j = t.length
      · omega
      · simp only [if_pos e1, if_neg e2] at e
        exact absurd e.symm (hn j (by omega))
    · by_cases e2 : j = t.length
      · simp only [if_neg e1, if_pos e2] at e
        exact absurd e (hn i (by omega))
      · simp only [if_neg e1, if_neg e2] at e
        exact h.inj i j (by omega) (by omega) e
  · obtain ⟨-, C, hC⟩ := owns_block h.par k hk
    exact hne k C hC
  · obtain ⟨-, C, hC⟩ := owns_block h.que k hk
    exact hne k C hC
  · rw [hlen] at hi
    by_cases e : i = t.length
    · simp only [if_pos e]; exact hp
    · simp only [if_neg e]; exact h.sepP i (by omega)
  · rw [hlen] at hi
    by_cases e : i = t.length
    · simp only [if_pos e]; exact hq
    · simp only [if_neg e]; exact h.sepQ i (by omega)
theorem CoreN.pushP (h : CoreN base w t q P vr vp vq bl cs) (hbw : base ≤ w.heap.size) {h0 : Nat} {z : Int} (hc : w.cell? ⟨h0, 0, none⟩ = some (.int .i64 z)) (hl : P.length ≤ 1000000) :
    ∃ A c w', (Builtin.append_ #[24, 24] 24 #[vp, .slice (some ⟨h0, 0, none⟩) 1 1]).run Try.prog w = .ok (.slice A (P.length + 1) c) w' ∧ CoreN base w' t q (P ++ [z]) vr (.slice A (P.length + 1) c) vq bl cs ∧ w.grownBy w' vp.ownBlock := by
  obtain ⟨A, c, w', hr, ho, hgr, hw⟩ := run_push_at (t := 24) (ty := 24) Try.underlying24 info3p rfl (by omega) w base vp P.length _ h.par (.int .i64 z) rfl (by omega) hbw h0 hc
  have hnewb : ∀ r, (Value.slice A (P.length + 1) c).ownBlock = some r → vp.ownBlock = some r ∨ w.heap.size ≤ r := fun r hr => by
    rcases hw with hw | ⟨r', hr', hge⟩
    · exact .inl (by rw [← hw]; exact hr)
    · rw [hr] at hr'
      cases hr'
      exact .inr hge
  refine ⟨A, c, w', hr, ⟨owns_keep h.out fun k hk => ?_, fun i hi => ?_, h.inj, ?_, owns_keep h.que fun k hk => ?_, fun i hi e => ?_, h.sepQ, fun r hr e => ?_⟩, hgr⟩
  · obtain ⟨-, C, hC⟩ := owns_block h.out k hk
    refine hgr.block k (Array.getElem?_eq_some_iff.1 hC).1 fun e => ?_
    obtain ⟨-, C', hC'⟩ := owns_block h.par k e.symm
    rw [hC] at hC'
    cases hC'
  · obtain ⟨a, b, d⟩ := h.row i hi
    obtain ⟨C, hC, -⟩ := id b
    exact ⟨a, b.keep (hgr.block _ (Array.getElem?_eq_some_iff.1 hC).1 fun e => h.sepP i hi e.symm), d⟩
  · show w'.ownsRow base 3 1 _ (P ++ [z]).length (ints (P ++ [z]))
    rw [ints_app, List.length_append]
    exact ho
  · obtain ⟨-, C, hC⟩ := owns_block h.que k hk
    exact hgr.block k (Array.getElem?_eq_some_iff.1 hC).1 fun e => h.pq k e.symm hk
  · obtain ⟨-, b, -⟩ := h.row i hi
    rcases hnewb _ e with e | e
    · exact h.sepP i hi e
    · exact absurd b.lt (by omega)
  · rcases hnewb _ hr with e' | e'
    · exact h.pq r e' e
    · exact absurd (owns_lt h.que e) (by omega)
end
end Go.Proofs
namespace Go.Proofs
open Go.RowKit Go.Shelf Go.Proofs.Ct Go.Maps
theorem bs24 (x : Int) (w : World) : (Instr.buildSlice 24 1 #[(0, .int .i64 x)]).run Try.prog w = .ok (.slice (some ⟨w.heap.size, 0, none⟩) 1 1) (w.alloc (.cells #[.int .i64 x] 3)) := by kernel_rfl
theorem bs22 (A : Option Addr) (m c : Nat) (w : World) : (Instr.buildSlice 22 1 #[(0, .slice A m c)]).run Try.prog w = .ok (.slice (some ⟨w.heap.size, 0, none⟩) 1 1) (w.alloc (.cells #[.slice A m c] 24)) := by kernel_rfl
theorem call148 (args : Array Value) (w : World) : (callFunc 209 args).run Try.prog w = .ok (.enter 209 args) w := enters_of Try.func209 (by kernel_rfl) rfl args w
section
variable {o : Oper} {a : Act} {w w' : World} {n : Nat} {v : Value}
theorem r_bs24 (x : Operand) (i : Int) (ho : o.op = .buildSlice 24 1 #[(0, x)]) (hx : a.eval x = .int .i64 i) : (execOp a.eval o).run Try.prog w = .ok (.value (.slice (some ⟨w.heap.size, 0, none⟩) 1 1)) (w.alloc (.cells #[.int .i64 i] 3)) := by
  have hb := bs24 i w
  unfold execOp
  simp only [ho, List.map_toArray, List.map_cons, List.map_nil, hx, Sem.run_bind, hb, Result.andThen_ok]
  rfl
theorem r_bs22 (x : Operand) (A : Option Addr) (m c : Nat) (ho : o.op = .buildSlice 22 1 #[(0, x)]) (hx : a.eval x = .slice A m c) : (execOp a.eval o).run Try.prog w = .ok (.value (.slice (some ⟨w.heap.size, 0, none⟩) 1 1)) (w.alloc (.cells #[.slice A m c] 24)) := by
  have hb := bs22 A m c w
  unfold execOp
  simp only [ho, List.map_toArray, List.map_cons, List.map_nil, hx, Sem.run_bind, hb, Result.andThen_ok]
  rfl
theorem r_len (x : Operand) (T : TypeId) (A : Option Addr) (m c : Nat) {E : TypeId} (hT : Try.prog.underlying T = some (.slice E)) (ho : o.op = .call { callee := .builtin .len, args := #[x], argTypes := #[T] }) (hx : a.eval x = .slice A m c) : (execOp a.eval o).run Try.prog w = .ok (.value (.int .i64 (m : Int))) w := by
  unfold execOp
  simp only [ho, resolve, invoke, builtin, Sem.run_bind, Sem.run_pure, Result.andThen_ok, List.map_toArray, List.map_cons, List.map_nil, hx]
  simp [Builtin.len_, run_underlying hT, goInt]
theorem r_max2 (x y : Operand) (i j z : Int) (ho : o.op = .call { callee := .builtin .max, args := #[x, y], argTypes := #[3, 3] }) (hx : a.eval x = .int .i64 i) (hy : a.eval y = .int .i64 j) (hz : z = max i j) : (execOp a.eval o).run Try.prog w = .ok (.value (.int .i64 z)) w := by
  have e : (if j > i then j else i) = z := by rw [hz]; split <;> omega
  unfold execOp
  simp only [ho, resolve, invoke, builtin, Sem.run_bind, Sem.run_pure, Result.andThen_ok, List.map_toArray, List.map_cons, List.map_nil, hx, hy, run_max_int2, e]
end
def Still (N z : Nat) (i : Nat) (w w' : World) : Prop := (∀ k, N ≤ k → k < w.heap.size → w'.heap[k]? = w.heap[k]?) ∧ (i ≠ z → ∀ (k : Nat) (C : Array Value) (e : TypeId), w.heap[k]? = some (.cells C e (0, 0)) → (e = 3 ∨ e = 24) → w'.heap[k]? = w.heap[k]?)
theorem Still.same {N z i : Nat} {w : World} : Still N z i w w := ⟨fun _ _ _ => rfl, fun _ _ _ _ _ _ => rfl⟩
theorem Still.of_below {N z i : Nat} {w w' : World} (h : Below w.heap.size w w') : Still N z i w w' := ⟨fun k _ hk => h.block k hk, fun _ k _C _e hC _ => h.block k (Array.getElem?_eq_some_iff.1 hC).1⟩
theorem Still.grown {N z : Nat} {w w' : World} {row : Option Nat} (h : w.grownBy w' row) (hr : ∀ r, row = some r → r < N) : Still N z z w w' :=
  ⟨fun k hk hl => h.block k hl fun e => by have := hr k e.symm; omega, fun e => absurd rfl e⟩
def RowF (base N m : Nat) (t : Tb) (q : List Nat) (P : List Int) (b : Nat) (vr vp vq : Value) (bl cs : Nat → Nat) : Nat → Value → World → Prop
  | 5, v, w => ∃ g, v = .slice (some ⟨g, 0, none⟩) 1 1 ∧ N ≤ g ∧ w.heap[g]? = some (.cells #[.int .i64 (-1)] 3 (0, 0))
  | 10, v, w => ∃ g, v = .slice (some ⟨g, 0, none⟩) m m ∧ N ≤ g ∧ w.heap[g]? = some (.cells (rp (-1) m m).toArray 3 (0, 0))
  | 11, v, w => ∃ g h, v = .slice (some ⟨h, 0, none⟩) 1 1 ∧ N ≤ g ∧ N ≤ h ∧ w.heap[g]? = some (.cells (rp (-1) m m).toArray 3 (0, 0)) ∧ w.heap[h]? = some (.cells #[.slice (some ⟨g, 0, none⟩) m m] 24 (0, 0))
  | 12, v, w => ∃ A c g, v = .slice A (t.length + 1) c ∧ CoreN base w (t ++ [List.replicate m (-1)]) q P v vp vq (fun i => if i = t.length then g else bl i) (fun i => if i = t.length then m else cs i)
  | i, v, _ => v = ([.pointer (some ⟨b, 0, none⟩), .pointer (some ⟨b, 0, none⟩), .pointer (some ⟨b, 0, none⟩), .pointer (some ⟨b, 2, none⟩), vr, undef, .pointer (some ⟨b, 0, none⟩), .pointer (some ⟨b, 0, none⟩), .pointer (some ⟨b, 0, none⟩), .int .i64 (m : Int), undef, undef, undef, .pointer (some ⟨b, 0, none⟩), .pointer (some ⟨b, 2, none⟩), undef] : List Value).getD i undef
end Go.Proofs
namespace Go.Proofs
open Go.RowKit Go.Shelf Go.Proofs.Ct Go.Maps
structure RowS (base b m lim : Nat) (w : World) (s : St) (P : List Int) (vr vp vq : Value) (bl cs : Nat → Nat) (p q : Bool) (W : World) : Prop where
  box : q = false → BoxP b m lim W s vr vp vq ∧ (p = false → CoreN base W s.t s.q P vr vp vq bl cs)
  bel : Below base w W
  done : q = true → ∃ A c g, BoxP b m lim W s (.slice A (s.t.length + 1) c) vp vq ∧ CoreN base W (s.t ++ [List.replicate m (-1)]) s.q P (.slice A (s.t.length + 1) c) vp vq (fun i => if i = s.t.length then g else bl i) (fun i => if i = s.t.length then m else cs i)
section
variable {base b m lim : Nat} {w W W' : World} {s : St} {P : List Int} {vr vp vq : Value} {bl cs : Nat → Nat} {p q : Bool}
theorem xs_rp {g : Nat} (h : W.heap[g]? = some (.cells (rp (-1) m m).toArray 3 (0, 0))) : XsAt W g (List.replicate m (-1)) := by
  refine ⟨_, h, by rw [List.size_toArray, length_rp _ (Nat.le_refl _), List.length_replicate]; exact Nat.le_refl _, fun k hk => ?_⟩
  rw [List.length_replicate] at hk
  rw [List.getElem?_toArray, rp_get _ (Nat.le_refl _) hk, if_pos hk]
  simp [List.getD_eq_getElem?_getD, hk]
end
def ParF (base N : Nat) (t : Tb) (q : List Nat) (P : List Int) (b : Nat) (vr vp vq : Value) (bl cs : Nat → Nat) : Nat → Value → World → Prop
  | 10, v, w => ∃ h, v = .slice (some ⟨h, 0, none⟩) 1 1 ∧ N ≤ h ∧ w.heap[h]? = some (.cells #[.int .i64 (P.length : Int)] 3 (0, 0))
  | 11, v, w => ∃ A c, v = .slice A (P.length + 1) c ∧ CoreN base w t q (P ++ [(P.length : Int)]) vr v vq bl cs
  | i, v, _ => v = ([.pointer (some ⟨b, 0, none⟩), .pointer (some ⟨b, 0, none⟩), .pointer (some ⟨b, 0, none⟩), .pointer (some ⟨b, 3, none⟩), vp, .pointer (some ⟨b, 0, none⟩), .pointer (some ⟨b, 0, none⟩), .pointer (some ⟨b, 3, none⟩), vp, .int .i64 (P.length : Int), undef, undef, .pointer (some ⟨b, 0, none⟩), .pointer (some ⟨b, 3, none⟩), undef] : List Value).getD i undef
structure ParS (base N b m lim : Nat) (w : World) (s : St) (t : Tb) (P : List Int) (vr vp vq : Value) (bl cs : Nat → Nat) (p q : Bool) (W : World) : Prop where
  box : q = false → BoxP b m lim W s vr vp vq ∧ (p = false → CoreN base W t s.q P vr vp vq bl cs)
  bel : Below base w W
  siz : N ≤ W.heap.size
  done : q = true → ∃ A c, BoxP b m lim W s vr (.slice A (P.length + 1) c) vq ∧ CoreN base W t s.q (P ++ [(P.length : Int)]) vr (.slice A (P.length + 1) c) vq bl cs
section
variable {base N b m lim : Nat} {w W W' : World} {s : St} {t : Tb} {P : List Int} {vr vp vq : Value} {bl cs : Nat → Nat} {p q : Bool}
end
theorem sel1 {W A B : World} {p : Bool} (h : W = bif p then B else A) (hp : p = false) : W = A := by
  subst hp
  exact h
end Go.Proofs
namespace Go.Proofs
open Go.RowKit Go.Shelf Go.Proofs.Ct Go.Maps
theorem Still.boxR {N z i b : Nat} {w : World} {C0 : Array Value} (hb : w.heap[b]? = some (.cells C0 131 (0, 0))) (hN : b < N) (k : Nat) (v : Value) : Still N z i w (w.setCell ⟨b, k, none⟩ v) :=
  ⟨fun j hj _ => Below.heap_setCell w ⟨b, k, none⟩ v j (fun e => by have e' : j = b := e; omega), fun _ j C e hC he => Below.heap_setCell w ⟨b, k, none⟩ v j fun e' => by
    have e'' : j = b := e'
    rw [e'', hb] at hC
    cases hC
    rcases he with he | he <;> cases he⟩
section
variable {base : Nat} {w w' : World} {t : Tb} {q : List Nat} {P : List Int} {vr vp vq : Value} {bl cs : Nat → Nat}
theorem CoreN.pushRowR (h : CoreN base w t q P vr vp vq bl cs) (hbw : base ≤ w.heap.size) {g h0 m cap : Nat} {x : List Int} (hg : base ≤ g) (hx : XsAt w g x) (hm : x.length = m) (_hm1 : m ≤ 1000) (hcap : m ≤ cap) (hcap2 : cap ≤ 9223372036854775807) (hn : ∀ i, i < t.length → bl i ≠ g) (hp : vp.ownBlock ≠ some g) (hq : vq.ownBlock ≠ some g) (hc : w.cell? ⟨h0, 0, none⟩ = some (.slice (some ⟨g, 0, none⟩) m cap)) (hl : t.length ≤ 1000000) :
    ∃ A c w', (Builtin.append_ #[23, 23] 23 #[vr, .slice (some ⟨h0, 0, none⟩) 1 1]).run Try.prog w = .ok (.slice A (t.length + 1) c) w' ∧ CoreN base w' (t ++ [x]) q P (.slice A (t.length + 1) c) vp vq (fun i => if i = t.length then g else bl i) (fun i => if i = t.length then cap else cs i) ∧ w.grownBy w' vr.ownBlock := by
  obtain ⟨A, c, w', hr, ho, hgr, -⟩ := run_push_at (t := 23) (ty := 23) Try.underlying23 info24p rfl (by omega) w base vr t.length _ h.out (.slice (some ⟨g, 0, none⟩) m cap) rfl (by omega) hbw h0 hc
  have hne : ∀ (k : Nat) (C : Array Value), w.heap[k]? = some (.cells C 3 (0, 0)) → w'.heap[k]? = w.heap[k]? := fun k C hC => hgr.block k (Array.getElem?_eq_some_iff.1 hC).1 fun e => by
    obtain ⟨-, C', hC'⟩ := owns_block h.out k e.symm
    rw [hC] at hC'
    cases hC'
  have hlen : (t ++ [x]).length = t.length + 1 := by simp
  refine ⟨A, c, w', hr, ⟨?_, fun i hi => ?_, fun i j hi hj e => ?_, owns_keep h.par fun k hk => ?_, owns_keep h.que fun k hk => ?_, fun i hi => ?_, fun i hi => ?_, h.pq⟩, hgr⟩
  · rw [hlen]
    have e : ((List.range (t.length + 1)).map fun i => (.slice (some ⟨(if i = t.length then g else bl i), 0, none⟩) (Tb.row (t ++ [x]) i).length (if i = t.length then cap else cs i) : Value)) = (List.range t.length).map (fun i => (.slice (some ⟨bl i, 0, none⟩) (t.row i).length (cs i) : Value)) ++ [.slice (some ⟨g, 0, none⟩) m cap] := by
      rw [List.range_succ, List.map_append]
      refine congr (congrArg (fun a b : List Value => a ++ b) ?_) ?_
      · refine List.map_congr_left fun i hi => ?_
        have hi' : i < t.length := List.mem_range.1 hi
        rw [if_neg (by omega), if_neg (by omega), row_append, if_pos hi']
      · rw [List.map_cons, List.map_nil, if_pos rfl, if_pos rfl, row_append, if_neg (Nat.lt_irrefl _), if_pos rfl, hm]
    rw [e]
    exact ho
  · rw [hlen] at hi
    by_cases e : i = t.length
    · subst e
      obtain ⟨C, hC, -⟩ := id hx
      simp only [if_true, row_append, Nat.lt_irrefl, if_false]
      exact ⟨hg, hx.keep (hne _ C hC), by omega, by omega⟩
    · have hi' : i < t.length := by omega
      obtain ⟨a, b, d⟩ := h.row i hi'
      obtain ⟨C, hC, -⟩ := id b
      simp only [if_neg e, row_append, if_pos hi']
      exact ⟨a, b.keep (hne _ C hC), d⟩
  · rw [hlen] at hi hj
    by_cases e1 : i = t.length
    · by_cases e2 : j = t.length
      · omega
      · simp only [if_pos e1, if_neg e2] at e
        exact absurd e.symm (hn j (by omega))
    · by_cases e2 : j = t.length
      · simp only [if_neg e1, if_pos e2] at e
        exact absurd e (hn i (by omega))
      · simp only [if_neg e1, if_neg e2] at e
        exact h.inj i j (by omega) (by omega) e
  · obtain ⟨-, C, hC⟩ := owns_block h.par k hk
    exact hne k C hC
  · obtain ⟨-, C, hC⟩ := owns_block h.que k hk
    exact hne k C hC
  · rw [hlen] at hi
    by_cases e : i = t.length
    · simp only [if_pos e]; exact hp
    · simp only [if_neg e]; exact h.sepP i (by omega)
  · rw [hlen] at hi
    by_cases e : i = t.length
    · simp only [if_pos e]; exact hq
    · simp only [if_neg e]; exact h.sepQ i (by omega)
end
def ParG (base N : Nat) (t : Tb) (q : List Nat) (P : List Int) (b : Nat) (vr vp vq : Value) (bl cs : Nat → Nat) : Nat → Value → World → Prop
  | 10, v, w => ∃ h, v = .slice (some ⟨h, 0, none⟩) 1 1 ∧ N ≤ h ∧ w.heap[h]? = some (.cells #[.int .i64 (P.length : Int)] 3 (0, 0))
  | 11, v, w => ∃ A c, v = .slice A (P.length + 1) c ∧ CoreN base w t q (P ++ [(P.length : Int)]) vr v vq bl cs
  | i, v, _ => v = ([.pointer (some ⟨b, 0, none⟩), .pointer (some ⟨b, 0, none⟩), .pointer (some ⟨b, 0, none⟩), .pointer (some ⟨b, 1, none⟩), vp, .pointer (some ⟨b, 0, none⟩), .pointer (some ⟨b, 0, none⟩), .pointer (some ⟨b, 0, none⟩), vr, .int .i64 (P.length : Int), undef, undef, .pointer (some ⟨b, 0, none⟩), .pointer (some ⟨b, 1, none⟩), undef] : List Value).getD i undef
theorem ParG.keep {base N b : Nat} {t : Tb} {q : List Nat} {P : List Int} {vr vp vq : Value} {bl cs : Nat → Nat} : ∀ (i j : Nat) (v : Value) (w w' : World), i < 15 → j < 15 → i ≠ j → Still N 11 i w w' → ParG base N t q P b vr vp vq bl cs j v w → ParG base N t q P b vr vp vq bl cs j v w' := by
  intro i j v w w' hi hj hne hS h
  have hk : ∀ (g : Nat) (o : Obj), N ≤ g → w.heap[g]? = some o → w'.heap[g]? = some o := fun g o hg ho => (hS.1 g hg (Array.getElem?_eq_some_iff.1 ho).1).trans ho
  have hcases : j = 10 ∨ j = 11 ∨ (j ≠ 10 ∧ j ≠ 11) := by omega
  rcases hcases with rfl | rfl | ⟨h1, h2⟩
  · obtain ⟨g, e, hg, hc⟩ := h
    exact ⟨g, e, hg, hk g _ hg hc⟩
  · obtain ⟨A, c, e, hC⟩ := h
    exact ⟨A, c, e, hC.keep fun k C e0 _ hC' he => hS.2 hne k C e0 hC' he⟩
  · unfold ParG at h ⊢
    split at h <;> first | contradiction | exact h
structure ParT (base N b lim gx : Nat) (x : List Int) (w : World) (s : St) (t : Tb) (P : List Int) (vr vp vq : Value) (bl cs : Nat → Nat) (f : Bool) (p q : Bool) (W : World) : Prop where
  box : q = false → BoxR b lim W s vr vp vq f ∧ (p = false → CoreN base W t s.q P vr vp vq bl cs)
  bel : Kf base w W
  siz : N ≤ W.heap.size
  row : XsAt W gx x
  done : q = true → ∃ A c, BoxR b lim W s vr (.slice A (P.length + 1) c) vq f ∧ CoreN base W t s.q (P ++ [(P.length : Int)]) vr (.slice A (P.length + 1) c) vq bl cs
section
variable {base N b lim gx : Nat} {x : List Int} {w W W' : World} {s : St} {t : Tb} {P : List Int} {vr vp vq : Value} {bl cs : Nat → Nat} {f : Bool} {p q : Bool}
theorem ParT.below (h : ParT base N b lim gx x w s t P vr vp vq bl cs f p q W) (hq : q = false) (hbw : base ≤ w.heap.size) (hb : Below W.heap.size W W') : ParT base N b lim gx x w s t P vr vp vq bl cs f p q W' :=
  ⟨fun _ => ⟨(h.box hq).1.below hb, fun hp => ((h.box hq).2 hp).below hb⟩, h.bel.trans (Kf.of hb (Nat.le_trans hbw h.bel.1.size)), Nat.le_trans h.siz hb.size, h.row.below hb, fun e => by rw [hq] at e; cases e⟩
theorem ParT.app (h : ParT base N b lim gx x w s t P vr vp vq bl cs f p q W) (hp : p = false) (hq : q = false) (hbw : base ≤ w.heap.size) (hgr : W.grownBy W' vp.ownBlock) (hvr : ∀ r, vp.ownBlock = some r → base ≤ r ∧ r ≠ b ∧ r ≠ gx) : ParT base N b lim gx x w s t P vr vp vq bl cs f true q W' :=
  ⟨fun _ => ⟨(h.box hq).1.grown hgr (fun e => (hvr b e).2.1 rfl), fun e => (by cases e)⟩, h.bel.grown hgr (Nat.le_trans hbw h.bel.1.size) (owns_kf ((h.box hq).2 hp).par (by decide)), Nat.le_trans h.siz hgr.size, h.row.grown hgr (fun e => (hvr gx e).2.2 rfl), fun e => by rw [hq] at e; cases e⟩
theorem xs_box {w : World} {b g k : Nat} {C0 : Array Value} {x : List Int} (h : XsAt w g x) (hb : w.heap[b]? = some (.cells C0 131 (0, 0))) (v : Value) : XsAt (w.setCell ⟨b, k, none⟩ v) g x :=
  h.keep (Below.heap_setCell w ⟨b, k, none⟩ v g (fun e => by
    obtain ⟨C, hC, -⟩ := h
    have e' : g = b := e
    rw [e', hb] at hC
    cases hC))
theorem ParT.fin {A : Option Addr} {c : Nat} (h : ParT base N b lim gx x w s t P vr vp vq bl cs f p q W) (hq : q = false) (hb : base ≤ b) (hC : CoreN base W t s.q (P ++ [(P.length : Int)]) vr (.slice A (P.length + 1) c) vq bl cs) : ParT base N b lim gx x w s t P vr vp vq bl cs f p true (W.setCell ⟨b, 1, none⟩ (.slice A (P.length + 1) c)) :=
  ⟨fun e => (by cases e), h.bel.setCell hb ⟨_, 131, (h.box hq).1.box, by decide⟩ _, by rw [World.size_setCell]; exact h.siz, xs_box h.row (h.box hq).1.box _, fun _ => ⟨A, c, (h.box hq).1.upd1 _ rfl rfl, hC.other (h.box hq).1.box (by decide) (by decide) 1 _⟩⟩
theorem par_ne {base g m : Nat} {w : World} {vp : Value} {P : List Int} (h : OwnI base w vp P) (hp : 0 < P.length) (h0 : 0 ≤ P.getD 0 0) (hx : XsAt w g (List.replicate m (-1))) (hm : 1 ≤ m) : vp.ownBlock ≠ some g := fun e => by
  obtain ⟨g', c', rfl, -, -, hc, -⟩ := ownI_cell h hp
  obtain rfl : g' = g := Option.some.inj e
  have h1 := hc 0 hp
  have h2 := hx.cell (k := 0) (by simp; omega)
  rw [h2] at h1
  have h3 : (List.replicate m (-1 : Int)).getD 0 0 = -1 := by
    rw [List.getD_eq_getElem?_getD, List.getElem?_replicate, if_pos (by omega)]
    rfl
  rw [h3] at h1
  injection h1 with h1
  injection h1 with _ h1
  omega
end
end Go.Proofs
namespace Go.Proofs
open Go.RowKit Go.Shelf Go.Proofs.Ct Go.Maps
theorem xs_own {base : Nat} {w : World} {g n c : Nat} {xs : List Int} (h : OwnI base w (.slice (some ⟨g, 0, none⟩) n c) xs) (h0 : 0 < xs.length) : XsAt w g xs ∧ base ≤ g ∧ xs.length ≤ c ∧ c ≤ 9223372036854775807 := by
  obtain ⟨hl, h⟩ := h
  rcases h with ⟨-, h1⟩ | ⟨g', cap, cur, e, hb, hc, h1, hm, hs, ht⟩
  · omega
  · injection e with e1 e2 e3
    injection e1 with e1
    injection e1 with e1
    subst e1 e3
    refine ⟨⟨cur, hc, by omega, fun k hk => ?_⟩, hb, h1, by simpa [maxLen] using hm⟩
    have h2 : (cur.toList.take (xs.length * 1))[k]? = (ints xs)[k]? := by rw [ht]
    rw [List.getElem?_take, if_pos (by omega)] at h2
    simpa [ints, hk, List.getD_eq_getElem?_getD] using h2
set_option maxRecDepth 100000 in
set_option maxHeartbeats 4000000 in
theorem add130_any (g m base b lim : Nat) (hm : m ≤ 1000) (hm1 : 1 ≤ m) (w : World) (s : St) (hI : Inv g s) (hS : StR base b lim w s) (hbw : base ≤ w.heap.size) (hn : s.t.length ≤ 1000000) (hl0 : -1000000 ≤ s.live) (hl1 : s.live ≤ 1000000) :
    Calls Try.prog 176 #[.pointer (some ⟨b, 0, none⟩), .int .i64 (m : Int)] w fun e w' => e = .returned (.tuple #[]) ∧ StR base b lim w' (addS m s) ∧ Kf base w w' := by
  obtain ⟨hb, P, vr, vp, vq, bl, cs, f, hB, hC⟩ := hS
  obtain ⟨Ar, cr, rfl⟩ := owns_form hC.out
  have HB := Lib.hid hB
  have HC := Lib.hid hC
  have HBW := Lib.hid hbw
  have HBB := Lib.hid hb
  have hn0 : (s.t.length : Int) ≤ 1000000 := by omega
  have hm0 : (m : Int) ≤ 1000 := by omega
  clear hB hC hbw hb
  go_enter Try.func176, Try.ntmps176
  go_wp2_with fail
  go_loopg [4, 5] m (fun n v i wr => ∃ (k : Nat) (A : Option Addr) (c : Nat), i = .int .i64 (k : Int) ∧ n = m - k ∧ k ≤ m ∧ v = .slice A k c ∧ Hid (OwnI w.heap.size wr (.slice A k c) (List.replicate k (-1))) ∧ Hid (Below w.heap.size w wr))
  case atStart => exact ⟨0, none, 0, rfl, by omega, Nat.zero_le _, rfl, Lib.hid (World.ownsRow_nil _ _ _ _), Lib.hid (Below.refl _ _)⟩
  case round =>
    obtain ⟨k, Ak, ck, rfl, hgk, hk, rfl, HO, HBl⟩ := hrel
    have HGK := Lib.hid hgk
    clear hgk
    have hk0 : (0 : Int) ≤ (k : Int) := Int.natCast_nonneg _
    by_cases hlt : k < m
    · have hltI : (k : Int) < (m : Int) := by omega
      obtain ⟨A', c', w', hr, ho, hg, hw⟩ := push_int 24 24 Try.underlying24 wr w.heap.size _ _ HO.out (-1) (by simp; omega) HBl.out.size
      rw [List.length_replicate] at hr ho
      have hrep : List.replicate k (-1 : Int) ++ [-1] = List.replicate (k + 1) (-1) := by rw [List.replicate_succ']
      rw [hrep] at ho
      have HR := Lib.hid hr
      have HO2 := Lib.hid ho
      have HB2 := Lib.hid (HBl.out.grown hg HBl.out.size (fun r hr => (owns_block HO.out r hr).1))
      clear hr ho hg hw hrep
      go_wp2_with ((with_reducible refine wpList_sel 13 ?_); refine wpList_val rfl (r_app (.tmp 11) (.tmp 12) 24 rfl rfl rfl HR.out) ?_)
      go_roundg (m - (k + 1))
      case measure => have := HGK.out; omega
      case rel => exact ⟨k + 1, A', c', by go_num, rfl, by omega, rfl, HO2, HB2⟩
    · obtain rfl : k = m := by omega
      rename World => w1
      obtain ⟨g1, rfl⟩ : ∃ g1, Ak = some ⟨g1, 0, none⟩ := by
        obtain ⟨g1, c', e, -⟩ := ownI_cell HO.out (by simp; omega)
        injection e with e1
        exact ⟨g1, e1⟩
      have hxs := xs_own HO.out (by simp; omega)
      rw [List.length_replicate] at hxs
      have HXS := Lib.hid hxs
      have hB2 := HB.out.below HBl.out
      have hC2 := HC.out.toN.below HBl.out
      have hpl : P.length = s.t.length := HC.out.len
      rw [← hpl] at hB2 hC2
      obtain ⟨Ap, cp, rfl⟩ := owns_form hC2.par
      have HBX := Lib.hid hB2
      have HCX := Lib.hid hC2
      have HBE := Lib.hid (Kf.of HBl.out HBW.out)
      have HVR : Hid (∀ r, (Value.slice Ap P.length cp).ownBlock = some r → base ≤ r ∧ r ≠ b ∧ r ≠ g1) := Lib.hid fun r hr => ⟨(owns_block hC2.par r hr).1, (fun e => by
        obtain ⟨-, C, hCC⟩ := owns_block hC2.par r hr
        rw [e, hB2.box] at hCC
        cases hCC), fun e => by
        have h1 := owns_lt HC.out.par hr
        have h2 := hxs.2.1
        omega⟩
      have HVN : Hid (∀ r, (Value.slice Ap P.length cp).ownBlock = some r → r < w1.heap.size) := Lib.hid fun r hr => owns_lt hC2.par hr
      have HBN : Hid (b < w1.heap.size) := Lib.hid hB2.lt
      have HRO : Hid (Roots (P ++ [(P.length : Int)]) (addS k s)) := Lib.hid (by rw [hpl]; exact Roots.add hI HC.out.root k)
      have HOLD : Hid (∀ i, i < s.t.length → bl i < w.heap.size) := Lib.hid fun i hi => (HC.out.row i hi).2.1.lt
      have HQB : Hid (∀ r, vq.ownBlock = some r → r < w.heap.size) := Lib.hid fun r hr => owns_lt HC.out.que hr
      have HPAR : Hid (∀ (W : World) (h : Nat), CoreN base W s.t s.q P (.slice Ar P.length cr) (.slice Ap P.length cp) vq bl cs → Kf base w W → W.heap[h]? = some (.cells #[.int .i64 (P.length : Int)] 3 (0, 0)) →
          ∃ A' c' w3, (Builtin.append_ #[24, 24] 24 #[.slice Ap P.length cp, .slice (some ⟨h, 0, none⟩) 1 1]).run Try.prog W = .ok (.slice A' (P.length + 1) c') w3 ∧ CoreN base w3 s.t s.q (P ++ [(P.length : Int)]) (.slice Ar P.length cr) (.slice A' (P.length + 1) c') vq bl cs ∧ W.grownBy w3 (Value.slice Ap P.length cp).ownBlock) := Lib.hid fun W h hN hbl h1 =>
        hN.pushP (Nat.le_trans HBW.out hbl.size) (by rw [cell_of_row _ _ _ _ _ _ h1]; rfl) (by omega)
      clear hxs hB2 hC2
      go_wp2_with fail
      generalize w1 = w3 at *
      refine (wpIn_wide (n := 3)).1 ?_
      refine wpIn_region_all (by kernel_rfl) 15 rfl (fun i => if i < 14 then some (14 + i) else none) (lex_of (by kernel_rfl)) (fun ls W => ParT base w3.heap.size b lim g1 (List.replicate k (-1)) w s s.t P (.slice Ar P.length cr) (.slice Ap P.length cp) vq bl cs f (ls 11) (ls 14) W)
        (ParG base w3.heap.size s.t s.q P b (.slice Ar P.length cr) (.slice Ap P.length cp) vq bl cs) (Still w3.heap.size 11) (dm_inj (by kernel_rfl)) ParG.keep (dm_lt (n := 57) (by kernel_rfl)) ?_ ?_ ?_
      · have hd := (Below.refl w3.heap.size w3).drew
        exact ⟨fun _ => ⟨HBX.out.below hd, fun _ => HCX.out.below hd⟩, HBE.out.trans (Kf.of hd (Nat.le_trans HBW.out HBE.out.size)), hd.size, HXS.out.1.below hd, fun e => (by cases e)⟩
      · intro ls q o a w2 hq ho hS2 hls hcl hP hpre
        have hcases : q = 0 ∨ q = 1 ∨ q = 2 ∨ q = 3 ∨ q = 4 ∨ q = 5 ∨ q = 6 ∨ q = 7 ∨ q = 8 ∨ q = 9 ∨ q = 10 ∨ q = 11 ∨ q = 12 ∨ q = 13 ∨ q = 14 := by
          have : q < 15 := hq
          omega
        rcases hcases with rfl | rfl | rfl | rfl | rfl | rfl | rfl | rfl | rfl | rfl | rfl | rfl | rfl | rfl | rfl
        · obtain rfl := Option.some.inj ho
          exact wpOpIn_of rfl rfl (wpW_val (r_move (.tmp 0) rfl (hP.out 0 (dm_out (by kernel_rfl)))) ⟨_, rfl, hS2, Still.same, (fun h => by simp at h), rfl⟩)
        · obtain rfl := Option.some.inj ho
          exact wpOpIn_of rfl rfl (wpW_val (r_move (.tmp 0) rfl (hP.out 0 (dm_out (by kernel_rfl)))) ⟨_, rfl, hS2, Still.same, (fun h => by simp at h), rfl⟩)
        · obtain rfl := Option.some.inj ho
          exact wpOpIn_of rfl rfl (wpW_val (r_nil (.tmp 15) _ rfl (hpre ⟨1, .data⟩ (by simp) rfl).2) ⟨_, rfl, hS2, Still.same, (fun h => by simp at h), rfl⟩)
        · obtain rfl := Option.some.inj ho
          exact wpOpIn_of rfl rfl (wpW_val (r_fld (.tmp 16) _ rfl (hpre ⟨2, .data⟩ (by simp) rfl).2 (fld124_1 b _)) ⟨_, rfl, hS2, Still.same, (fun h => by simp at h), rfl⟩)
        · obtain rfl := Option.some.inj ho
          have h14 := not_yet hcl 14 rfl ⟨4, .phase⟩ (by simp) rfl hls
          exact wpOpIn_of rfl rfl (wpW_val (r_load1 24 agg24 (.tmp 17) ⟨b, 1, none⟩ rfl (hpre ⟨3, .data⟩ (by simp) rfl).2 (hS2.box h14).1.cells.2.1) ⟨_, rfl, hS2, Still.same, (fun h => by simp at h), rfl⟩)
        · obtain rfl := Option.some.inj ho
          exact wpOpIn_of rfl rfl (wpW_val (r_move (.tmp 0) rfl (hP.out 0 (dm_out (by kernel_rfl)))) ⟨_, rfl, hS2, Still.same, (fun h => by simp at h), rfl⟩)
        · obtain rfl := Option.some.inj ho
          exact wpOpIn_of rfl rfl (wpW_val (r_nil (.tmp 19) _ rfl (hpre ⟨5, .data⟩ (by simp) rfl).2) ⟨_, rfl, hS2, Still.same, (fun h => by simp at h), rfl⟩)
        · obtain rfl := Option.some.inj ho
          exact wpOpIn_of rfl rfl (wpW_val (r_fld (.tmp 20) _ rfl (hpre ⟨6, .data⟩ (by simp) rfl).2 (fld124_0 b _)) ⟨_, rfl, hS2, Still.same, (fun h => by simp at h), rfl⟩)
        · obtain rfl := Option.some.inj ho
          have h14 := not_yet hcl 14 rfl ⟨8, .phase⟩ (by simp) rfl hls
          exact wpOpIn_of rfl rfl (wpW_val (r_load1 23 agg23 (.tmp 21) ⟨b, 0, none⟩ rfl (hpre ⟨7, .data⟩ (by simp) rfl).2 (hS2.box h14).1.cells.1) ⟨_, rfl, hS2, Still.same, (fun h => by simp at h), rfl⟩)
        · obtain rfl := Option.some.inj ho
          exact wpOpIn_of rfl rfl (wpW_val (r_len (.tmp 22) 23 Ar P.length cr Try.underlying23 rfl (hpre ⟨8, .data⟩ (by simp) rfl).2) ⟨_, rfl, hS2, Still.same, (fun h => by simp at h), rfl⟩)
        · obtain rfl := Option.some.inj ho
          have h14 := not_yet hcl 14 rfl ⟨10, .phase⟩ (by simp) rfl hls
          have e9 := (hpre ⟨9, .data⟩ (by simp) rfl).2
          have hbl : Below w2.heap.size w2 (w2.alloc (.cells #[.int .i64 (P.length : Int)] 3)) := (Below.refl _ _).alloc (Nat.le_refl _) _
          exact wpOpIn_of rfl rfl (wpW_val (r_bs24 (.tmp 23) (P.length : Int) rfl e9) ⟨_, rfl, hS2.below h14 HBW.out hbl, Still.of_below hbl, (fun h => by simp at h), _, rfl, hS2.siz, heap_alloc_new w2 _⟩)
        · obtain rfl := Option.some.inj ho
          have h14 : ls 14 = false := not_yet hcl 14 rfl ⟨11, .data⟩ (by simp) rfl hls
          have e4 := (hpre ⟨4, .data⟩ (by simp) rfl).2
          obtain ⟨h7, e7, hh7, hc7⟩ := (hpre ⟨10, .data⟩ (by simp) rfl).2
          obtain ⟨A', c', w3, hrun, hC3, hgr⟩ := HPAR.out w2 h7 ((hS2.box h14).2 hls) hS2.bel hc7
          exact wpOpIn_of rfl rfl (wpW_val (r_app (.tmp 18) (.tmp 24) 24 rfl e4 e7 hrun) ⟨_, rfl, hS2.app hls h14 HBW.out hgr HVR.out, Still.grown hgr HVN.out, (fun h => by simp at h), A', c', rfl, hC3⟩)
        · obtain rfl := Option.some.inj ho
          exact wpOpIn_of rfl rfl (wpW_val (r_nil (.tmp 14) _ rfl (hpre ⟨0, .data⟩ (by simp) rfl).2) ⟨_, rfl, hS2, Still.same, (fun h => by simp at h), rfl⟩)
        · obtain rfl := Option.some.inj ho
          exact wpOpIn_of rfl rfl (wpW_val (r_fld (.tmp 26) _ rfl (hpre ⟨12, .data⟩ (by simp) rfl).2 (fld124_1 b _)) ⟨_, rfl, hS2, Still.same, (fun h => by simp at h), rfl⟩)
        · obtain rfl := Option.some.inj ho
          obtain ⟨A', c', e12, hC3⟩ := (hpre ⟨11, .data⟩ (by simp) rfl).2
          have hBx := (hS2.box hls).1
          rw [e12] at hC3
          exact wpOpIn_of rfl rfl (wpW_skip (r_store1 24 (.tmp 27) (.tmp 25) ⟨b, 1, none⟩ _ _ rfl (hpre ⟨13, .data⟩ (by simp) rfl).2 e12 rfl hBx.cells.2.1 (hBx.frozen 1) (st24 _ _ A' _ c' hBx.cells.2.1 (hBx.frozen 1))) ⟨undef, rfl, hS2.fin hls HBB.out hC3, Still.boxR hBx.box HBN.out _ _, fun _ => rfl, rfl⟩)
      · intro ls a w4 hall hS2 hP hsl
        have h14 : ls 14 = true := hall 14 (by decide)
        obtain ⟨A2, c2', hB4, hC4⟩ := hS2.done h14
        have hb4 := hS2.bel
        have hS2R := hS2.row
        obtain ⟨vs2, hvs, hfr⟩ := hP.frame 57 rfl
        clear hsl hP hall h14 hvs hS2 HPAR HVR HVN HBX HCX HBE HBN
        subst hfr
        dsimp only
        simp only [List.range, List.range.loop, List.map_cons, List.map_nil, List.any_cons, List.any_nil, Nat.reduceAdd, Nat.reduceBEq, Nat.reduceLT, Option.some_beq_some, Bool.or_false, if_true, if_false, List.getD_cons_zero, List.getD_cons_succ]
        have hx4 := hS2R
        have hbl : Below w4.heap.size w4 (w4.alloc (.cells #[.slice (some ⟨g1, 0, none⟩) k ck] 24)) := (Below.refl _ _).alloc (Nat.le_refl _) _
        have hws : base ≤ w4.heap.size := Nat.le_trans HBW.out hb4.size
        have hpn : (Value.slice A2 (P.length + 1) c2').ownBlock ≠ some g1 := par_ne (by have h := hC4.par; exact h) (by simp) (by
          rcases Nat.eq_zero_or_pos P.length with h0 | h0
          · rw [List.length_eq_zero_iff.1 h0]; simp
          · obtain ⟨y, hy, -⟩ := (HC.out.root.root 0 (by omega)).parent
            rw [List.getD_eq_getElem?_getD, List.getElem?_append_left h0, ← List.getD_eq_getElem?_getD, hy]
            omega) hx4 hm1
        obtain ⟨A6, c6, w6, hr6, hC6, hg6⟩ := (hC4.below hbl).pushRowR (g := g1) (h0 := w4.heap.size) (m := k) (cap := ck) (x := List.replicate k (-1)) (Nat.le_trans hws hbl.size) (Nat.le_trans HBW.out HXS.out.2.1) (hx4.below hbl) (by simp) hm HXS.out.2.2.1 HXS.out.2.2.2 (fun i hi e => by have := HOLD.out i hi; have := HXS.out.2.1; omega) hpn (fun e => by have := HQB.out _ e; have := HXS.out.2.1; omega) (by rw [cell_of_row _ _ _ _ _ _ (heap_alloc_new w4 _)]; rfl) hn
        have hnb : (Value.slice Ar P.length cr).ownBlock ≠ some b := fun e => by
          obtain ⟨-, C, hCC⟩ := owns_block hC4.out b e
          rw [hB4.box] at hCC
          cases hCC
        have hB6 := (hB4.below hbl).grown hg6 hnb
        have hb6 : Kf base w w6 := (hb4.trans (Kf.of hbl hws)).grown hg6 (Nat.le_trans hws hbl.size) (owns_kf (hC4.below hbl).out (by decide))
        have hB7 := hB6.upd0 (s' := s) (.slice A6 (s.t.length + 1) c6) rfl rfl
        have hC7 := hC6.other hB6.box (by decide) (by decide) 0 (.slice A6 (s.t.length + 1) c6)
        have hb7 := hb6.setCell (p := ⟨b, 0, none⟩) HBB.out ⟨_, 131, hB6.box, by decide⟩ (.slice A6 (s.t.length + 1) c6)
        have hB8 := hB7.upd4 (s' := { s with live := s.live + 1 }) (z := s.live + 1) rfl rfl
        have hC8 := hC7.other hB7.box (by decide) (by decide) 4 (.int .i64 (s.live + 1))
        have hb8 := hb7.setCell (p := ⟨b, 4, none⟩) HBB.out ⟨_, 131, hB7.box, by decide⟩ (.int .i64 (s.live + 1))
        obtain ⟨d0, -, -, -, -, -, -⟩ := hB4.cells
        obtain ⟨e0, -, -, -, -, -, -⟩ := hB6.cells
        have ef := hB6.frozen 0
        obtain ⟨-, -, -, -, f4, -, -⟩ := hB7.cells
        have ff := hB7.frozen 4
        have HR6 := Lib.hid hr6
        have hd := (Below.refl ((w6.setCell ⟨b, 0, none⟩ (.slice A6 (s.t.length + 1) c6)).setCell ⟨b, 4, none⟩ (.int .i64 (s.live + 1))).heap.size ((w6.setCell ⟨b, 0, none⟩ (.slice A6 (s.t.length + 1) c6)).setCell ⟨b, 4, none⟩ (.int .i64 (s.live + 1)))).drew
        have hB9 := hB8.below hd
        have hC9 := hC8.below hd
        have hb9 := hb8.trans (Kf.of hd (Nat.le_trans HBW.out hb8.size))
        have HC6 := Lib.hid hB9.cells.2.2.2.2.2.1
        have HC5 := Lib.hid hB9.cells.2.2.2.2.1
        have HF6 := Lib.hid (hB9.frozen 5)
        have hBa := hB9.upd5 (s' := addS k s) (z := max s.most (s.live + 1)) rfl rfl
        have hCa := hC9.other hB9.box (by decide) (by decide) 5 (.int .i64 (max s.most (s.live + 1)))
        have hba := hb9.setCell (p := ⟨b, 5, none⟩) HBB.out ⟨_, 131, hB9.box, by decide⟩ (.int .i64 (max s.most (s.live + 1)))
        have HST : Hid (StR base b lim (((w6.setCell ⟨b, 0, none⟩ (.slice A6 (s.t.length + 1) c6)).setCell ⟨b, 4, none⟩ (.int .i64 (s.live + 1))).drew.setCell ⟨b, 5, none⟩ (.int .i64 (max s.most (s.live + 1)))) (addS k s)) := Lib.hid ⟨HBB.out, _, _, _, vq, _, _, f, hBa, CoreN.toM (s := addS k s) hCa HRO.out⟩
        have HBE := Lib.hid hba
        have hp0 : (0 : Int) ≤ (P.length : Int) := Int.natCast_nonneg _
        have hp1 : (P.length : Int) ≤ 1000000 := by omega
        clear hpl hx4 hS2R hB4 hC4 hb4 hbl hws hpn hr6 hC6 hg6 hnb hB6 hb6 hB7 hC7 hb7 hB8 hC8 hb8 hd hB9 hC9 hb9 hBa hCa hba
        go_wp2_with ((with_reducible refine wpList_sel 35 ?_); refine wpList_val rfl (r_app (.tmp 32) (.tmp 34) 23 rfl rfl rfl HR6.out) ?_)
        refine (wpIn_wide (n := 3)).1 ?_
        generalize hw5 : (w6.setCell ⟨b, 0, none⟩ (.slice A6 (s.t.length + 1) c6)).setCell ⟨b, 4, none⟩ (.int .i64 (s.live + 1)) = w5 at *
        refine wpIn_region_all (by kernel_rfl) 13 rfl (fun i => if i < 12 then some (45 + i) else none) (lex_of (by kernel_rfl)) (fun ls W => W = bif ls 12 then w5.drew.setCell ⟨b, 5, none⟩ (.int .i64 (max s.most (s.live + 1))) else w5.drew)
          (fun i v _ => v = ([.pointer (some ⟨b, 0, none⟩), .pointer (some ⟨b, 0, none⟩), .pointer (some ⟨b, 0, none⟩), .pointer (some ⟨b, 5, none⟩), .int .i64 s.most, .pointer (some ⟨b, 0, none⟩), .pointer (some ⟨b, 0, none⟩), .pointer (some ⟨b, 4, none⟩), .int .i64 (s.live + 1), .int .i64 (max s.most (s.live + 1)), .pointer (some ⟨b, 0, none⟩), .pointer (some ⟨b, 5, none⟩), undef] : List Value).getD i undef) (fun _ _ _ => True) (dm_inj (by kernel_rfl)) (fun _ _ _ _ _ _ _ _ _ h => h) (dm_lt (n := 57) (by kernel_rfl)) rfl ?_ ?_
        · intro ls q o a w2 hq ho hS2 hls hcl hP hpre
          have hcases : q = 0 ∨ q = 1 ∨ q = 2 ∨ q = 3 ∨ q = 4 ∨ q = 5 ∨ q = 6 ∨ q = 7 ∨ q = 8 ∨ q = 9 ∨ q = 10 ∨ q = 11 ∨ q = 12 := by
            have : q < 13 := hq
            omega
          rcases hcases with rfl | rfl | rfl | rfl | rfl | rfl | rfl | rfl | rfl | rfl | rfl | rfl | rfl
          · obtain rfl := Option.some.inj ho
            exact wpOpIn_of rfl rfl (wpW_val (r_move (.tmp 0) rfl (hP.out 0 (dm_out (by kernel_rfl)))) ⟨_, rfl, hS2, trivial, (fun h => by simp at h), rfl⟩)
          · obtain rfl := Option.some.inj ho
            exact wpOpIn_of rfl rfl (wpW_val (r_move (.tmp 0) rfl (hP.out 0 (dm_out (by kernel_rfl)))) ⟨_, rfl, hS2, trivial, (fun h => by simp at h), rfl⟩)
          · obtain rfl := Option.some.inj ho
            exact wpOpIn_of rfl rfl (wpW_val (r_nil (.tmp 46) _ rfl (hpre ⟨1, .data⟩ (by simp) rfl).2) ⟨_, rfl, hS2, trivial, (fun h => by simp at h), rfl⟩)
          · obtain rfl := Option.some.inj ho
            exact wpOpIn_of rfl rfl (wpW_val (r_fld (.tmp 47) _ rfl (hpre ⟨2, .data⟩ (by simp) rfl).2 (fld124_5 b _)) ⟨_, rfl, hS2, trivial, (fun h => by simp at h), rfl⟩)
          · obtain rfl := Option.some.inj ho
            have h12 := not_yet hcl 12 rfl ⟨4, .phase⟩ (by simp) rfl hls
            have hW := sel1 hS2 h12
            exact wpOpIn_of rfl rfl (wpW_val (r_load1 3 agg3 (.tmp 48) ⟨b, 5, none⟩ rfl (hpre ⟨3, .data⟩ (by simp) rfl).2 (by rw [hW]; exact HC6.out)) ⟨_, rfl, hS2, trivial, (fun h => by simp at h), rfl⟩)
          · obtain rfl := Option.some.inj ho
            exact wpOpIn_of rfl rfl (wpW_val (r_move (.tmp 0) rfl (hP.out 0 (dm_out (by kernel_rfl)))) ⟨_, rfl, hS2, trivial, (fun h => by simp at h), rfl⟩)
          · obtain rfl := Option.some.inj ho
            exact wpOpIn_of rfl rfl (wpW_val (r_nil (.tmp 50) _ rfl (hpre ⟨5, .data⟩ (by simp) rfl).2) ⟨_, rfl, hS2, trivial, (fun h => by simp at h), rfl⟩)
          · obtain rfl := Option.some.inj ho
            exact wpOpIn_of rfl rfl (wpW_val (r_fld (.tmp 51) _ rfl (hpre ⟨6, .data⟩ (by simp) rfl).2 (fld124_4 b _)) ⟨_, rfl, hS2, trivial, (fun h => by simp at h), rfl⟩)
          · obtain rfl := Option.some.inj ho
            have h12 := not_yet hcl 12 rfl ⟨8, .phase⟩ (by simp) rfl hls
            have hW := sel1 hS2 h12
            exact wpOpIn_of rfl rfl (wpW_val (r_load1 3 agg3 (.tmp 52) ⟨b, 4, none⟩ rfl (hpre ⟨7, .data⟩ (by simp) rfl).2 (by rw [hW]; exact HC5.out)) ⟨_, rfl, hS2, trivial, (fun h => by simp at h), rfl⟩)
          · obtain rfl := Option.some.inj ho
            exact wpOpIn_of rfl rfl (wpW_val (r_max2 (.tmp 49) (.tmp 53) s.most (s.live + 1) _ rfl (hpre ⟨4, .data⟩ (by simp) rfl).2 (hpre ⟨8, .data⟩ (by simp) rfl).2 rfl) ⟨_, rfl, hS2, trivial, (fun h => by simp at h), rfl⟩)
          · obtain rfl := Option.some.inj ho
            exact wpOpIn_of rfl rfl (wpW_val (r_nil (.tmp 45) _ rfl (hpre ⟨0, .data⟩ (by simp) rfl).2) ⟨_, rfl, hS2, trivial, (fun h => by simp at h), rfl⟩)
          · obtain rfl := Option.some.inj ho
            exact wpOpIn_of rfl rfl (wpW_val (r_fld (.tmp 55) _ rfl (hpre ⟨10, .data⟩ (by simp) rfl).2 (fld124_5 b _)) ⟨_, rfl, hS2, trivial, (fun h => by simp at h), rfl⟩)
          · obtain rfl := Option.some.inj ho
            have hW := sel1 hS2 hls
            subst hW
            exact wpOpIn_of rfl rfl (wpW_skip (r_store1 3 (.tmp 56) (.tmp 54) ⟨b, 5, none⟩ _ _ rfl (hpre ⟨11, .data⟩ (by simp) rfl).2 (hpre ⟨9, .data⟩ (by simp) rfl).2 rfl HC6.out HF6.out (st3 _ _ _ HC6.out HF6.out)) ⟨undef, rfl, rfl, trivial, fun _ => rfl, rfl⟩)
        · intro ls a w6 hall hS2 hP hsl
          have h12 : ls 12 = true := hall 12 (by decide)
          rw [h12] at hS2
          obtain ⟨vs3, hvs, hfr⟩ := hP.frame 57 rfl
          clear hsl hP hall h12 hvs HC6 HC5 HF6 hw5
          subst hfr
          change w6 = w5.drew.setCell ⟨b, 5, none⟩ (.int .i64 (max s.most (s.live + 1))) at hS2
          rw [← hS2] at HST HBE
          clear hS2
          dsimp only
          simp only [List.range, List.range.loop, List.map_cons, List.map_nil, List.any_cons, List.any_nil, Nat.reduceAdd, Nat.reduceBEq, Nat.reduceLT, Option.some_beq_some, Bool.or_false, if_true, if_false, List.getD_cons_zero, List.getD_cons_succ]
          try go_wp2_with fail
          go_end0
          exact ⟨rfl, HST.out, HBE.out⟩
end Go.Proofs
