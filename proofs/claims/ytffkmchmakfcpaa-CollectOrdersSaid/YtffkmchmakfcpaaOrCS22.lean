/- Rank and Element of a live group; Plain: the list of a word; Eval of a live group; The contract of the law's same; The contract of the law's awake; Plain: the relations. The contracts of cayleyref17.Same and equal; The reference's product, unit, equal. -/
import Derived.Test.YtffkmchmakfcpaaOrCS21
import Derived.Deep.RegionHeld3
import Derived.Test.YtffkmchmakfcpaaOrCS16
import Derived.Test.YtffkmchmakfcpaaOrCS20
import Derived.Test.YtffkmchmakfcpaaOrCS18
import Derived.Test.YtffkmchmakfcpaaOrCS17
import Derived.Test.YtffkmchmakfcpaaOrCS13
import Derived.Test.YtffkmchmakfcpaaOrCS14
import Derived.BigRegion
import Derived.ChangeAlike
import Derived.StillTailTactics
import Derived.Laws.MakeOwn
namespace Go.Proofs
open Go.RowKit Go.Proofs.Pc
set_option maxRecDepth 100000 in
set_option maxHeartbeats 1000000 in
theorem rank_live {P : PcD} (hv : Valid P) (hs : Small P) (w : World) (bg br : Nat) (hg : Live w bg br) (hr : RulesAt w br P) (s1 : Value) (xs : List Int) (h1 : IntsAt w s1 xs) (hx : takeErr P xs = 0) :
    Calls Try.prog 43 #[.pointer (some ⟨bg, 0, none⟩), s1] w fun e w' => e = .returned (.tuple #[.int .i64 (rk P xs P.n), .int .i64 0]) ∧ Below w.heap.size w w' := by
  have hnx := takeErr_NV hx
  have h12 := hv.n12
  have HR := Lib.hid hr
  have HG := Lib.hid hg
  have hst := store_vec_at
  have HO := Lib.hid (take_R hv hg hr h1 hx)
  clear hr hg h1
  go_enter Try.func43, Try.ntmps43
  go_wp2_with (go_at_call 71; (refine HO.out.mono ?_); rintro e w1 ⟨v, rfl, rfl, hb1⟩
               have hbw : Below w.heap.size w (w1.alloc (.cells (vec xs).toArray 87)) := hb1.alloc hb1.size _
               have hge := (KC.of_below hbw).cell HG.out
               have hrn := ((KC.of_below hbw).rules HR.out).n
               have HB := Lib.hid hbw
               clear hbw)
  have hbx := heap_alloc_new w1 (.cells (vec xs).toArray 87)
  have hrr := (KC.of_below HB.out).rules HR.out
  generalize w1.alloc (.cells (vec xs).toArray 87) = W at *
  generalize w1.heap.size = bx at *
  have HBX := Lib.hid hbx
  have HRR := Lib.hid hrr
  clear hb1 hst HO hbx hrr
  go_loopw [8, 26] (fun s i wr => ∃ k : Nat, k ≤ P.n ∧ i = .int .i64 k ∧ s = .int .i64 (rk P xs k) ∧ ∃ q, wr = W.drewN q) (fun _ i _ => P.n - (intOf i).toNat)
  case atStart => exact ⟨0, Nat.zero_le _, rfl, rfl, 0, rfl⟩
  case round =>
    obtain ⟨k, hk, rfl, rfl, q, rfl⟩ := hrel
    by_cases hlt : k < P.n
    · have c1 := HRR.out.ordc (i := k) (by omega)
      have c2 := cell_of_heap HBX.out (k := k) (by omega)
      have hbd := rk_bd hv hnx (k + 1) (by omega)
      have hbd0 := rk_bd hv hnx k (by omega)
      have hsm := hs (k + 1) (by omega)
      have hsm0 := hs k (by omega)
      have hxk := hnx.2 k hlt
      have hok := hv.ord2 k hlt
      rw [rk_succ] at hbd
      have hm1 : 0 ≤ rk P xs k * P.ord k := Int.mul_nonneg hbd0.1 (by omega)
      have HS := Lib.hid (rk_succ P xs k)
      have hk0 : (0 : Int) ≤ (k : Int) := Int.natCast_nonneg _
      have hk1 : (k : Int) < 12 := by omega
      generalize xs.getD k 0 = z at *
      generalize rk P xs k = a at *
      generalize P.ord k = y at *
      have hw1 : IntKind.i64.wrap (a * y) = a * y := IntWalk.i64_in _ (by omega)
      have hw2 : IntKind.i64.wrap (a * y + z) = a * y + z := IntWalk.i64_in _ (by omega)
      clear hbd hbd0 hsm hsm0 hm1
      go_wp2_with fail
      go_quiet (fail)
      go_wp2_with fail
      go_roundw
      case rel => exact ⟨k + 1, by omega, by go_num, by rw [HS.out], _, rfl⟩
      case measure => simp [intOf]; omega
    · obtain rfl : k = P.n := by omega
      go_wp2_with fail
      go_ret2
      exact ⟨rfl, below_drewN HB.out _⟩
theorem valid_live' (w : World) (bg br : Nat) (h : Live w bg br) : Calls Try.prog 56 #[.pointer (some ⟨bg, 0, none⟩)] w fun e w' => e = .returned (.bool true) ∧ w = w' := (valid_live w bg br h).mono fun _ _ ⟨a, b⟩ => ⟨a, b.symm⟩
theorem order_live' {P : PcD} (hv : Valid P) (hs : Small P) (w : World) (bg br : Nat) (hg : Live w bg br) (hr : RulesAt w br P) : Calls Try.prog 19 #[.pointer (some ⟨bg, 0, none⟩)] w fun e w' => e = .returned (.int .i64 (prod P P.n)) ∧ w = w' := (order_live hv hs w bg br hg hr).mono fun _ _ ⟨a, b⟩ => ⟨a, b.symm⟩
set_option maxRecDepth 100000 in
set_option maxHeartbeats 1000000 in
theorem element_bad {P : PcD} (hv : Valid P) (hs : Small P) (w : World) (bg br : Nat) (hg : Live w bg br) (hr : RulesAt w br P) (r : Int) (h : r < 0 ∨ prod P P.n ≤ r) :
    Calls Try.prog 39 #[.pointer (some ⟨bg, 0, none⟩), .int .i64 r] w fun e w' => e = .returned (.tuple #[.slice none 0 0, .int .i64 2]) ∧ w = w' := by
  by_cases h0 : r < 0
  · go_enter Try.func39, Try.ntmps39
    go_wp2_with (go_at_call 56; refine (valid_live' w bg br hg).mono ?_; rintro e w' ⟨rfl, rfl⟩)
    go_ret2
    exact ⟨rfl, rfl⟩
  · have d1 : decide (r < 0) = false := decide_eq_false h0
    have d2 : decide (prod P P.n ≤ r) = true := decide_eq_true (by omega)
    go_enter Try.func39, Try.ntmps39
    go_wp2_with (first
      | (go_at_call 56; refine (valid_live' w bg br hg).mono ?_; rintro e w' ⟨rfl, rfl⟩)
      | (go_at_call 19; (refine (order_live' hv hs _ bg br hg hr).mono ?_); rintro e w' ⟨rfl, rfl⟩))
    go_ret2
    exact ⟨rfl, rfl⟩
set_option maxRecDepth 100000 in
set_option maxHeartbeats 1000000 in
theorem element_live {P : PcD} (hv : Valid P) (hs : Small P) (w : World) (bg br : Nat) (hg : Live w bg br) (hr : RulesAt w br P) (r : Int) (h0 : 0 ≤ r) (h1 : r < prod P P.n) :
    Calls Try.prog 39 #[.pointer (some ⟨bg, 0, none⟩), .int .i64 r] w (ListRet (elP P r) w) := by
  have d1 : decide (r < 0) = false := decide_eq_false (by omega)
  have d2 : decide (prod P P.n ≤ r) = false := decide_eq_false (by omega)
  have h12 := hv.n12
  have hge := hg
  unfold Live at hge
  have hge' := hge
  have hal : Below w.heap.size w (w.alloc (.cells #[.int .i64 0, .int .i64 0, .int .i64 0, .int .i64 0, .int .i64 0, .int .i64 0, .int .i64 0, .int .i64 0, .int .i64 0, .int .i64 0, .int .i64 0, .int .i64 0] 87)) := (Below.refl _ _).alloc (Nat.le_refl _) _
  have hgn := (KC.of_below hal).cell hge
  have hrn := ((KC.of_below hal).rules hr).n
  have HR := Lib.hid hr
  have HG := Lib.hid hg
  have HBX : Hid ((w.alloc (.cells #[.int .i64 0, .int .i64 0, .int .i64 0, .int .i64 0, .int .i64 0, .int .i64 0, .int .i64 0, .int .i64 0, .int .i64 0, .int .i64 0, .int .i64 0, .int .i64 0] 87)).heap[w.heap.size]? = some (.cells (vec (zV P)).toArray 87 (0, 0))) := Lib.hid (by rw [vec_zV]; exact heap_alloc_new _ _)
  have HB := Lib.hid hal
  clear hr hg hal hge'
  go_enter Try.func39, Try.ntmps39
  go_wp2_with (first
    | (go_at_call 56; refine (valid_live' w bg br HG.out).mono ?_; rintro e w' ⟨rfl, rfl⟩)
    | (go_at_call 19; (refine (order_live' hv hs _ bg br HG.out HR.out).mono ?_); rintro e w' ⟨rfl, rfl⟩))
  generalize w.alloc (.cells #[.int .i64 0, .int .i64 0, .int .i64 0, .int .i64 0, .int .i64 0, .int .i64 0, .int .i64 0, .int .i64 0, .int .i64 0, .int .i64 0, .int .i64 0, .int .i64 0] 87) = W at *
  have HEI := Lib.hid (elTo_inv hv h0 h1)
  go_loopw [1, 7] (fun s1 s7 wr => ∃ d : Nat, d ≤ P.n ∧ (∃ z : Int, s7 = .int .i64 z ∧ z = (P.n : Int) - 1 - d) ∧ s1 = .int .i64 (elTo P r d).2 ∧ wr.heap[w.heap.size]? = some (.cells (vec (elTo P r d).1).toArray 87 (0, 0)) ∧ Below w.heap.size w wr) (fun _ s7 _ => (intOf s7 + 1).toNat)
  case atStart => exact ⟨0, Nat.zero_le _, ⟨_, rfl, by simp⟩, rfl, HBX.out, HB.out⟩
  case round =>
    obtain ⟨d, hd, ⟨z7, rfl, e7⟩, rfl, hY, hB⟩ := hrel
    obtain ⟨n1, n2, n3, -⟩ := HEI.out d hd
    have HN1 := Lib.hid n1
    have HY := Lib.hid hY
    have HBB := Lib.hid hB
    have HS := Lib.hid (elTo_succ P r d)
    have hwsz : w.heap.size < wr.heap.size := (Array.getElem?_eq_some_iff.1 hY).1
    by_cases hlt : d < P.n
    · obtain ⟨i, hi⟩ : ∃ i, P.n - 1 - d = i := ⟨_, rfl⟩
      have hin : i < P.n := by omega
      obtain rfl : z7 = (i : Int) := by omega
      have hrr := (KC.of_below hB).rules HR.out
      have hge1 : wr.cell? ⟨bg, 0, none⟩ = some (.pointer (some ⟨br, 0, none⟩)) := (KC.of_below hB).cell HG.out
      have hgd : wr.drew.cell? ⟨bg, 0, none⟩ = some (.pointer (some ⟨br, 0, none⟩)) := hge1
      have c1 := hrr.ordc (i := i) (by omega)
      have hoi := hv.ord2 i hin
      rw [hi] at HS
      have hi0 : (0 : Int) ≤ (i : Int) := Int.natCast_nonneg _
      have hi12 : (i : Int) < 12 := by omega
      have hcy := cell_of_heap hY (k := i) (by omega)
      have hfy : wr.frozen? ⟨w.heap.size, i, none⟩ = false := by simp [World.frozen?, hY]
      have hbg : bg ≠ w.heap.size := by have := World.block_lt_of_cell? w _ HG.out; simp at this; omega
      have hbr : br ≠ w.heap.size := by have := HR.out.lt; omega
      have hz5 := hs (P.n - d) (by omega)
      generalize (elTo P r d).2 = z at *
      generalize hvx : (elTo P r d).1 = v at *
      have HVX := Lib.hid hvx
      generalize P.ord i = y at *
      generalize hvi : v.getD i 0 = vi at *
      have HQ : Hid (IntKind.i64.wrap (z.tdiv y) = z / y) := Lib.hid (by
        rw [Int.tdiv_eq_ediv_of_nonneg n2]
        have h1 := Int.ediv_nonneg n2 (show 0 ≤ y by omega)
        have h2 := Int.ediv_le_self y n2
        exact IntWalk.i64_in _ (by omega))
      have HM : Hid (z.tmod y = z % y) := Lib.hid (Int.tmod_eq_emod_of_nonneg n2)
      have hida : i + 1 + d ≤ P.n := by omega
      have hidb : P.n ≤ i + 1 + d := by omega
      have hy0 : (y == 0) = false := beq_eq_false_iff_ne.2 (by omega)
      have hy1 : y ≠ 0 := by omega
      have HK : Hid (∀ v : Value, (wr.setCell ⟨w.heap.size, i, none⟩ v).drew.cell? ⟨bg, 0, none⟩ = some (.pointer (some ⟨br, 0, none⟩)) ∧ (wr.setCell ⟨w.heap.size, i, none⟩ v).drew.cell? ⟨br, 1 + i, none⟩ = some (.int .i64 y)) :=
        Lib.hid fun v => ⟨(World.cell?_of_block (w := wr) (a := ⟨bg, 0, none⟩) (Below.heap_setCell wr ⟨w.heap.size, i, none⟩ v bg hbg)).trans hge1, (World.cell?_of_block (w := wr) (a := ⟨br, 1 + i, none⟩) (Below.heap_setCell wr ⟨w.heap.size, i, none⟩ v br hbr)).trans c1⟩
      have HK0 : Hid (wr.drew.cell? ⟨bg, 0, none⟩ = some (.pointer (some ⟨br, 0, none⟩)) ∧ wr.drew.cell? ⟨br, 1 + i, none⟩ = some (.int .i64 y)) := Lib.hid ⟨hge1, c1⟩
      clear n1 hY hB e7 hrr n3 hi hvx hvi hgd
      go_wp2_with fail
      go_region_held3 (fun w' => w'.cell? ⟨bg, 0, none⟩ = some (.pointer (some ⟨br, 0, none⟩)) ∧ w'.cell? ⟨br, 1 + i, none⟩ = some (.int .i64 y)) (first | exact HK.out _ | exact HK0.out) (fail)
      rw [HQ.out, HM.out]
      have h6 := setCell_vec (v := z % y) HY.out (show i < v.length by rw [HN1.out.1]; exact hin)
      have HY6 : Hid ((wr.setCell ⟨w.heap.size, i, none⟩ (.int .i64 (z % y))).drew.heap[w.heap.size]? = some (.cells (vec (elTo P r (d + 1)).1).toArray 87 (0, 0))) := Lib.hid (by rw [HS.out]; exact h6)
      have HB6 : Hid (Below w.heap.size w (wr.setCell ⟨w.heap.size, i, none⟩ (.int .i64 (z % y))).drew) := Lib.hid ((HBB.out.setCell (p := ⟨w.heap.size, i, none⟩) (Nat.le_refl _) _).drew)
      have HZ : Hid ((elTo P r (d + 1)).2 = z / y) := Lib.hid (by rw [HS.out])
      clear h6
      go_wp2_with fail
      go_roundw
      case rel => exact ⟨d + 1, by omega, ⟨_, rfl, by push_cast; omega⟩, by rw [HZ.out], HY6.out, HB6.out⟩
      case measure => simp [intOf]
    · obtain rfl : d = P.n := by omega
      obtain rfl : z7 = -1 := by omega
      have HE : Hid (elP P r = (elTo P r P.n).1) := Lib.hid rfl
      have hge1 : wr.cell? ⟨bg, 0, none⟩ = some (.pointer (some ⟨br, 0, none⟩)) := (KC.of_below hB).cell HG.out
      have hrr := (KC.of_below hB).rules HR.out
      have HRR := Lib.hid hrr
      generalize (elTo P r P.n).1 = v at *
      have hu := Try.underlying87
      have hi := show (Try.prog.info? 87).map (·.size) = some (vec v).length by rw [length_vec]; exact info82
      have hl := length_vec v
      have ho : ∀ u ∈ vec v, u.oneCell' = true := fun u hu => by simp [vec] at hu; obtain ⟨k, _, rfl⟩ := hu; rfl
      have HK0 : Hid (wr.drew.cell? ⟨bg, 0, none⟩ = some (.pointer (some ⟨br, 0, none⟩)) ∧ wr.drew.rangeAt w.heap.size 0 (vec v)) := Lib.hid ⟨hge1, range_of_heap hY⟩
      have HRD := Lib.hid ((KC.of_below (Below.refl wr.heap.size wr).drew).rules hrr)
      clear n1 n2 n3 e7 hY hB hrr
      go_wp2_with fail
      go_region_held3 (fun w' => w'.cell? ⟨bg, 0, none⟩ = some (.pointer (some ⟨br, 0, none⟩)) ∧ w'.rangeAt w.heap.size 0 (vec v)) (first | exact HK0.out | exact HK9.out)
        (first
          | (go_at_call 72; (refine (list_any hv _ br HRD.out v HN1.out).mono ?_); rintro e w9 ⟨u, rfl, hu9, hb9⟩; have HU9 := Lib.hid hu9; have HK9 : Hid (w9.cell? ⟨bg, 0, none⟩ = some (.pointer (some ⟨br, 0, none⟩)) ∧ w9.rangeAt w.heap.size 0 (vec v)) := Lib.hid ⟨(KC.of_below hb9).cell HK0.out.1, (KC.of_below hb9).range HK0.out.2⟩; have HB9 := Lib.hid hb9; clear hu9 hb9))
      have hfin : ListRet (elP P r) w (.returned (.tuple #[u, .int .i64 0])) w9 := ⟨⟨u, rfl, by rw [HE.out]; exact HU9.out⟩, HBB.out.trans (((Below.refl wr.heap.size wr).drew.trans HB9.out).mono HBB.out.size)⟩
      have HF := Lib.hid hfin
      clear hfin hu hi hl ho hgn hrn hge1
      go_wp2_with fail
      go_ret2
      exact HF.out
end Go.Proofs
namespace Go.Proofs.Pc
def goodL (P : PcD) (x : Int) : Prop := x ≠ 0 ∧ -(P.n : Int) ≤ x ∧ x ≤ (P.n : Int)
instance (P : PcD) (x : Int) : Decidable (goodL P x) := by unfold goodL; infer_instance
/-- the list of a letter -/
def gen (P : PcD) (x : Int) : V := if 0 < x then uP P (x - 1).toNat 1 else invP P (uP P (-x - 1).toNat 1)
def stepW (P : PcD) (x : Int) (c : V) : V := mulP P c (gen P x)
def evTo (P : PcD) (ws : List Int) (k : Nat) : V := foldTo (fun k c => stepW P (ws.getD k 0) c) k (zV P)
def evW (P : PcD) (ws : List Int) : V := evTo P ws ws.length
theorem evTo_succ (P : PcD) (ws : List Int) (k : Nat) : evTo P ws (k + 1) = stepW P (ws.getD k 0) (evTo P ws k) := rfl
theorem stepW_neg (P : PcD) (i : Nat) (c : V) : stepW P (-(i : Int) - 1) c = mulP P c (invP P (uP P i 1)) := by
  unfold stepW gen
  rw [if_neg (by omega), show (-(-(i : Int) - 1) - 1).toNat = i by omega]
theorem stepW_pos (P : PcD) (i : Nat) (c : V) (hi : i < P.n) : stepW P ((i : Int) + 1) c = T P i c := by
  unfold stepW gen
  rw [if_pos (by omega), show ((i : Int) + 1 - 1).toNat = i by omega, mul_unit hi]
section
variable {P : PcD} (hv : Valid P)
include hv
theorem evTo_NV {ws : List Int} (k : Nat) : NV P (evTo P ws k) := foldTo_inv (p := NV P) k (fun _ _ _ hz => mulP_NV hv hz) _ (NV_z hv)
end
end Go.Proofs.Pc
namespace Go.Proofs
open Go.RowKit Go.Proofs.Pc
attribute [local simp, local go_sem] wide_fn wide_depth
def dmEv : Nat → Nat := fun i => [37, 38, 39, 40, 41, 42, 43, 44, 45, 46].getD i 0
theorem unit_R1 {P : PcD} (hv : Valid P) {w : World} {i : Nat} (hi : i < P.n) :
    Calls Try.prog 83 #[.int .i64 i, .int .i64 1] w fun e w' => ∃ v, e = .returned v ∧ (v = .agg (vec (uP P i 1)).toArray ∧ Below w.heap.size w w') :=
  (unit_any w i 1 (by have := hv.n12; omega)).mono fun _e _w' ⟨he, hb⟩ => ⟨_, he, by rw [vec_unit hi hv.n12], hb⟩
theorem by_R {P : PcD} (hv : Valid P) {w : World} {bc br : Nat} {x y : List Int} (hc : CollAt w bc br x) (hr : RulesAt w br P) (hne : bc ≠ br) (hx : NV P x) (hy : NV P y) :
    Calls Try.prog 82 #[.pointer (some ⟨bc, 0, none⟩), .agg (vec y).toArray] w fun e w' => ∃ v, e = .returned v ∧ (CollAt w' bc br (mulP P x y) ∧ w.grownBy w' (some bc)) :=
  (by_ok hv P.n w bc br x y hc hr hne hx (NV.small hv hy)).mono fun _e _w' ⟨he, h1, h2⟩ => ⟨_, he, h1, h2⟩
theorem times_c {P : PcD} (hv : Valid P) {w : World} {bc br : Nat} {x : List Int} {i : Nat} (hc : CollAt w bc br x) (hr : RulesAt w br P) (hne : bc ≠ br) (hx : NV P x) (hi : i < P.n) :
    Calls Try.prog 81 #[.pointer (some ⟨bc, 0, none⟩), .int .i64 i] w (Turned w bc br (T P i x)) := times_ok hv P.n w bc br x i hc hr hne hx hi (by omega)
theorem call80 (args : Array Value) (w : World) : (callFunc 82 args).run Try.prog w = .ok (.enter 82 args) w := enters_of Try.func82 (by kernel_rfl) rfl args w
theorem build113z (br : Nat) (w : World) : (Instr.build 117 #[(0, .pointer (some ⟨br, 0, none⟩))]).run Try.prog w = .ok (.agg (Value.pointer (some ⟨br, 0, none⟩) :: vec []).toArray) w := by kernel_rfl
theorem r_b113 {o : Oper} {a : Act} {w : World} (x : Operand) (br : Nat) (ho : o.op = .build 117 #[(0, x)]) (hx : a.eval x = .pointer (some ⟨br, 0, none⟩)) : (execOp a.eval o).run Try.prog w = .ok (.value (.agg (Value.pointer (some ⟨br, 0, none⟩) :: vec []).toArray)) w := by
  have hb := build113z br w
  unfold execOp
  simp only [ho, List.map_toArray, List.map_cons, List.map_nil, hx, Sem.run_bind, hb, Result.andThen_ok]
  rfl
set_option maxRecDepth 100000 in
set_option maxHeartbeats 2000000 in
theorem eval_live_in {P : PcD} (hv : Valid P) (w : World) (bg br : Nat) (hg : Live w bg br) (hr : RulesAt w br P) (s1 : Value) (ws : List Int) (h1 : IntsAt w s1 ws) (hl : ws.length ≤ 4000) (hgood : ∀ k, k < ws.length → goodL P (ws.getD k 0)) :
    CallsIn Fence.wide 3 Try.prog 37 #[.pointer (some ⟨bg, 0, none⟩), s1] w (ListRet (evW P ws) w) := by
  obtain ⟨A, ca, rfl, ha1, ha2, ha⟩ := h1.open_
  have h12 := hv.n12
  have hbr := hr.lt
  have dl : decide ((4000 : Int) < (ws.length : Int)) = false := decide_eq_false (by omega)
  have hge := hg
  unfold Live at hge
  have HR := Lib.hid hr
  have HG := Lib.hid hg
  have HA := Lib.hid ha
  have HGOOD := Lib.hid hgood
  have HB0 : Hid (Below w.heap.size w (w.alloc (.cells (Value.pointer (some ⟨br, 0, none⟩) :: vec []).toArray 117))) := Lib.hid ((Below.refl _ _).alloc (Nat.le_refl _) _)
  have HC0 : Hid (CollAt (w.alloc (.cells (Value.pointer (some ⟨br, 0, none⟩) :: vec []).toArray 117)) w.heap.size br (zV P)) := Lib.hid (by unfold CollAt; rw [vec_zV]; exact heap_alloc_new _ _)
  have HZ := Lib.hid (NV_z hv)
  clear hr hg ha hgood h1
  gi_enter Try.func37, Try.ntmps37
  gi_wp2_with (first
    | (with_reducible refine (callsIn_wide.2 (valid_live' w bg br HG.out)).mono ?_; rintro e w' ⟨rfl, rfl⟩)
    | ((with_reducible refine wpListIn_sel 22 ?_); refine wpListIn_val rfl (r_b113 (.tmp 21) br rfl rfl) ?_))
  have hbcn : w.heap.size ≠ br := by omega
  generalize hW : w.alloc (.cells (Value.pointer (some ⟨br, 0, none⟩) :: vec []).toArray 117) = W at *
  clear hW hge
  gi_loopw [26] (fun s wr => ∃ k : Nat, k ≤ ws.length ∧ s = .int .i64 k ∧ CollAt wr w.heap.size br (evTo P ws k) ∧ Below w.heap.size w wr) (fun s _ => ws.length - (intOf s).toNat)
  case atStart => exact ⟨0, Nat.zero_le _, rfl, HC0.out, HB0.out⟩
  case round =>
    obtain ⟨k, hk, rfl, hC, hB⟩ := hrel
    have HC := Lib.hid hC
    have HB := Lib.hid hB
    have HNV := Lib.hid (evTo_NV hv (ws := ws) k)
    have hge1 : wr.cell? ⟨bg, 0, none⟩ = some (.pointer (some ⟨br, 0, none⟩)) := (KC.of_below hB).cell HG.out
    have hrr := (KC.of_below hB).rules HR.out
    have HRR := Lib.hid hrr
    have hrn := hrr.n
    have hcs := hC.lt
    have HFW : Hid (∀ {w : World}, Below wr.heap.size wr w → RulesAt w br P ∧ w.cell? ⟨bg, 0, none⟩ = some (.pointer (some ⟨br, 0, none⟩))) := Lib.hid (fun h => ⟨(KC.of_below h).rules hrr, (KC.of_below h).cell hge1⟩)
    by_cases hlt : k < ws.length
    · obtain ⟨b, off, rfl, hcb⟩ := HA.out (by omega)
      have cx := (KC.of_below hB).cell (hcb k hlt)
      have hgk := HGOOD.out k hlt
      have HS := Lib.hid (evTo_succ P ws k)
      have hk0 : (0 : Int) ≤ (k : Int) := Int.natCast_nonneg _
      have hk1 : (k : Int) < (ws.length : Int) := by omega
      unfold goodL at hgk
      generalize ws.getD k 0 = x at *
      generalize evTo P ws k = v at *
      obtain ⟨g1, g2, g3⟩ := hgk
      clear hC hB hrr hcb
      have e1 : (x == 0) = false := beq_eq_false_iff_ne.2 g1
      have e2 : decide (x < -(P.n : Int)) = false := decide_eq_false (by omega)
      have e3 : decide ((P.n : Int) < x) = false := decide_eq_false (by omega)
      rcases Int.lt_or_gt_of_ne g1 with hx | hx
      · have e4 : decide (0 < x) = false := decide_eq_false (by omega)
        obtain ⟨i, hi⟩ : ∃ i : Nat, -x - 1 = (i : Int) := ⟨(-x - 1).toNat, by omega⟩
        obtain rfl : x = -(i : Int) - 1 := by omega
        have hin : i < P.n := by omega
        have hni : -(-(i : Int) - 1) - 1 = (i : Int) := by omega
        have HNI := Lib.hid hni
        have HSX : Hid (stepW P (-(i : Int) - 1) v = mulP P v (invP P (uP P i 1))) := Lib.hid (stepW_neg P i v)
        clear hi hni g1 g2 g3
        gi_wp2_with fail
        have hni := HNI.out
        have hfw : ∀ {w : World}, Below wr.heap.size wr w → RulesAt w br P ∧ w.cell? ⟨bg, 0, none⟩ = some (.pointer (some ⟨br, 0, none⟩)) := HFW.out
        refine wpIn_region_one (by kernel_rfl) dmEv 10 (tailed1_of (by kernel_rfl)) (fun w' => Below wr.heap.size wr w') (fun q v wz => ((([SW2.s (SW.c (.pointer (some ⟨w.heap.size, 0, none⟩))), SW2.s (SW.c (.pointer (some ⟨bg, 0, none⟩))), SW2.s (SW.c (.pointer (some ⟨bg, 0, none⟩))), SW2.s (SW.c (.pointer (some ⟨bg, 0, none⟩))), SW2.s (SW.c (.pointer (some ⟨br, 0, none⟩))), SW2.s (SW.c (.int .i64 (-(i : Int) - 1))), SW2.s (SW.c (.int .i64 (-(-(i : Int) - 1)))), SW2.s (SW.c (.int .i64 (i : Int))), SW2.s (SW.c (.agg (vec (uP P i 1)).toArray)), SW2.s (SW.c (.agg (vec (invP P (uP P i 1))).toArray))]) : List SW2).getD q SW2.any).holds P v wz) (fun w w' => Below w.heap.size w w') (inj_of (by decide)) (fun q v w w' h => SW2.keep h) (lt_of (n := 79) (by decide)) (Below.refl _ _).drew ?_ ?_
        · intro q o a w9 hq ho hS hsame hpre
          have hcases : q = 0 ∨ q = 1 ∨ q = 2 ∨ q = 3 ∨ q = 4 ∨ q = 5 ∨ q = 6 ∨ q = 7 ∨ q = 8 ∨ q = 9 := by omega
          rcases hcases with rfl | rfl | rfl | rfl | rfl | rfl | rfl | rfl | rfl | rfl
          · obtain rfl := Option.some.inj ho; exact ⟨rfl, rfl, (by exact wpW_val (r_move (.tmp 6) rfl (hsame.out 6 (by decide))) ⟨_, rfl, hS, Below.refl _ _, rfl⟩)⟩
          · obtain rfl := Option.some.inj ho; exact ⟨rfl, rfl, (by exact wpW_val (r_move (.tmp 0) rfl (hsame.out 0 (by decide))) ⟨_, rfl, hS, Below.refl _ _, rfl⟩)⟩
          · obtain rfl := Option.some.inj ho; exact ⟨rfl, rfl, (by exact wpW_val (r_nil (.tmp 38) _ rfl (hpre ⟨1, .data⟩ (by simp) rfl)) ⟨_, rfl, hS, Below.refl _ _, rfl⟩)⟩
          · obtain rfl := Option.some.inj ho; exact ⟨rfl, rfl, (by exact wpW_val (r_fld (.tmp 39) _ rfl (hpre ⟨2, .data⟩ (by simp) rfl) (fld64_0 _ _)) ⟨_, rfl, hS, Below.refl _ _, rfl⟩)⟩
          · obtain rfl := Option.some.inj ho; exact ⟨rfl, rfl, (by exact wpW_val (r_load62 (.tmp 40) ⟨bg, 0, none⟩ rfl (hpre ⟨3, .data⟩ (by simp) rfl) (hfw hS).2) ⟨_, rfl, hS, Below.refl _ _, rfl⟩)⟩
          · obtain rfl := Option.some.inj ho; exact ⟨rfl, rfl, (by exact wpW_val (r_move (.tmp 8) rfl (hsame.out 8 (by decide))) ⟨_, rfl, hS, Below.refl _ _, rfl⟩)⟩
          · obtain rfl := Option.some.inj ho; exact ⟨rfl, rfl, (by exact wpW_val (r_neg (.tmp 42) (-(i : Int) - 1) rfl (hpre ⟨5, .data⟩ (by simp) rfl) (by omega) (by omega)) ⟨_, rfl, hS, Below.refl _ _, rfl⟩)⟩
          · obtain rfl := Option.some.inj ho; exact ⟨rfl, rfl, (by exact wpW_val (r_subc (.tmp 43) (-(-(i : Int) - 1)) 1 rfl (hpre ⟨6, .data⟩ (by simp) rfl) (by omega) (by omega)) ⟨_, rfl, hS, Below.refl _ _, by show (Value.int .i64 _ : Value) = _; rw [hni]⟩)⟩
          · obtain rfl := Option.some.inj ho; exact ⟨rfl, rfl, (by exact wpW_call (r_call2 (.tmp 44) (.const (.int .i64 1)) _ _ _ rfl (hpre ⟨7, .data⟩ (by simp) rfl) rfl call81) (unit_R1 hv hin) (fun v w'' h => ⟨v, rfl, hS.trans (h.2.mono hS.size), h.2, h.1⟩))⟩
          · obtain rfl := Option.some.inj ho; exact ⟨rfl, rfl, (by exact wpW_call (r_call2 (.tmp 41) (.tmp 45) _ _ _ rfl (hpre ⟨4, .data⟩ (by simp) rfl) (hpre ⟨8, .data⟩ (by simp) rfl) call73) (inverse_R hv (hfw hS).1 (uP_NV hv (by omega) (fun h => by have := hv.ord2 i h; omega))) (fun v w'' h => ⟨v, rfl, hS.trans (h.2.mono hS.size), h.2, h.1⟩))⟩
        intro a w2 hS hsame hsl
        have e0 := hsl 0 (by omega)
        have e9 := hsl 9 (by omega)
        obtain ⟨vs, hvs, hfr⟩ := hsame.frameV 79 rfl
        refine wpOpIn_of (o := ⟨some 47, .call ⟨.value (.func 82), #[.tmp 37, .tmp 46], #[115, 87]⟩, _, _, _, none⟩) rfl rfl (wpW_call (r_call2 (.tmp 37) (.tmp 46) _ _ _ rfl e0 e9 call80) (by_R hv (HC.out.below hS) (hfw hS).1 hbcn HNV.out (invP_NV hv (uP_NV hv (by omega) (fun h => by have := hv.ord2 i h; omega)))) ?_)
        rintro v w3 ⟨hc3, hg3⟩
        have HC3 := Lib.hid hc3
        have HB3 := Lib.hid ((HB.out.trans (hS.mono HB.out.size)).grown hg3 (Nat.le_trans HB.out.size hS.size) (fun k e => by cases e; omega))
        clear hsl hsame hvs e0 e9 hS hc3 hg3
        subst hfr
        dsimp only
        simp only [Act.put, List.range, List.range.loop, List.map_cons, List.map_nil, List.any_cons, List.any_nil, dmEv, List.getD_cons_zero, List.getD_cons_succ, Nat.reduceBEq, Bool.or_false, Bool.or_true, Bool.false_eq_true, if_true, if_false, List.setIfInBounds_toArray, List.set_cons_succ, List.set_cons_zero]
        clear hfw
        gi_wp2_with fail
        go_roundw
        case rel => exact ⟨k + 1, by omega, by go_num, by rw [HS.out, HSX.out]; exact HC3.out, HB3.out⟩
        case measure => simp [intOf]; omega
      · have e4 : decide (0 < x) = true := decide_eq_true (by omega)
        obtain ⟨i, hi⟩ : ∃ i : Nat, x - 1 = (i : Int) := ⟨(x - 1).toNat, by omega⟩
        obtain rfl : x = (i : Int) + 1 := by omega
        have hin : i < P.n := by omega
        have hni : (i : Int) + 1 - 1 = (i : Int) := by omega
        have HNI := Lib.hid hni
        have HSX : Hid (stepW P ((i : Int) + 1) v = T P i v) := Lib.hid (stepW_pos P i v hin)
        clear hi hni g1 g2 g3
        have HTC := Lib.hid (times_c hv HC.out HRR.out hbcn HNV.out hin)
        gi_wp2_with ((with_reducible refine (callsIn_wide.2 HTC.out).mono ?_); rintro e w5 ⟨rfl, hc5, hg5⟩)
        go_roundw
        case rel => exact ⟨k + 1, by omega, by go_num, by rw [HS.out, HSX.out]; exact hc5, HB.out.grown hg5 HB.out.size (fun k e => by cases e; omega)⟩
        case measure => simp [intOf]; omega
    · obtain rfl : k = ws.length := by omega
      have HE : Hid (evW P ws = evTo P ws ws.length) := Lib.hid rfl
      clear hC hB hrr
      gi_wp2_with fail
      have hfw : ∀ {w : World}, Below wr.heap.size wr w → RulesAt w br P ∧ w.cell? ⟨bg, 0, none⟩ = some (.pointer (some ⟨br, 0, none⟩)) := HFW.out
      rw [← HE.out] at HC HNV
      refine wpIn_region_tail (by kernel_rfl) 70 9 (tailed_of (by kernel_rfl)) (fun w' => Below wr.heap.size wr w') (fun q v wz => ((([SW2.s (SW.c (.pointer (some ⟨bg, 0, none⟩))), SW2.s (SW.c (.pointer (some ⟨bg, 0, none⟩))), SW2.s (SW.c (.pointer (some ⟨bg, 0, none⟩))), SW2.s (SW.c (.pointer (some ⟨br, 0, none⟩))), SW2.s (SW.c (.pointer (some ⟨w.heap.size, 0, none⟩))), SW2.s (SW.c (.pointer (some ⟨w.heap.size, 0, none⟩))), SW2.s (SW.c (.pointer (some ⟨w.heap.size, 1, none⟩))), SW2.s (SW.c (.agg (vec (evW P ws)).toArray)), SW2.s (SW.il (evW P ws))]) : List SW2).getD q SW2.any).holds P v wz) (fun w w' => Below w.heap.size w w') (fun q v w w' h => SW2.keep h) (Nat.le_of_ble_eq_true rfl) (Below.refl _ _).drew ?_ ?_
      · intro q o a w9 hq ho hS hsame hpre
        have hcases : q = 0 ∨ q = 1 ∨ q = 2 ∨ q = 3 ∨ q = 4 ∨ q = 5 ∨ q = 6 ∨ q = 7 ∨ q = 8 := by omega
        rcases hcases with rfl | rfl | rfl | rfl | rfl | rfl | rfl | rfl | rfl
        · obtain rfl := Option.some.inj ho; exact ⟨rfl, rfl, (by exact wpW_val (r_move (.tmp 0) rfl (hsame.out 0 (.inl (by decide)))) ⟨_, rfl, hS, Below.refl _ _, rfl⟩)⟩
        · obtain rfl := Option.some.inj ho; exact ⟨rfl, rfl, (by exact wpW_val (r_nil (.tmp 70) _ rfl (hpre ⟨0, .data⟩ (by simp) rfl)) ⟨_, rfl, hS, Below.refl _ _, rfl⟩)⟩
        · obtain rfl := Option.some.inj ho; exact ⟨rfl, rfl, (by exact wpW_val (r_fld (.tmp 71) _ rfl (hpre ⟨1, .data⟩ (by simp) rfl) (fld64_0 _ _)) ⟨_, rfl, hS, Below.refl _ _, rfl⟩)⟩
        · obtain rfl := Option.some.inj ho; exact ⟨rfl, rfl, (by exact wpW_val (r_load62 (.tmp 72) ⟨bg, 0, none⟩ rfl (hpre ⟨2, .data⟩ (by simp) rfl) (hfw hS).2) ⟨_, rfl, hS, Below.refl _ _, rfl⟩)⟩
        · obtain rfl := Option.some.inj ho; exact ⟨rfl, rfl, (by exact wpW_val (r_move (.tmp 6) rfl (hsame.out 6 (.inl (by decide)))) ⟨_, rfl, hS, Below.refl _ _, rfl⟩)⟩
        · obtain rfl := Option.some.inj ho; exact ⟨rfl, rfl, (by exact wpW_val (r_nil (.tmp 74) _ rfl (hpre ⟨4, .data⟩ (by simp) rfl)) ⟨_, rfl, hS, Below.refl _ _, rfl⟩)⟩
        · obtain rfl := Option.some.inj ho; exact ⟨rfl, rfl, (by exact wpW_val (r_fld (.tmp 75) _ rfl (hpre ⟨5, .data⟩ (by simp) rfl) (fld113_1 _ _ _)) ⟨_, rfl, hS, Below.refl _ _, rfl⟩)⟩
        · obtain rfl := Option.some.inj ho; exact ⟨rfl, rfl, (by exact wpW_val (r_load82 (.tmp 76) _ _ (evW P ws) rfl (hpre ⟨6, .data⟩ (by simp) rfl) ((KC.of_below hS).range HC.out.range)) ⟨_, rfl, hS, Below.refl _ _, rfl⟩)⟩
        · obtain rfl := Option.some.inj ho; exact ⟨rfl, rfl, (by exact wpW_call (r_call2 (.tmp 73) (.tmp 77) _ _ _ rfl (hpre ⟨3, .data⟩ (by simp) rfl) (hpre ⟨7, .data⟩ (by simp) rfl) call70) (list_R hv (hfw hS).1 HNV.out) (fun v w'' h => ⟨v, rfl, hS.trans (h.2.mono hS.size), h.2, h.1⟩))⟩
      · intro a w' hS hsame hsl
        have hu := hsl 8 (by omega)
        have hfr := hsame.frame (Nat.le_of_ble_eq_true rfl)
        refine wpOpIn_of (o := ⟨some 4, .assign (.tmp 78), 22, _, _, none⟩) rfl rfl (wpW_val (r_asg (.tmp 78) rfl rfl) (wpOpIn_of (o := ⟨some 5, .assign (.const (.int .i64 0)), 29, _, _, none⟩) rfl rfl (wpW_val (r_asg (.const (.int .i64 0)) rfl rfl) ?_)))
        have e41 : a.eval (.tmp 78) = a.tmps.getD (70 + 8) undef := rfl
        have ec : ∀ a : Act, a.eval (.const (.int .i64 0)) = .int .i64 0 := fun _ => rfl
        rw [e41, ec]
        generalize a.tmps.getD (70 + 8) undef = u at *
        have HU : IntsAt w' u (evW P ws) := hu
        clear hu hsl hsame e41 ec
        generalize (fun i => a.tmps.getD (70 + i) undef) = vs at hfr
        subst hfr
        dsimp only
        simp only [Act.put, List.take_succ_cons, List.take_zero, List.drop_succ_cons, List.drop_zero, List.map_cons, List.map_nil, List.range, List.range.loop, List.cons_append, List.nil_append, List.append_nil, List.setIfInBounds_toArray, List.set_cons_succ, List.set_cons_zero, Nat.reduceAdd]
        have hfin : ListRet (evW P ws) w (.returned (.tuple #[u, .int .i64 0])) w' := ⟨⟨u, rfl, HU⟩, HB.out.trans (hS.mono HB.out.size)⟩
        clear hfw HU hS
        gi_wp2_with fail
        exact bodyPost_ret (results_tmp2 (t := 4) (u := 5) rfl _ _ _) rfl hfin
theorem eval_live {P : PcD} (hv : Valid P) (w : World) (bg br : Nat) (hg : Live w bg br) (hr : RulesAt w br P) (s1 : Value) (ws : List Int) (h1 : IntsAt w s1 ws) (hl : ws.length ≤ 4000) (hgood : ∀ k, k < ws.length → goodL P (ws.getD k 0)) :
    Calls Try.prog 37 #[.pointer (some ⟨bg, 0, none⟩), s1] w (ListRet (evW P ws) w) := callsIn_wide.1 (eval_live_in hv w bg br hg hr s1 ws h1 hl hgood)
end Go.Proofs
namespace Go.Proofs
open Go.RowKit Go.Proofs.Pc
/-- two boxes of three values lie behind w -/
structure Two (w : World) (a0 a1 a2 b0 b1 b2 : Value) (wr : World) : Prop where
  c0 : wr.cell? ⟨w.heap.size, 0, none⟩ = some a0
  c1 : wr.cell? ⟨w.heap.size, 1, none⟩ = some a1
  c2 : wr.cell? ⟨w.heap.size, 2, none⟩ = some a2
  d0 : wr.cell? ⟨w.heap.size + 1, 0, none⟩ = some b0
  d1 : wr.cell? ⟨w.heap.size + 1, 1, none⟩ = some b1
  d2 : wr.cell? ⟨w.heap.size + 1, 2, none⟩ = some b2
  below : Below w.heap.size w wr
theorem Two.new (w : World) (a0 a1 a2 b0 b1 b2 : Value) : Two w a0 a1 a2 b0 b1 b2 ((w.alloc (.cells #[a0, a1, a2] 26)).alloc (.cells #[b0, b1, b2] 26)) := by
  have hb : Below (w.heap.size + 1) (w.alloc (.cells #[a0, a1, a2] 26)) ((w.alloc (.cells #[a0, a1, a2] 26)).alloc (.cells #[b0, b1, b2] 26)) := (Below.refl _ _).alloc (by simp) _
  have h1 : ∀ j, ((w.alloc (.cells #[a0, a1, a2] 26)).alloc (.cells #[b0, b1, b2] 26)).cell? ⟨w.heap.size, j, none⟩ = #[a0, a1, a2][j]? := fun j => (hb.cell (p := ⟨w.heap.size, j, none⟩) (by simp)).trans (cell_of_row _ _ _ _ _ _ (heap_alloc_new w _))
  have h2 : ∀ j, ((w.alloc (.cells #[a0, a1, a2] 26)).alloc (.cells #[b0, b1, b2] 26)).cell? ⟨w.heap.size + 1, j, none⟩ = #[b0, b1, b2][j]? := fun j => by
    have := cell_of_row _ _ j _ _ _ (heap_alloc_new (w.alloc (.cells #[a0, a1, a2] 26)) (.cells #[b0, b1, b2] 26))
    rwa [World.size_alloc] at this
  exact ⟨h1 0, h1 1, h1 2, h2 0, h2 1, h2 2, ((Below.refl _ _).alloc (Nat.le_refl _) _).alloc (by simp) _⟩
theorem Two.step {w wr w' : World} {a0 a1 a2 b0 b1 b2 : Value} (h : Two w a0 a1 a2 b0 b1 b2 wr) (hb : Below wr.heap.size wr w') : Two w a0 a1 a2 b0 b1 b2 w' := by
  have hk : ∀ {b j : Nat} {v : Value}, wr.cell? ⟨b, j, none⟩ = some v → w'.cell? ⟨b, j, none⟩ = some v := fun {b j v} hc => (hb.cell (p := ⟨b, j, none⟩) (World.block_lt_of_cell? wr _ hc)).trans hc
  exact ⟨hk h.c0, hk h.c1, hk h.c2, hk h.d0, hk h.d1, hk h.d2, h.below.trans (hb.mono h.below.size)⟩
theorem equal_yes (w : World) (va vb : Value) (xs ys : List Int) (ha : IntsAt w va xs) (hb : IntsAt w vb ys) (h : xs = ys) :
    Calls Try.prog 32 #[va, vb] w fun e w' => e = .returned (.bool true) ∧ Below w.heap.size w w' := (equal_any w va vb xs ys ha hb).mono fun _ _ ⟨he, hb⟩ => ⟨by rw [he]; simp [h], hb⟩
theorem Two.drewN {w wr : World} {a0 a1 a2 b0 b1 b2 : Value} (h : Two w a0 a1 a2 b0 b1 b2 wr) (q : Nat) : Two w a0 a1 a2 b0 b1 b2 (wr.drewN q) := h.step (below_drewN (Below.refl _ _) q)
end Go.Proofs
namespace Go.Proofs
open Go.RowKit Go.Proofs.Pc
theorem check_known0 : checkD (knownD 0) = (0, 0) := by decide +kernel
theorem cons_known0 : consB (knownD 0) = true := by decide +kernel
theorem take_a : takeErr (knownD 0) [0, 1, 0] = 0 := by decide +kernel
theorem take_b : takeErr (knownD 0) [1, 0, 0] = 0 := by decide +kernel
theorem mul_a : mulP (knownD 0) [0, 1, 0] [1, 0, 0] = [1, 1, 1] := by decide +kernel
theorem mul_b : mulP (knownD 0) [1, 0, 0] [1, 0, 0] = [0, 0, 1] := by decide +kernel
theorem prod_known0 : prod (knownD 0) (knownD 0).n = 8 := by decide +kernel
theorem small_known0 : Small (knownD 0) := fun k hk => by
  have h : k ≤ 3 := hk
  have : k = 0 ∨ k = 1 ∨ k = 2 ∨ k = 3 := by omega
  rcases this with rfl | rfl | rfl | rfl <;> decide +kernel
theorem mul_eval {P : PcD} (hv : Valid P) {w : World} {bg br : Nat} (hg : GrpAt w bg br P) {s1 s2 : Value} {xs ys zs : List Int} (h1 : IntsAt w s1 xs) (h2 : IntsAt w s2 ys) (hx : takeErr P xs = 0) (hy : takeErr P ys = 0) (hz : mulP P xs ys = zs) :
    Calls Try.prog 30 #[.pointer (some ⟨bg, 0, none⟩), s1, s2] w fun e w' => ∃ A c, e = .returned (.tuple #[.slice A zs.length c, .int .i64 0]) ∧ IntsAt w' (.slice A zs.length c) zs ∧ Below w.heap.size w w' :=
  (mul_live hv w bg br hg.live hg.rules s1 s2 xs ys h1 h2 hx hy).mono fun e w' ⟨⟨u, he, hu⟩, hb⟩ => by
    have hm : mulErr P xs ys = 0 := by unfold mulErr; rw [if_pos hx, hy]
    rw [hm] at he
    rw [if_pos hm, hz] at hu
    obtain ⟨A, c, rfl, -⟩ := hu.open_
    exact ⟨A, c, he, hu, hb⟩
theorem two_allocs (w : World) (o1 o2 : Obj) : Below w.heap.size w ((w.alloc o1).alloc o2) := allocs_below [o1, o2] w _ (Nat.le_refl _)
theorem two_fst (w : World) (xs : List Int) (o2 : Obj) (hf : fitsB xs = true) (hl : xs.length ≤ 1000) (n : Nat) (hn : xs.length = n) : IntsAt ((w.alloc (.cells (xs.map (Value.int .i64)).toArray 3)).alloc o2) (.slice (some ⟨w.heap.size, 0, none⟩) n n) xs :=
  ints_lit xs (allocs_get [_, o2] w 0 _ rfl) hn (by omega) hf
theorem two_snd (w : World) (xs : List Int) (o1 : Obj) (hf : fitsB xs = true) (hl : xs.length ≤ 1000) (n : Nat) (hn : xs.length = n) : IntsAt ((w.alloc o1).alloc (.cells (xs.map (Value.int .i64)).toArray 3)) (.slice (some ⟨w.heap.size + 1, 0, none⟩) n n) xs :=
  ints_lit xs (allocs_get [o1, _] w 1 _ rfl) hn (by omega) hf
theorem one_ints (w : World) (xs : List Int) (hf : fitsB xs = true) (hl : xs.length ≤ 1000) (n : Nat) (hn : xs.length = n) : IntsAt (w.alloc (.cells (xs.map (Value.int .i64)).toArray 3)) (.slice (some ⟨w.heap.size, 0, none⟩) n n) xs :=
  ints_lit xs (heap_alloc_new w _) hn (by omega) hf
set_option maxRecDepth 100000 in
set_option maxHeartbeats 1000000 in
theorem awake_any (w : World) : Calls Try.prog 14 #[] w fun e w' => e = .returned (.bool true) ∧ Below w.heap.size w w' := by
  have hv : Valid (knownD 0) := valid_of_check (by rw [check_known0])
  have tok1 : True := trivial
  have tok2 : True := trivial
  have tok3 : True := trivial
  go_enter Try.func14, Try.ntmps14
  go_wp2_with (first
    | (go_at_call 29; (refine (known_0 _ 0 (by omega) rfl).mono ?_); rintro e w1 ⟨⟨u0, u1, u2, rfl, hp⟩, hb1⟩; have HP := Lib.hid hp; have HB1 := Lib.hid hb1; clear hp hb1)
    | (go_at_call 17; (refine (new_good _ _ _ _ _ HP.out (by rw [check_known0]) cons_known0).mono ?_); rintro e w2 ⟨⟨bg, br, rfl, hg, -⟩, hb2⟩; have HG := Lib.hid hg; have HB2 := Lib.hid (HB1.out.trans (hb2.mono HB1.out.size)); clear hg hb2)
    | (go_at_call 30
       have _t := tok1
       refine (mul_eval hv (HG.out.below (two_allocs _ _ _)) (two_fst w2 [0, 1, 0] _ rfl (by decide) 3 rfl) (two_snd w2 [1, 0, 0] _ rfl (by decide) 3 rfl) take_a take_b mul_a).mono ?_
       rintro e w3 ⟨A, c, rfl, hx, hb3⟩
       have hb3' : Below w2.heap.size w2 w3 := (two_allocs w2 _ _).trans (hb3.mono (two_allocs w2 _ _).size)
       have HG3 := Lib.hid (HG.out.below hb3')
       have HX := Lib.hid hx
       have HB3 := Lib.hid (HB2.out.trans (hb3'.mono HB2.out.size))
       clear hx hb3 hb3' tok1 _t)
    | (go_at_call 30
       have _t := tok2
       refine (mul_eval hv (HG3.out.below (two_allocs _ _ _)) (two_fst w3 [1, 0, 0] _ rfl (by decide) 3 rfl) (two_snd w3 [1, 0, 0] _ rfl (by decide) 3 rfl) take_b take_b mul_b).mono ?_
       rintro e w4 ⟨B, d, rfl, hy, hb4⟩
       have hb4' : Below w3.heap.size w3 w4 := (two_allocs w3 _ _).trans (hb4.mono (two_allocs w3 _ _).size)
       have HG4 := Lib.hid (HG3.out.below hb4')
       have HX4 := Lib.hid (HX.out.below hb4')
       have HY4 := Lib.hid hy
       have HB4 := Lib.hid (HB3.out.trans (hb4'.mono HB3.out.size))
       clear hy hb4 hb4' tok2 _t)
    | (go_at_call 19; (refine (order_live hv small_known0 _ bg br HG4.out.live HG4.out.rules).mono ?_); rintro e w5 ⟨rfl, rfl⟩; rw [prod_known0])
    | (go_at_call 32
       have _t := tok3
       refine (equal_yes _ _ _ [1, 1, 1] [1, 1, 1] (HX4.out.below ((Below.refl _ _).alloc (Nat.le_refl _) _)) (one_ints _ [1, 1, 1] rfl (by decide) 3 rfl) rfl).mono ?_
       rintro e w6 ⟨rfl, hb6⟩
       have hb6' := ((Below.refl _ _).alloc (Nat.le_refl _) _).trans (hb6.mono (by simp))
       have HY6 := Lib.hid (HY4.out.below hb6')
       have HB6 := Lib.hid (HB4.out.trans (hb6'.mono HB4.out.size))
       clear hb6 hb6' tok3 _t)
    | (go_at_call 32
       refine (equal_yes _ _ _ [0, 0, 1] [0, 0, 1] (HY6.out.below ((Below.refl _ _).alloc (Nat.le_refl _) _)) (one_ints _ [0, 0, 1] rfl (by decide) 3 rfl) rfl).mono ?_
       rintro e w7 ⟨rfl, hb7⟩
       have hb7' := ((Below.refl _ _).alloc (Nat.le_refl _) _).trans (hb7.mono (by simp))
       have HB7 := Lib.hid (HB6.out.trans (hb7'.mono HB6.out.size))
       clear hb7 hb7'))
  go_ret
  exact ⟨rfl, HB7.out⟩
end Go.Proofs
namespace Go.Proofs.Pc
/-- the inverse of the word of y, the first t letters' blocks from behind -/
def backTo (y : V) (n t : Nat) : List Int := foldTo (fun t w => w ++ List.replicate (y.getD (n - 1 - t) 0).toNat (-((n - 1 - t : Nat) : Int) - 1)) t []
def back (y : V) (n : Nat) : List Int := backTo y n n
def relW (P : PcD) (i : Nat) : List Int := List.replicate (P.ord i).toNat ((i : Int) + 1) ++ back (P.pow i) P.n
def relC (P : PcD) (j i : Nat) : List Int := [-(i : Int) - 1, (j : Int) + 1, (i : Int) + 1] ++ back (P.cj j i) P.n
def relsI (P : PcD) (m : Nat) : List (List Int) := foldTo (fun i l => l ++ [relW P i]) m []
def relsJ (P : PcD) (j m : Nat) : List (List Int) := foldTo (fun i l => l ++ [relC P j i]) m []
def relsC (P : PcD) (m : Nat) : List (List Int) := foldTo (fun j l => l ++ relsJ P j j) m []
def rels (P : PcD) : List (List Int) := relsI P P.n ++ relsC P P.n
def tot : List (List Int) → Int
  | [] => 0
  | x :: l => (x.length : Int) + tot l
theorem tot_app (a b : List (List Int)) : tot (a ++ b) = tot a + tot b := by
  induction a with
  | nil => simp [tot]
  | cons x l ih => simp only [List.cons_append, tot, ih]; omega
theorem tot_snoc (a : List (List Int)) (x : List Int) : tot (a ++ [x]) = tot a + (x.length : Int) := by rw [tot_app]; simp [tot]
theorem tot_nonneg : ∀ l : List (List Int), 0 ≤ tot l
  | [] => Int.le_refl _
  | x :: l => by have := tot_nonneg l; simp only [tot]; omega
theorem backTo_len (y : V) (n : Nat) (hy : ∀ k, k < n → 0 ≤ y.getD k 0 ∧ y.getD k 0 ≤ 1000) : ∀ t, t ≤ n → (backTo y n t).length ≤ 1000 * t
  | 0, _ => Nat.zero_le _
  | t + 1, ht => by
    show (backTo y n t ++ List.replicate (y.getD (n - 1 - t) 0).toNat _).length ≤ _
    rw [List.length_append, List.length_replicate]
    have h1 := backTo_len y n hy t (by omega)
    have h2 := hy (n - 1 - t) (by omega)
    omega
end Go.Proofs.Pc
namespace Go.Proofs
open Go.RowKit Go.Proofs.Pc
set_option maxRecDepth 100000 in
set_option maxHeartbeats 400000 in
theorem equal17_any (w : World) (va vb : Value) (x y : List Int) (ha : IntsAt w va x) (hb : IntsAt w vb y) :
    Calls Try.prog 70 #[va, vb] w fun e w' => e = .returned (.bool (decide (x = y))) ∧ ∃ q, w' = w.drewN q := by
  obtain ⟨A3, c3, rfl, hd1, hd2, hd⟩ := ha.open_
  obtain ⟨A4, c4, rfl, he1, he2, he⟩ := hb.open_
  have HD := Lib.hid hd
  have HE := Lib.hid he
  clear hd he ha hb
  by_cases hxy : x.length = y.length
  · have d3 : ((x.length : Int) != (y.length : Int)) = false := by simp; omega
    have d4 : (x.length != y.length) = false := by simp; omega
    have HX := Lib.hid hxy
    clear hxy
    go_enter Try.func70, Try.ntmps70
    go_wp2_with fail
    go_loopw [5] (fun i wr => ∃ j : Nat, j ≤ x.length ∧ i = .int .i64 j ∧ (∀ t, t < j → x.getD t 0 = y.getD t 0) ∧ ∃ q, wr = w.drewN q) (fun i _ => x.length - (intOf i).toNat)
    case atStart => exact ⟨0, Nat.zero_le _, rfl, fun j hj => absurd hj (by omega), 0, rfl⟩
    case round =>
      obtain ⟨j, hj, rfl, hzj, qj, rfl⟩ := hrel
      have HZJ := Lib.hid hzj
      clear hzj
      by_cases hjl : j < x.length
      · obtain ⟨b3, o3, rfl, hx⟩ := HD.out (by omega)
        obtain ⟨b4, o4, rfl, hy⟩ := HE.out (by rw [← HX.out]; omega)
        have hx1 := hx j hjl
        have hy1 := hy j (by rw [← HX.out]; omega)
        have hj0 : (0 : Int) ≤ (j : Int) := Int.natCast_nonneg _
        have hjb : (j : Int) < (y.length : Int) := by rw [← HX.out]; omega
        have hja : (j : Int) < (x.length : Int) := by omega
        have HM := Lib.hid (fun h => getD_ne (A := x) (B := y) (d := 0) (k := j) h)
        clear hx hy
        generalize hse : x.getD j 0 = s at *
        generalize hte : y.getD j 0 = t at *
        have HSE := Lib.hid hse
        have HTE := Lib.hid hte
        clear hse hte
        by_cases hst : s = t
        · have d5 : (s != t) = false := by simpa using hst
          have HS := Lib.hid hst
          clear hst
          go_wp2_with fail
          go_quiet (fail)
          go_wp2_with fail
          go_roundw
          case rel => exact ⟨j + 1, by omega, by go_num, all_succ HZJ.out (by rw [HSE.out, HTE.out]; exact HS.out), (by first | exact ⟨_, rfl⟩ | exact ex_drewN)⟩
          case measure => simp [intOf]; omega
        · have d5 : (s != t) = true := by simpa using hst
          have HS := Lib.hid hst
          clear hst
          go_wp2_with fail
          go_quiet (fail)
          go_wp2_with fail
          go_ret
          exact ⟨ret_bool (by simpa using HM.out HS.out), (by first | exact ⟨_, rfl⟩ | exact ex_drewN)⟩
      · obtain rfl : j = x.length := by omega
        go_wp2_with fail
        go_ret
        exact ⟨ret_bool (by simpa using getD_ext HX.out HZJ.out), (by first | exact ⟨_, rfl⟩ | exact ex_drewN)⟩
  · have d3 : ((x.length : Int) != (y.length : Int)) = true := by simp; omega
    have d4 : (x.length != y.length) = true := by simp; omega
    have HX := Lib.hid hxy
    clear hxy
    go_enter Try.func70, Try.ntmps70
    go_wp2_with fail
    go_ret
    exact ⟨ret_bool (by simpa using fun e => HX.out (by rw [e])), 0, rfl⟩
theorem equal17_left {w : World} {va vb : Value} {A B : List Int} {b : Bool} (a n : Nat) (ha : IntsAt w va A) (hb : IntsAt w vb B) (h : decide (A = B) = b) :
    Calls Try.prog 70 #[va, vb] (w.drewN (a + n)) fun e w'' => e = .returned (.bool b) ∧ ∃ m, w'' = w.drewN (a + m) :=
  (equal17_any (w.drewN (a + n)) va vb A B (ha.drewN _) (hb.drewN _)).mono fun _ _ ⟨he, q, hq⟩ => ⟨by rw [he, h], n + q, by rw [hq, World.drewN_drewN, Nat.add_assoc]⟩
set_option maxRecDepth 100000 in
set_option maxHeartbeats 1000000 in
theorem same17_any (w : World) (g h : Int) (va vb : Value) (A B : List (List Int)) (ha : Tab w va A) (hb : Tab w vb B) (hg : g = h) :
    Calls Try.prog 28 #[.agg #[.int .i64 g, va], .agg #[.int .i64 h, vb]] w fun e w' => e = .returned (.bool (decide (A = B))) ∧ Below w.heap.size w w' := by
  subst hg
  obtain ⟨A0, ca, rfl, ha1, ha2, ha3⟩ := ha.open_
  obtain ⟨B0, cb, rfl, hb1, hb2, hb3⟩ := hb.open_
  have HA := Lib.hid ha3
  have HB := Lib.hid hb3
  have hc := allocs_get [Obj.cells #[Value.int .i64 g, .slice A0 A.length ca] 46, Obj.cells #[Value.int .i64 g, .slice B0 B.length cb] 46] w
  have hbw := allocs_below [Obj.cells #[Value.int .i64 g, .slice A0 A.length ca] 46, Obj.cells #[Value.int .i64 g, .slice B0 B.length cb] 46] w _ (Nat.le_refl _)
  have c1 : ((w.alloc (.cells #[.int .i64 g, .slice A0 A.length ca] 46)).alloc (.cells #[.int .i64 g, .slice B0 B.length cb] 46)).cell? ⟨w.heap.size, 1, none⟩ = some (.slice A0 A.length ca) := (cell_of_row _ _ 1 _ _ _ (hc 0 _ rfl)).trans rfl
  have c2 : ((w.alloc (.cells #[.int .i64 g, .slice A0 A.length ca] 46)).alloc (.cells #[.int .i64 g, .slice B0 B.length cb] 46)).cell? ⟨w.heap.size + 1, 1, none⟩ = some (.slice B0 B.length cb) := (cell_of_row _ _ 1 _ _ _ (hc 1 _ rfl)).trans rfl
  have HBW : Hid (Below w.heap.size w ((w.alloc (.cells #[.int .i64 g, .slice A0 A.length ca] 46)).alloc (.cells #[.int .i64 g, .slice B0 B.length cb] 46))) := Lib.hid hbw
  clear ha hb ha3 hb3 hc hbw
  have d0 : (g != g) = false := by simp
  by_cases hl : A.length = B.length
  · have d1 : ((A.length : Int) != (B.length : Int)) = false := by simp; omega
    have d2 : (A.length != B.length) = false := by simp; omega
    have HL := Lib.hid hl
    clear hl
    go_enter Try.func28, Try.ntmps28
    go_wp2_with fail
    generalize (w.alloc (.cells #[.int .i64 g, .slice A0 A.length ca] 46)).alloc (.cells #[.int .i64 g, .slice B0 B.length cb] 46) = W at *
    go_loopw [5] (fun i wr => ∃ k : Nat, k ≤ A.length ∧ i = .int .i64 k ∧ (∀ j, j < k → A.getD j [] = B.getD j []) ∧ ∃ q, wr = W.drewN q) (fun i _ => A.length - (intOf i).toNat)
    case atStart => exact ⟨0, Nat.zero_le _, rfl, fun j hj => absurd hj (by omega), 0, rfl⟩
    case round =>
      obtain ⟨k, hk, rfl, hz, q, rfl⟩ := hrel
      have HZ := Lib.hid hz
      clear hz
      by_cases hlt : k < A.length
      · obtain ⟨b1, o1, rfl, hc1⟩ := HA.out (by omega)
        obtain ⟨b2, o2, rfl, hc2⟩ := HB.out (by rw [← HL.out]; omega)
        obtain ⟨u1, hu1, hr1⟩ := hc1 k hlt
        obtain ⟨u2, hu2, hr2⟩ := hc2 k (by rw [← HL.out]; omega)
        have hv1 := (KC.of_below HBW.out).cell hu1
        have hv2 := (KC.of_below HBW.out).cell hu2
        have HR1 := Lib.hid (hr1.below HBW.out)
        have HR2 := Lib.hid (hr2.below HBW.out)
        have hk0 : (0 : Int) ≤ (k : Int) := Int.natCast_nonneg _
        have hkb : (k : Int) < (B.length : Int) := by rw [← HL.out]; omega
        have hka : (k : Int) < (A.length : Int) := by omega
        have HN := Lib.hid (fun h => getD_ne (A := A) (B := B) (d := []) (k := k) h)
        clear hc1 hc2 hu1 hu2 hr1 hr2
        generalize hxe : A.getD k [] = x at *
        generalize hye : B.getD k [] = y at *
        have HXE := Lib.hid hxe
        have HYE := Lib.hid hye
        clear hxe hye
        by_cases hxy : x = y
        · have HX := Lib.hid hxy
          clear hxy
          go_wp2_with fail
          go_quiet ((go_at_call 70; exact equal17_left (b := true) _ _ HR1.out HR2.out (by simp [HX.out])))
          go_wp2_with fail
          go_roundw
          case rel => exact ⟨k + 1, by omega, by go_num, all_succ HZ.out (by rw [HXE.out, HYE.out]; exact HX.out), by first | exact ⟨_, rfl⟩ | exact ex_drewN⟩
          case measure => simp [intOf]; omega
        · have HX := Lib.hid hxy
          clear hxy
          go_wp2_with fail
          go_quiet ((go_at_call 70; exact equal17_left (b := false) _ _ HR1.out HR2.out (by simp [HX.out])))
          go_wp2_with fail
          go_ret
          exact ⟨ret_bool (by simpa using HN.out HX.out), by first | exact below_drewN HBW.out _ | exact below_drewN (below_drewN HBW.out _) _⟩
      · obtain rfl : k = A.length := by omega
        go_wp2_with fail
        go_ret
        exact ⟨ret_bool (by simpa using getD_ext HL.out HZ.out), below_drewN HBW.out _⟩
  · have d1 : ((A.length : Int) != (B.length : Int)) = true := by simp; omega
    have d2 : (A.length != B.length) = true := by simp; omega
    have HL := Lib.hid hl
    clear hl
    go_enter Try.func28, Try.ntmps28
    go_wp2_with fail
    go_ret
    exact ⟨ret_bool (by simpa using fun e => HL.out (by rw [e])), HBW.out⟩
end Go.Proofs
namespace Go.Proofs
open Go.RowKit Go.Proofs.Pc
theorem made3 (n : Nat) : madeCells (Value.int .i64 0).cells n = Array.replicate n (.int .i64 0) := by
  apply Array.ext_getElem?
  intro k
  simp only [madeCells, Value.cells, Array.getElem?_map, Array.getElem?_range, Array.getElem?_replicate]
  by_cases h : k < n
  · simp [h, Nat.mod_one]
  · simp [h]
/-- v reads as x, in a block b of the call's own, from n₀ on -/
def XsOut (n₀ : Nat) (P : PcD) (w : World) (x : List Int) (v : Value) (w' : World) : Prop := ∃ b cap, v = .slice (some ⟨b, 0, none⟩) P.n cap ∧ XsAt w' b x ∧ n₀ ≤ b ∧ P.n ≤ cap ∧ cap ≤ 9223372036854775807 ∧ Below w.heap.size w w'
theorem XsOut.ints {n₀ : Nat} {P : PcD} {w w' : World} {x : List Int} {v : Value} (h : XsOut n₀ P w x v w') (hv : Valid P) (hx : NV P x) : IntsAt w' v x := by
  obtain ⟨b, cap, rfl, h1, -, h2, h3, -⟩ := h
  exact h1.ints hx.1 h2 h3 (Pc.NV.fits hv hx)
end Go.Proofs
