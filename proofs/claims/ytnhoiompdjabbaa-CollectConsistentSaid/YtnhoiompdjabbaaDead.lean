/- valid and the methods of a nil or a zero group. -/
import Derived.Test.YtnhoiompdjabbaaCs
namespace Go.Proofs
open Go.RowKit Go.Proofs.Pc

/-- The group's pointer: nil, or its first field is nil. -/
def Dead (w : World) (g : Option Addr) : Prop := g = none ∨ ∃ b, g = some ⟨b, 0, none⟩ ∧ w.cell? ⟨b, 0, none⟩ = some (.pointer none)
theorem Dead.below {w w' : World} {g : Option Addr} (h : Dead w g) (hb : Below w.heap.size w w') : Dead w' g := by
  rcases h with rfl | ⟨b, rfl, hc⟩
  · exact .inl rfl
  · exact .inr ⟨b, rfl, (hb.cell (p := ⟨b, 0, none⟩) (World.block_lt_of_cell? w ⟨b, 0, none⟩ hc)).trans hc⟩
/-- The group's pointer: its first field points to br. -/
def Live (w : World) (bg br : Nat) : Prop := w.cell? ⟨bg, 0, none⟩ = some (.pointer (some ⟨br, 0, none⟩))

set_option maxRecDepth 100000 in
theorem valid_dead (w : World) (g : Option Addr) (h : Dead w g) : Calls Try.prog 54 #[.pointer g] w fun e w' => e = .returned (.bool false) ∧ w' = w := by
  rcases h with rfl | ⟨b, rfl, hc⟩
  · go_enter Try.func54, Try.ntmps54
    go_wp2
    exact bodyPost_ret (results_tmp (t := 2) rfl _ _ _) rfl ⟨rfl, rfl⟩
  · go_enter Try.func54, Try.ntmps54
    go_wp2
    exact bodyPost_ret (results_tmp (t := 2) rfl _ _ _) rfl ⟨rfl, rfl⟩
set_option maxRecDepth 100000 in
theorem valid_live (w : World) (bg br : Nat) (h : Live w bg br) : Calls Try.prog 54 #[.pointer (some ⟨bg, 0, none⟩)] w fun e w' => e = .returned (.bool true) ∧ w' = w := by
  unfold Live at h
  go_enter Try.func54, Try.ntmps54
  go_wp2
  exact bodyPost_ret (results_tmp (t := 2) rfl _ _ _) rfl ⟨rfl, rfl⟩

theorem results_cell_tmp {fn : Func} {p q : Tmp} (h : fn.results = #[.cell p 82, .tmp q]) (tmps : Array Value) (w : World) (g : Nat) (xs : List Int) (u : Value)
    (hp : tmps.getD p undef = .pointer (some ⟨g, 0, none⟩)) (hq : tmps.getD q undef = u) (hg : w.heap[g]? = some (.cells (vec xs).toArray 82 (0, 0))) :
    (results fn tmps).run Try.prog w = .ok (.tuple #[.agg (vec xs).toArray, u]) w := by
  have hp' : tmps[p]?.getD undef = .pointer (some ⟨g, 0, none⟩) := by simpa using hp
  have hq' : tmps[q]?.getD undef = u := by simpa using hq
  simp [results, h, hp', hq', asAddr, run_loadVar_row w g 82 82 (vec xs).toArray (0, 0) _ hg Try.underlying82 rfl (by rw [size_vec]; exact info82)]
set_option maxRecDepth 100000 in
theorem take_dead (w : World) (g : Option Addr) (h : Dead w g) (sv : Value) : Calls Try.prog 69 #[.pointer g, sv] w fun e w' => e = .returned (.tuple #[.agg (vec []).toArray, .int .i64 1]) ∧ Below w.heap.size w w' := by
  have hd : Dead (w.alloc (.cells (vec []).toArray 82)) g := h.below ((Below.refl _ _).alloc (Nat.le_refl _) _)
  have hst := @store_vec_same
  go_enter Try.func69, Try.ntmps69
  go_wp2_with (first
    | (go_at_call 54; refine (valid_dead _ g hd).mono ?_; rintro e w' ⟨rfl, rfl⟩)
    | (refine wpList_load_mid rfl 82 (.tmp 4) rfl w.heap.size 0 rfl (vec []) _ (range_new _ _) Try.underlying82 rfl (by rw [length_vec]; exact info82) ?_))
  exact bodyPost_ret (results_cell_tmp rfl _ _ w.heap.size [] (.int .i64 1) rfl rfl (heap_alloc_new w _)) rfl ⟨rfl, (Below.refl _ _).alloc (Nat.le_refl _) _⟩

set_option maxRecDepth 100000 in
theorem mul_dead (w : World) (g : Option Addr) (h : Dead w g) (sv sv2 : Value) : Calls Try.prog 29 #[.pointer g, sv, sv2] w fun e w' => e = .returned (.tuple #[.slice none 0 0, .int .i64 1]) ∧ Below w.heap.size w w' := by
  have hst := @store_vec_new
  go_enter Try.func29, Try.ntmps29
  go_wp2_with (go_at_call 69; refine (take_dead w g h sv).mono ?_; rintro e w' ⟨rfl, hb⟩)
  exact bodyPost_ret (results_tmp2 (t := 6) (u := 7) rfl _ _ _) rfl ⟨rfl, hb.alloc hb.size _⟩
set_option maxRecDepth 100000 in
theorem inv_dead (w : World) (g : Option Addr) (h : Dead w g) (sv : Value) : Calls Try.prog 32 #[.pointer g, sv] w fun e w' => e = .returned (.tuple #[.slice none 0 0, .int .i64 1]) ∧ Below w.heap.size w w' := by
  have hst := @store_vec_new
  go_enter Try.func32, Try.ntmps32
  go_wp2_with (go_at_call 69; refine (take_dead w g h sv).mono ?_; rintro e w' ⟨rfl, hb⟩)
  exact bodyPost_ret (results_tmp2 (t := 4) (u := 5) rfl _ _ _) rfl ⟨rfl, hb.alloc hb.size _⟩
set_option maxRecDepth 100000 in
theorem pow_dead (w : World) (g : Option Addr) (h : Dead w g) (sv nv : Value) : Calls Try.prog 34 #[.pointer g, sv, nv] w fun e w' => e = .returned (.tuple #[.slice none 0 0, .int .i64 1]) ∧ Below w.heap.size w w' := by
  have hst := @store_vec_new
  go_enter Try.func34, Try.ntmps34
  go_wp2_with (go_at_call 69; refine (take_dead w g h sv).mono ?_; rintro e w' ⟨rfl, hb⟩)
  exact bodyPost_ret (results_tmp2 (t := 6) (u := 7) rfl _ _ _) rfl ⟨rfl, hb.alloc hb.size _⟩
set_option maxRecDepth 100000 in
theorem eval_dead (w : World) (g : Option Addr) (h : Dead w g) (sv : Value) : Calls Try.prog 36 #[.pointer g, sv] w fun e w' => e = .returned (.tuple #[.slice none 0 0, .int .i64 1]) ∧ Below w.heap.size w w' := by
  go_enter Try.func36, Try.ntmps36
  go_wp2_with (go_at_call 54; refine (valid_dead w g h).mono ?_; rintro e w' ⟨rfl, rfl⟩)
  exact bodyPost_ret (results_tmp2 (t := 4) (u := 5) rfl _ _ _) rfl ⟨rfl, Below.refl _ _⟩
set_option maxRecDepth 100000 in
theorem element_dead (w : World) (g : Option Addr) (h : Dead w g) (nv : Value) : Calls Try.prog 38 #[.pointer g, nv] w fun e w' => e = .returned (.tuple #[.slice none 0 0, .int .i64 1]) ∧ Below w.heap.size w w' := by
  go_enter Try.func38, Try.ntmps38
  go_wp2_with (go_at_call 54; refine (valid_dead w g h).mono ?_; rintro e w' ⟨rfl, rfl⟩)
  exact bodyPost_ret (results_tmp2 (t := 4) (u := 5) rfl _ _ _) rfl ⟨rfl, Below.refl _ _⟩
set_option maxRecDepth 100000 in
theorem period_dead (w : World) (g : Option Addr) (h : Dead w g) (sv : Value) : Calls Try.prog 40 #[.pointer g, sv] w fun e w' => e = .returned (.tuple #[.int .i64 0, .int .i64 1]) ∧ Below w.heap.size w w' := by
  have hst := @store_vec_new
  go_enter Try.func40, Try.ntmps40
  go_wp2_with (go_at_call 69; refine (take_dead w g h sv).mono ?_; rintro e w' ⟨rfl, hb⟩)
  exact bodyPost_ret (results_tmp2 (t := 4) (u := 5) rfl _ _ _) rfl ⟨rfl, hb.alloc hb.size _⟩
set_option maxRecDepth 100000 in
theorem rank_dead (w : World) (g : Option Addr) (h : Dead w g) (sv : Value) : Calls Try.prog 42 #[.pointer g, sv] w fun e w' => e = .returned (.tuple #[.int .i64 0, .int .i64 1]) ∧ Below w.heap.size w w' := by
  have hst := @store_vec_new
  go_enter Try.func42, Try.ntmps42
  go_wp2_with (go_at_call 69; refine (take_dead w g h sv).mono ?_; rintro e w' ⟨rfl, hb⟩)
  exact bodyPost_ret (results_tmp2 (t := 4) (u := 5) rfl _ _ _) rfl ⟨rfl, hb.alloc hb.size _⟩
set_option maxRecDepth 100000 in
theorem order_dead (w : World) (g : Option Addr) (h : Dead w g) : Calls Try.prog 18 #[.pointer g] w fun e w' => e = .returned (.int .i64 0) ∧ w' = w := by
  go_enter Try.func18, Try.ntmps18
  go_wp2_with (go_at_call 54; refine (valid_dead w g h).mono ?_; rintro e w' ⟨rfl, rfl⟩)
  exact bodyPost_ret (results_tmp (t := 2) rfl _ _ _) rfl ⟨rfl, rfl⟩
set_option maxRecDepth 100000 in
theorem pc_dead (w : World) (g : Option Addr) (h : Dead w g) : Calls Try.prog 21 #[.pointer g] w fun e w' => e = .returned (.agg #[.slice none 0 0, .slice none 0 0, .slice none 0 0]) ∧ Below w.heap.size w w' := by
  have hd : Dead (w.alloc (.cells #[.slice none 0 0, .slice none 0 0, .slice none 0 0] 26)) g := h.below ((Below.refl _ _).alloc (Nat.le_refl _) _)
  go_enter Try.func21, Try.ntmps21
  go_wp2_with (go_at_call 54; refine (valid_dead _ g hd).mono ?_; rintro e w' ⟨rfl, rfl⟩)
  exact bodyPost_ret (results_cell_row (P := Try.prog) (p := 2) rfl _ _ w.heap.size 26 _ (0, 0) _ rfl (heap_alloc_new w _) Try.underlying26 rfl (by kernel_rfl)) rfl ⟨rfl, (Below.refl _ _).alloc (Nat.le_refl _) _⟩
end Go.Proofs
