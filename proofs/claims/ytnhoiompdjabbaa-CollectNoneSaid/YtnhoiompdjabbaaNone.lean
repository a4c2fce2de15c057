/- The walk of CollectNone. -/
import Derived.Test.YtnhoiompdjabbaaAw
namespace Go.Proofs
open Go.RowKit Go.Proofs.Pc

theorem nil_sl {w : World} : Sl w (.slice none 0 0) [] := ⟨none, 0, 0, rfl, rfl, Nat.le_refl _, by simp, fun h => absurd h (by simp)⟩
def emptyD : PcD := ⟨[], [], []⟩
theorem pc_nil {w : World} : PcAt w (.slice none 0 0) (.slice none 0 0) (.slice none 0 0) emptyD :=
  ⟨⟨nil_sl, fun x hx => by cases hx⟩, ⟨[], nil_sl, rfl, fun i hi => absurd hi (by simp [emptyD])⟩, ⟨[], nil_sl, rfl, fun i hi => absurd hi (by simp [emptyD])⟩⟩
theorem same_nil (w : World) : Calls Try.prog 20 #[.agg #[.slice none 0 0, .slice none 0 0, .slice none 0 0], .agg #[.slice none 0 0, .slice none 0 0, .slice none 0 0]] w fun e w' => e = .returned (.bool true) ∧ Below w.heap.size w w' :=
  (same_any w _ _ _ _ _ _ emptyD emptyD pc_nil pc_nil).mono fun e w' ⟨he, hb⟩ => ⟨by rw [he, sameB_iff.2 rfl], hb⟩

/-- block bl holds the two groups -/
structure Alls (w : World) (wr : World) : Prop where
  g0 : wr.cell? ⟨w.heap.size + 1, 0, none⟩ = some (.pointer none)
  g1 : wr.cell? ⟨w.heap.size + 1, 1, none⟩ = some (.pointer (some ⟨w.heap.size, 0, none⟩))
  d1 : wr.cell? ⟨w.heap.size, 0, none⟩ = some (.pointer none)
  below : Below w.heap.size w wr
theorem Alls.step {w wr w' : World} (h : Alls w wr) (hb : Below wr.heap.size wr w') : Alls w w' := by
  have hk : ∀ {p : Addr} {v : Value}, wr.cell? p = some v → w'.cell? p = some v := fun {p v} hc => (hb.cell (World.block_lt_of_cell? wr _ hc)).trans hc
  exact ⟨hk h.g0, hk h.g1, hk h.d1, h.below.trans (hb.mono h.below.size)⟩

set_option maxRecDepth 100000 in
set_option maxHeartbeats 4000000 in
theorem none_walk (w : World) (xv yv nv wv : Value) : Calls Try.prog 6 #[xv, yv, nv, wv] w fun e w' => e = .returned (.bool true) ∧ Below w.heap.size w w' := by
  go_enter Try.func6, Try.ntmps6
  go_wp2_with fail
  go_loopw [10] (fun i wr => ∃ k : Nat, k ≤ 2 ∧ i = .int .i64 k ∧ Alls w wr) (fun i _ => 2 - (intOf i).toNat)
  case atStart =>
    refine ⟨0, by omega, rfl, ?_⟩
    have hc : ∀ i o, [Obj.cells #[Value.pointer none, .slice none 0 0, .slice none 0 0, .slice none 0 0] 64, Obj.cells #[Value.pointer none, .pointer (some ⟨w.heap.size, 0, none⟩)] 32][i]? = some o → _ := allocs_get [Obj.cells #[Value.pointer none, .slice none 0 0, .slice none 0 0, .slice none 0 0] 64, Obj.cells #[Value.pointer none, .pointer (some ⟨w.heap.size, 0, none⟩)] 32] w
    exact ⟨(cell_of_row _ _ 0 _ _ _ (hc 1 _ rfl)).trans rfl, (cell_of_row _ _ 1 _ _ _ (hc 1 _ rfl)).trans rfl, (cell_of_row _ _ 0 _ _ _ (hc 0 _ rfl)).trans rfl, allocs_below [_, _] w _ (Nat.le_refl _)⟩
  case round =>
    obtain ⟨k, hk, rfl, hA⟩ := hrel
    have c0 := hA.g0
    have c1 := hA.g1
    have HA := Lib.hid hA
    clear hA
    have hk2 : k = 0 ∨ k = 1 ∨ k = 2 := by omega
    rcases hk2 with rfl | rfl | rfl
    · go_wp2_with (first
        | (go_at_call 29; (refine (mul_dead _ _ (.inl rfl) _ _).mono ?_); rintro e w' ⟨rfl, hb⟩; have HA := Lib.hid (HA.out.step hb); clear hb)
        | (go_at_call 32; (refine (inv_dead _ _ (.inl rfl) _).mono ?_); rintro e w' ⟨rfl, hb⟩; have HA := Lib.hid (HA.out.step hb); clear hb)
        | (go_at_call 34; (refine (pow_dead _ _ (.inl rfl) _ _).mono ?_); rintro e w' ⟨rfl, hb⟩; have HA := Lib.hid (HA.out.step hb); clear hb)
        | (go_at_call 36; (refine (eval_dead _ _ (.inl rfl) _).mono ?_); rintro e w' ⟨rfl, hb⟩; have HA := Lib.hid (HA.out.step hb); clear hb)
        | (go_at_call 40; (refine (period_dead _ _ (.inl rfl) _).mono ?_); rintro e w' ⟨rfl, hb⟩; have HA := Lib.hid (HA.out.step hb); clear hb)
        | (go_at_call 42; (refine (rank_dead _ _ (.inl rfl) _).mono ?_); rintro e w' ⟨rfl, hb⟩; have HA := Lib.hid (HA.out.step hb); clear hb)
        | (go_at_call 38; (refine (element_dead _ _ (.inl rfl) _).mono ?_); rintro e w' ⟨rfl, hb⟩; have HA := Lib.hid (HA.out.step hb); clear hb)
        | (go_at_call 18; (refine (order_dead _ _ (.inl rfl)).mono ?_); rintro e w' ⟨rfl, rfl⟩)
        | (go_at_call 21; (refine (pc_dead _ _ (.inl rfl)).mono ?_); rintro e w' ⟨rfl, hb⟩; have HA := Lib.hid (HA.out.step hb); clear hb)
        | (go_at_call 20; (refine (same_nil _).mono ?_); rintro e w' ⟨rfl, hb⟩; have HA := Lib.hid (HA.out.step hb); clear hb))
      go_roundw
      case rel => exact ⟨1, by omega, by go_num, HA.out⟩
      case measure => simp [intOf]
    · go_wp2_with (first
        | (go_at_call 29; (refine (mul_dead _ _ (.inr ⟨_, rfl, HA.out.d1⟩) _ _).mono ?_); rintro e w' ⟨rfl, hb⟩; have HA := Lib.hid (HA.out.step hb); clear hb)
        | (go_at_call 32; (refine (inv_dead _ _ (.inr ⟨_, rfl, HA.out.d1⟩) _).mono ?_); rintro e w' ⟨rfl, hb⟩; have HA := Lib.hid (HA.out.step hb); clear hb)
        | (go_at_call 34; (refine (pow_dead _ _ (.inr ⟨_, rfl, HA.out.d1⟩) _ _).mono ?_); rintro e w' ⟨rfl, hb⟩; have HA := Lib.hid (HA.out.step hb); clear hb)
        | (go_at_call 36; (refine (eval_dead _ _ (.inr ⟨_, rfl, HA.out.d1⟩) _).mono ?_); rintro e w' ⟨rfl, hb⟩; have HA := Lib.hid (HA.out.step hb); clear hb)
        | (go_at_call 40; (refine (period_dead _ _ (.inr ⟨_, rfl, HA.out.d1⟩) _).mono ?_); rintro e w' ⟨rfl, hb⟩; have HA := Lib.hid (HA.out.step hb); clear hb)
        | (go_at_call 42; (refine (rank_dead _ _ (.inr ⟨_, rfl, HA.out.d1⟩) _).mono ?_); rintro e w' ⟨rfl, hb⟩; have HA := Lib.hid (HA.out.step hb); clear hb)
        | (go_at_call 38; (refine (element_dead _ _ (.inr ⟨_, rfl, HA.out.d1⟩) _).mono ?_); rintro e w' ⟨rfl, hb⟩; have HA := Lib.hid (HA.out.step hb); clear hb)
        | (go_at_call 18; (refine (order_dead _ _ (.inr ⟨_, rfl, HA.out.d1⟩)).mono ?_); rintro e w' ⟨rfl, rfl⟩)
        | (go_at_call 21; (refine (pc_dead _ _ (.inr ⟨_, rfl, HA.out.d1⟩)).mono ?_); rintro e w' ⟨rfl, hb⟩; have HA := Lib.hid (HA.out.step hb); clear hb)
        | (go_at_call 20; (refine (same_nil _).mono ?_); rintro e w' ⟨rfl, hb⟩; have HA := Lib.hid (HA.out.step hb); clear hb))
      go_roundw
      case rel => exact ⟨2, by omega, by go_num, HA.out⟩
      case measure => simp [intOf]
    · go_wp2_with (go_at_call 13; (refine (awake_any _).mono ?_); rintro e w' ⟨rfl, hb⟩; have HA := Lib.hid (HA.out.step hb); clear hb)
      go_ret
      exact ⟨rfl, HA.out.below⟩
end Go.Proofs
