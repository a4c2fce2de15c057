/-
  No cell of these rows narrows 'for every input' (looked for: loops, veiled, ifaces, maps, wideKeys, modest, calm, conditions, laid).
  DERIVED. THE GIVEN ROWS OF THIS SEAT. 9 by the template 'for every input the law returns true; each argument reads behind the call as it read before'; 0 by the template 'total and deterministic' (their statements: YtffkmchmakfcpaaTotals.lean).
  GIVEN WITH THE SEED: the statements are not yours to turn. If you find one false, say at which input.
  Laid BY PROGRAM, IN A SANDBOX (cutbox-rows.mjs): the forced cells as the released guide's own fill.sh prints them over the translation f4a1a3934581b83d… (all of the seat's roots in one cut). By AI agents, Wed Nov 11 2026. No macro, syntax, notation, axiom, sorry.
-/
import Derived.Test.YtffkmchmakfcpaaChecked
import GoSem.Claim
import GoSem.ClaimJoined
import GoSem.ClaimMapViews
import Derived.JoinedTies
import Derived.KernelRfl
namespace Go.Proofs.Ytffkmchmakfcpaa
/- THE CELL 'sum', in the pinned program and in every row, IS THE sha256 OF THE DUMP (.gsa) THAT YtffkmchmakfcpaaProg.lean LOADS. Nothing in Lean hashes anything: it is a label: what it is worth is what the hold of that sum in a sandbox is worth. -/
noncomputable def Try.pinned : Pinned := { name := "ytffkmchmakfcpaa", sum := "f4a1a3934581b83dae02544d9676fd49150223acea1bc08f372547b756f0bcaf", checked := Try.checked }
namespace Rows
def none {H : Type} : Left H := { results := [], args := [] }

/-- 'cayleylaw24.CollectConsistent': WHATEVER THE INPUT: true; the input reads as it did. -/
def collectConsistentSpec : ChangeSpec := { name := "collectConsistent", fn := fun _ => fun
  | [d] => { results := [.lit (.bool true)], args := [d] }
  | _ => none }
def collectConsistentRow : OpenClaim := { program := "ytffkmchmakfcpaa", sum := "f4a1a3934581b83dae02544d9676fd49150223acea1bc08f372547b756f0bcaf", func := "cayley/cayleylaw24.CollectConsistent", spec := "collectConsistent", unfollowed := true, recurses := true, apart := false }
def CollectConsistentSaid : Prop := collectConsistentRow.holds Try.pinned (OpenSpec.ofChange collectConsistentSpec)

/-- ITS FALSE NEIGHBOUR: 'it returns false'. Refute it at one input. -/
def collectConsistentWrong : ChangeSpec := { name := "collectConsistent", fn := fun _ => fun
  | [d] => { results := [.lit (.bool false)], args := [d] }
  | _ => none }
def CollectConsistentWrongFalsely : Prop := collectConsistentRow.holds Try.pinned (OpenSpec.ofChange collectConsistentWrong)

/-- 'cayleylaw24.CollectChecks': WHATEVER THE INPUT: true; the input reads as it did. -/
def collectChecksSpec : ChangeSpec := { name := "collectChecks", fn := fun _ => fun
  | [d] => { results := [.lit (.bool true)], args := [d] }
  | _ => none }
def collectChecksRow : OpenClaim := { program := "ytffkmchmakfcpaa", sum := "f4a1a3934581b83dae02544d9676fd49150223acea1bc08f372547b756f0bcaf", func := "cayley/cayleylaw24.CollectChecks", spec := "collectChecks", unfollowed := true, recurses := true, apart := false }
def CollectChecksSaid : Prop := collectChecksRow.holds Try.pinned (OpenSpec.ofChange collectChecksSpec)

/-- ITS FALSE NEIGHBOUR: 'it returns false'. Refute it at one input. -/
def collectChecksWrong : ChangeSpec := { name := "collectChecks", fn := fun _ => fun
  | [d] => { results := [.lit (.bool false)], args := [d] }
  | _ => none }
def CollectChecksWrongFalsely : Prop := collectChecksRow.holds Try.pinned (OpenSpec.ofChange collectChecksWrong)

/-- 'cayleylaw24.CollectGroups': WHATEVER THE INPUT: true; the input reads as it did. -/
def collectGroupsSpec : ChangeSpec := { name := "collectGroups", fn := fun _ => fun
  | [d1, d2, d3, d4, d5, d6] => { results := [.lit (.bool true)], args := [d1, d2, d3, d4, d5, d6] }
  | _ => none }
def collectGroupsRow : OpenClaim := { program := "ytffkmchmakfcpaa", sum := "f4a1a3934581b83dae02544d9676fd49150223acea1bc08f372547b756f0bcaf", func := "cayley/cayleylaw24.CollectGroups", spec := "collectGroups", unfollowed := true, recurses := true, apart := false }
def CollectGroupsSaid : Prop := collectGroupsRow.holds Try.pinned (OpenSpec.ofChange collectGroupsSpec)

/-- ITS FALSE NEIGHBOUR: 'it returns false'. Refute it at one input. -/
def collectGroupsWrong : ChangeSpec := { name := "collectGroups", fn := fun _ => fun
  | [d1, d2, d3, d4, d5, d6] => { results := [.lit (.bool false)], args := [d1, d2, d3, d4, d5, d6] }
  | _ => none }
def CollectGroupsWrongFalsely : Prop := collectGroupsRow.holds Try.pinned (OpenSpec.ofChange collectGroupsWrong)

/-- 'cayleylaw24.CollectNone': WHATEVER THE INPUT: true; the input reads as it did. -/
def collectNoneSpec : ChangeSpec := { name := "collectNone", fn := fun _ => fun
  | [d1, d2, d3, d4] => { results := [.lit (.bool true)], args := [d1, d2, d3, d4] }
  | _ => none }
def collectNoneRow : OpenClaim := { program := "ytffkmchmakfcpaa", sum := "f4a1a3934581b83dae02544d9676fd49150223acea1bc08f372547b756f0bcaf", func := "cayley/cayleylaw24.CollectNone", spec := "collectNone", unfollowed := true, recurses := true, apart := false }
def CollectNoneSaid : Prop := collectNoneRow.holds Try.pinned (OpenSpec.ofChange collectNoneSpec)

/-- ITS FALSE NEIGHBOUR: 'it returns false'. Refute it at one input. -/
def collectNoneWrong : ChangeSpec := { name := "collectNone", fn := fun _ => fun
  | [d1, d2, d3, d4] => { results := [.lit (.bool false)], args := [d1, d2, d3, d4] }
  | _ => none }
def CollectNoneWrongFalsely : Prop := collectNoneRow.holds Try.pinned (OpenSpec.ofChange collectNoneWrong)

/-- 'cayleylaw24.CollectKnown': WHATEVER THE INPUT: true; the input reads as it did. -/
def collectKnownSpec : ChangeSpec := { name := "collectKnown", fn := fun _ => fun
  | [] => { results := [.lit (.bool true)], args := [] }
  | _ => none }
def collectKnownRow : OpenClaim := { program := "ytffkmchmakfcpaa", sum := "f4a1a3934581b83dae02544d9676fd49150223acea1bc08f372547b756f0bcaf", func := "cayley/cayleylaw24.CollectKnown", spec := "collectKnown", unfollowed := true, recurses := true, apart := false }
def CollectKnownSaid : Prop := collectKnownRow.holds Try.pinned (OpenSpec.ofChange collectKnownSpec)

/-- ITS FALSE NEIGHBOUR: 'it returns false'. Refute it at one input. -/
def collectKnownWrong : ChangeSpec := { name := "collectKnown", fn := fun _ => fun
  | [] => { results := [.lit (.bool false)], args := [] }
  | _ => none }
def CollectKnownWrongFalsely : Prop := collectKnownRow.holds Try.pinned (OpenSpec.ofChange collectKnownWrong)

/-- 'cayleylaw24.CollectGroup': WHATEVER THE INPUT: true; the input reads as it did. -/
def collectGroupSpec : ChangeSpec := { name := "collectGroup", fn := fun _ => fun
  | [d1, d2, d3, d4, d5] => { results := [.lit (.bool true)], args := [d1, d2, d3, d4, d5] }
  | _ => none }
def collectGroupRow : OpenClaim := { program := "ytffkmchmakfcpaa", sum := "f4a1a3934581b83dae02544d9676fd49150223acea1bc08f372547b756f0bcaf", func := "cayley/cayleylaw24.CollectGroup", spec := "collectGroup", unfollowed := true, recurses := true, apart := false }
def CollectGroupSaid : Prop := collectGroupRow.holds Try.pinned (OpenSpec.ofChange collectGroupSpec)

/-- ITS FALSE NEIGHBOUR: 'it returns false'. Refute it at one input. -/
def collectGroupWrong : ChangeSpec := { name := "collectGroup", fn := fun _ => fun
  | [d1, d2, d3, d4, d5] => { results := [.lit (.bool false)], args := [d1, d2, d3, d4, d5] }
  | _ => none }
def CollectGroupWrongFalsely : Prop := collectGroupRow.holds Try.pinned (OpenSpec.ofChange collectGroupWrong)

/-- 'cayleylaw24.CollectEval': WHATEVER THE INPUT: true; the input reads as it did. -/
def collectEvalSpec : ChangeSpec := { name := "collectEval", fn := fun _ => fun
  | [d1, d2, d3] => { results := [.lit (.bool true)], args := [d1, d2, d3] }
  | _ => none }
def collectEvalRow : OpenClaim := { program := "ytffkmchmakfcpaa", sum := "f4a1a3934581b83dae02544d9676fd49150223acea1bc08f372547b756f0bcaf", func := "cayley/cayleylaw24.CollectEval", spec := "collectEval", unfollowed := true, recurses := true, apart := false }
def CollectEvalSaid : Prop := collectEvalRow.holds Try.pinned (OpenSpec.ofChange collectEvalSpec)

/-- ITS FALSE NEIGHBOUR: 'it returns false'. Refute it at one input. -/
def collectEvalWrong : ChangeSpec := { name := "collectEval", fn := fun _ => fun
  | [d1, d2, d3] => { results := [.lit (.bool false)], args := [d1, d2, d3] }
  | _ => none }
def CollectEvalWrongFalsely : Prop := collectEvalRow.holds Try.pinned (OpenSpec.ofChange collectEvalWrong)

/-- 'cayleylaw24.CollectRanks': WHATEVER THE INPUT: true; the input reads as it did. -/
def collectRanksSpec : ChangeSpec := { name := "collectRanks", fn := fun _ => fun
  | [d1, d2, d3] => { results := [.lit (.bool true)], args := [d1, d2, d3] }
  | _ => none }
def collectRanksRow : OpenClaim := { program := "ytffkmchmakfcpaa", sum := "f4a1a3934581b83dae02544d9676fd49150223acea1bc08f372547b756f0bcaf", func := "cayley/cayleylaw24.CollectRanks", spec := "collectRanks", unfollowed := true, recurses := true, apart := false }
def CollectRanksSaid : Prop := collectRanksRow.holds Try.pinned (OpenSpec.ofChange collectRanksSpec)

/-- ITS FALSE NEIGHBOUR: 'it returns false'. Refute it at one input. -/
def collectRanksWrong : ChangeSpec := { name := "collectRanks", fn := fun _ => fun
  | [d1, d2, d3] => { results := [.lit (.bool false)], args := [d1, d2, d3] }
  | _ => none }
def CollectRanksWrongFalsely : Prop := collectRanksRow.holds Try.pinned (OpenSpec.ofChange collectRanksWrong)

/-- 'cayleylaw24.CollectOrders': WHATEVER THE INPUT: true; the input reads as it did. -/
def collectOrdersSpec : ChangeSpec := { name := "collectOrders", fn := fun _ => fun
  | [d] => { results := [.lit (.bool true)], args := [d] }
  | _ => none }
def collectOrdersRow : OpenClaim := { program := "ytffkmchmakfcpaa", sum := "f4a1a3934581b83dae02544d9676fd49150223acea1bc08f372547b756f0bcaf", func := "cayley/cayleylaw24.CollectOrders", spec := "collectOrders", unfollowed := true, recurses := true, apart := false }
def CollectOrdersSaid : Prop := collectOrdersRow.holds Try.pinned (OpenSpec.ofChange collectOrdersSpec)

/-- ITS FALSE NEIGHBOUR: 'it returns false'. Refute it at one input. -/
def collectOrdersWrong : ChangeSpec := { name := "collectOrders", fn := fun _ => fun
  | [d] => { results := [.lit (.bool false)], args := [d] }
  | _ => none }
def CollectOrdersWrongFalsely : Prop := collectOrdersRow.holds Try.pinned (OpenSpec.ofChange collectOrdersWrong)

/- THE SECOND FORM. 'bulk': how many values and letters a reading holds, each counted each time it is reached (what is shared counts as often as it is met; a slice's spare places count too). A statement '..UptoSaid' is the law's where the arguments, and the package variables that the reading takes, are together of bulk at most 1048576: NARROWER than '..Said'. Prove '..Said' where nothing that the law and all that it calls make is longer than what came in: it says more and counts as full. Else prove '..UptoSaid'. A law counts once. -/
mutual
def uptoBulk {H : Type} : DataW H → Nat
  | .lit (.string bytes) => bytes.length + 1
  | .lit _ => 1
  | .nil => 1
  | .ptr d => uptoBulk d + 1
  | .slice elems spare => uptoBulkAll elems + uptoBulkAll spare + 1
  | .agg parts => uptoBulkAll parts + 1
  | .iface _ d => uptoBulk d + 1
  | .map entries => uptoBulkEntries entries + 1
  | .held _ => 1
def uptoBulkAll {H : Type} : List (DataW H) → Nat
  | [] => 0
  | d :: r => uptoBulk d + uptoBulkAll r
def uptoBulkEntries {H : Type} : List (Lit × DataW H) → Nat
  | [] => 0
  | x :: r => uptoBulkEntry x + uptoBulkEntries r
def uptoBulkEntry {H : Type} : Lit × DataW H → Nat
  | (.string bytes, d) => bytes.length + uptoBulk d + 1
  | (_, d) => uptoBulk d + 1
 end
def uptoSmall : (H : Type) → List (DataW H) → Bool := fun _ ds => decide (uptoBulkAll ds ≤ 1048576)
def OpenSpec.upto (s : _root_.Go.ChangeSpec) : _root_.Go.OpenSpec := { _root_.Go.OpenSpec.ofChange s with cond := some uptoSmall }

/-- 'cayleylaw24.CollectConsistent', WHERE WHAT IT READS IS OF BULK AT MOST 1048576: true; the input reads as it did. -/
def collectConsistentUptoRow : OpenClaim := { program := "ytffkmchmakfcpaa", sum := "f4a1a3934581b83dae02544d9676fd49150223acea1bc08f372547b756f0bcaf", func := "cayley/cayleylaw24.CollectConsistent", spec := "collectConsistent", unfollowed := true, recurses := true, apart := false, narrowed := true }
def CollectConsistentUptoSaid : Prop := collectConsistentUptoRow.holds Try.pinned (OpenSpec.upto collectConsistentSpec)

/-- 'cayleylaw24.CollectChecks', WHERE WHAT IT READS IS OF BULK AT MOST 1048576: true; the input reads as it did. -/
def collectChecksUptoRow : OpenClaim := { program := "ytffkmchmakfcpaa", sum := "f4a1a3934581b83dae02544d9676fd49150223acea1bc08f372547b756f0bcaf", func := "cayley/cayleylaw24.CollectChecks", spec := "collectChecks", unfollowed := true, recurses := true, apart := false, narrowed := true }
def CollectChecksUptoSaid : Prop := collectChecksUptoRow.holds Try.pinned (OpenSpec.upto collectChecksSpec)

/-- 'cayleylaw24.CollectGroups', WHERE WHAT IT READS IS OF BULK AT MOST 1048576: true; the input reads as it did. -/
def collectGroupsUptoRow : OpenClaim := { program := "ytffkmchmakfcpaa", sum := "f4a1a3934581b83dae02544d9676fd49150223acea1bc08f372547b756f0bcaf", func := "cayley/cayleylaw24.CollectGroups", spec := "collectGroups", unfollowed := true, recurses := true, apart := false, narrowed := true }
def CollectGroupsUptoSaid : Prop := collectGroupsUptoRow.holds Try.pinned (OpenSpec.upto collectGroupsSpec)

/-- 'cayleylaw24.CollectNone', WHERE WHAT IT READS IS OF BULK AT MOST 1048576: true; the input reads as it did. -/
def collectNoneUptoRow : OpenClaim := { program := "ytffkmchmakfcpaa", sum := "f4a1a3934581b83dae02544d9676fd49150223acea1bc08f372547b756f0bcaf", func := "cayley/cayleylaw24.CollectNone", spec := "collectNone", unfollowed := true, recurses := true, apart := false, narrowed := true }
def CollectNoneUptoSaid : Prop := collectNoneUptoRow.holds Try.pinned (OpenSpec.upto collectNoneSpec)

/-- 'cayleylaw24.CollectKnown', WHERE WHAT IT READS IS OF BULK AT MOST 1048576: true; the input reads as it did. -/
def collectKnownUptoRow : OpenClaim := { program := "ytffkmchmakfcpaa", sum := "f4a1a3934581b83dae02544d9676fd49150223acea1bc08f372547b756f0bcaf", func := "cayley/cayleylaw24.CollectKnown", spec := "collectKnown", unfollowed := true, recurses := true, apart := false, narrowed := true }
def CollectKnownUptoSaid : Prop := collectKnownUptoRow.holds Try.pinned (OpenSpec.upto collectKnownSpec)

/-- 'cayleylaw24.CollectGroup', WHERE WHAT IT READS IS OF BULK AT MOST 1048576: true; the input reads as it did. -/
def collectGroupUptoRow : OpenClaim := { program := "ytffkmchmakfcpaa", sum := "f4a1a3934581b83dae02544d9676fd49150223acea1bc08f372547b756f0bcaf", func := "cayley/cayleylaw24.CollectGroup", spec := "collectGroup", unfollowed := true, recurses := true, apart := false, narrowed := true }
def CollectGroupUptoSaid : Prop := collectGroupUptoRow.holds Try.pinned (OpenSpec.upto collectGroupSpec)

/-- 'cayleylaw24.CollectEval', WHERE WHAT IT READS IS OF BULK AT MOST 1048576: true; the input reads as it did. -/
def collectEvalUptoRow : OpenClaim := { program := "ytffkmchmakfcpaa", sum := "f4a1a3934581b83dae02544d9676fd49150223acea1bc08f372547b756f0bcaf", func := "cayley/cayleylaw24.CollectEval", spec := "collectEval", unfollowed := true, recurses := true, apart := false, narrowed := true }
def CollectEvalUptoSaid : Prop := collectEvalUptoRow.holds Try.pinned (OpenSpec.upto collectEvalSpec)

/-- 'cayleylaw24.CollectRanks', WHERE WHAT IT READS IS OF BULK AT MOST 1048576: true; the input reads as it did. -/
def collectRanksUptoRow : OpenClaim := { program := "ytffkmchmakfcpaa", sum := "f4a1a3934581b83dae02544d9676fd49150223acea1bc08f372547b756f0bcaf", func := "cayley/cayleylaw24.CollectRanks", spec := "collectRanks", unfollowed := true, recurses := true, apart := false, narrowed := true }
def CollectRanksUptoSaid : Prop := collectRanksUptoRow.holds Try.pinned (OpenSpec.upto collectRanksSpec)

/-- 'cayleylaw24.CollectOrders', WHERE WHAT IT READS IS OF BULK AT MOST 1048576: true; the input reads as it did. -/
def collectOrdersUptoRow : OpenClaim := { program := "ytffkmchmakfcpaa", sum := "f4a1a3934581b83dae02544d9676fd49150223acea1bc08f372547b756f0bcaf", func := "cayley/cayleylaw24.CollectOrders", spec := "collectOrders", unfollowed := true, recurses := true, apart := false, narrowed := true }
def CollectOrdersUptoSaid : Prop := collectOrdersUptoRow.holds Try.pinned (OpenSpec.upto collectOrdersSpec)

end Rows
end Go.Proofs.Ytffkmchmakfcpaa
