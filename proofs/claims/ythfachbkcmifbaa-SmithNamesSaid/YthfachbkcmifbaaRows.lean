/-
  No cell of these rows narrows 'for every input' (looked for: loops, veiled, ifaces, maps, wideKeys, modest, calm, conditions, laid).
  DERIVED. THE GIVEN ROWS OF THIS SEAT. 6 by the template 'for every input the law returns true; each argument reads behind the call as it read before'; 0 by the template 'total and deterministic' (their statements: YthfachbkcmifbaaTotals.lean).
  GIVEN WITH THE SEED: the statements are not yours to turn. If you find one false, say at which input.
  Laid BY PROGRAM, IN A SANDBOX (cutbox-rows.mjs): the forced cells as the released guide's own fill.sh prints them over the translation 28683aa173e44bfc… (all of the seat's roots in one cut). By AI agents, Wed Nov 11 2026. No macro, syntax, notation, axiom, sorry.
-/
import Derived.Test.YthfachbkcmifbaaChecked
import GoSem.Claim
import GoSem.ClaimJoined
import GoSem.ClaimMapViews
import Derived.JoinedTies
import Derived.KernelRfl
namespace Go.Proofs.Ythfachbkcmifbaa
/- THE CELL 'sum', in the pinned program and in every row, IS THE sha256 OF THE DUMP (.gsa) THAT YthfachbkcmifbaaProg.lean LOADS. Nothing in Lean hashes anything: it is a label: what it is worth is what the hold of that sum in a sandbox is worth. -/
noncomputable def Try.pinned : Pinned := { name := "ythfachbkcmifbaa", sum := "28683aa173e44bfc4c4655d812bc9543837cd0a8d046a7f409a742d76a75eb1a", checked := Try.checked }
namespace Rows
def none {H : Type} : Left H := { results := [], args := [] }

/-- 'cayleylaw23.SmithSteps': WHATEVER THE INPUT: true; the input reads as it did. -/
def smithStepsSpec : ChangeSpec := { name := "smithSteps", fn := fun _ => fun
  | [d1, d2] => { results := [.lit (.bool true)], args := [d1, d2] }
  | _ => none }
def smithStepsRow : OpenClaim := { program := "ythfachbkcmifbaa", sum := "28683aa173e44bfc4c4655d812bc9543837cd0a8d046a7f409a742d76a75eb1a", func := "cayley/cayleylaw23.SmithSteps", spec := "smithSteps", unfollowed := true, recurses := true, apart := false }
def SmithStepsSaid : Prop := smithStepsRow.holds Try.pinned (OpenSpec.ofChange smithStepsSpec)

/-- ITS FALSE NEIGHBOUR: 'it returns false'. Refute it at one input. -/
def smithStepsWrong : ChangeSpec := { name := "smithSteps", fn := fun _ => fun
  | [d1, d2] => { results := [.lit (.bool false)], args := [d1, d2] }
  | _ => none }
def SmithStepsWrongFalsely : Prop := smithStepsRow.holds Try.pinned (OpenSpec.ofChange smithStepsWrong)

/-- 'cayleylaw23.SmithForms': WHATEVER THE INPUT: true; the input reads as it did. -/
def smithFormsSpec : ChangeSpec := { name := "smithForms", fn := fun _ => fun
  | [d1, d2, d3] => { results := [.lit (.bool true)], args := [d1, d2, d3] }
  | _ => none }
def smithFormsRow : OpenClaim := { program := "ythfachbkcmifbaa", sum := "28683aa173e44bfc4c4655d812bc9543837cd0a8d046a7f409a742d76a75eb1a", func := "cayley/cayleylaw23.SmithForms", spec := "smithForms", unfollowed := true, recurses := true, apart := false }
def SmithFormsSaid : Prop := smithFormsRow.holds Try.pinned (OpenSpec.ofChange smithFormsSpec)

/-- ITS FALSE NEIGHBOUR: 'it returns false'. Refute it at one input. -/
def smithFormsWrong : ChangeSpec := { name := "smithForms", fn := fun _ => fun
  | [d1, d2, d3] => { results := [.lit (.bool false)], args := [d1, d2, d3] }
  | _ => none }
def SmithFormsWrongFalsely : Prop := smithFormsRow.holds Try.pinned (OpenSpec.ofChange smithFormsWrong)

/-- 'cayleylaw23.SmithMinors': WHATEVER THE INPUT: true; the input reads as it did. -/
def smithMinorsSpec : ChangeSpec := { name := "smithMinors", fn := fun _ => fun
  | [d1, d2, d3, d4] => { results := [.lit (.bool true)], args := [d1, d2, d3, d4] }
  | _ => none }
def smithMinorsRow : OpenClaim := { program := "ythfachbkcmifbaa", sum := "28683aa173e44bfc4c4655d812bc9543837cd0a8d046a7f409a742d76a75eb1a", func := "cayley/cayleylaw23.SmithMinors", spec := "smithMinors", unfollowed := true, recurses := true, apart := false }
def SmithMinorsSaid : Prop := smithMinorsRow.holds Try.pinned (OpenSpec.ofChange smithMinorsSpec)

/-- ITS FALSE NEIGHBOUR: 'it returns false'. Refute it at one input. -/
def smithMinorsWrong : ChangeSpec := { name := "smithMinors", fn := fun _ => fun
  | [d1, d2, d3, d4] => { results := [.lit (.bool false)], args := [d1, d2, d3, d4] }
  | _ => none }
def SmithMinorsWrongFalsely : Prop := smithMinorsRow.holds Try.pinned (OpenSpec.ofChange smithMinorsWrong)

/-- 'cayleylaw23.SmithOrders': WHATEVER THE INPUT: true; the input reads as it did. -/
def smithOrdersSpec : ChangeSpec := { name := "smithOrders", fn := fun _ => fun
  | [d1, d2] => { results := [.lit (.bool true)], args := [d1, d2] }
  | _ => none }
def smithOrdersRow : OpenClaim := { program := "ythfachbkcmifbaa", sum := "28683aa173e44bfc4c4655d812bc9543837cd0a8d046a7f409a742d76a75eb1a", func := "cayley/cayleylaw23.SmithOrders", spec := "smithOrders", unfollowed := true, recurses := true, apart := false }
def SmithOrdersSaid : Prop := smithOrdersRow.holds Try.pinned (OpenSpec.ofChange smithOrdersSpec)

/-- ITS FALSE NEIGHBOUR: 'it returns false'. Refute it at one input. -/
def smithOrdersWrong : ChangeSpec := { name := "smithOrders", fn := fun _ => fun
  | [d1, d2] => { results := [.lit (.bool false)], args := [d1, d2] }
  | _ => none }
def SmithOrdersWrongFalsely : Prop := smithOrdersRow.holds Try.pinned (OpenSpec.ofChange smithOrdersWrong)

/-- 'cayleylaw23.SmithPowers': WHATEVER THE INPUT: true; the input reads as it did. -/
def smithPowersSpec : ChangeSpec := { name := "smithPowers", fn := fun _ => fun
  | [d1, d2] => { results := [.lit (.bool true)], args := [d1, d2] }
  | _ => none }
def smithPowersRow : OpenClaim := { program := "ythfachbkcmifbaa", sum := "28683aa173e44bfc4c4655d812bc9543837cd0a8d046a7f409a742d76a75eb1a", func := "cayley/cayleylaw23.SmithPowers", spec := "smithPowers", unfollowed := true, recurses := true, apart := false }
def SmithPowersSaid : Prop := smithPowersRow.holds Try.pinned (OpenSpec.ofChange smithPowersSpec)

/-- ITS FALSE NEIGHBOUR: 'it returns false'. Refute it at one input. -/
def smithPowersWrong : ChangeSpec := { name := "smithPowers", fn := fun _ => fun
  | [d1, d2] => { results := [.lit (.bool false)], args := [d1, d2] }
  | _ => none }
def SmithPowersWrongFalsely : Prop := smithPowersRow.holds Try.pinned (OpenSpec.ofChange smithPowersWrong)

/-- 'cayleylaw23.SmithNames': WHATEVER THE INPUT: true; the input reads as it did. -/
def smithNamesSpec : ChangeSpec := { name := "smithNames", fn := fun _ => fun
  | [] => { results := [.lit (.bool true)], args := [] }
  | _ => none }
def smithNamesRow : OpenClaim := { program := "ythfachbkcmifbaa", sum := "28683aa173e44bfc4c4655d812bc9543837cd0a8d046a7f409a742d76a75eb1a", func := "cayley/cayleylaw23.SmithNames", spec := "smithNames", unfollowed := true, recurses := true, apart := false }
def SmithNamesSaid : Prop := smithNamesRow.holds Try.pinned (OpenSpec.ofChange smithNamesSpec)

/-- ITS FALSE NEIGHBOUR: 'it returns false'. Refute it at one input. -/
def smithNamesWrong : ChangeSpec := { name := "smithNames", fn := fun _ => fun
  | [] => { results := [.lit (.bool false)], args := [] }
  | _ => none }
def SmithNamesWrongFalsely : Prop := smithNamesRow.holds Try.pinned (OpenSpec.ofChange smithNamesWrong)

/- THE SECOND FORM. 'bulk': how many values and letters a reading holds, each counted each time it is reached (what is shared counts as often as it is met; a slice's spare places count too). A statement '..UptoSaid' is the law's where the arguments, and the package variables that the reading takes, are together of bulk at most 1048576: NARROWER than '..Said'. Prove '..Said' where nothing that the law and all that it calls make is longer than what came in: it says more and counts as full. Else prove '..UptoSaid'. A law counts once. -/
mutual
def uptoBulk {H : Type} : DataW H → Nat
  | .lit (.string bytes) => bytes.length + 1
  | .lit _ => 1
  | .nil => 1
  | .ptr d => uptoBulk d + 1
  | .slice elems spare => uptoBulkAll elems + uptoBulkAll spare + 1
  | .agg parts => uptoBulkAll parts + 1
  | .iface _ d => uptoBulk d + 1
  | .map entries => uptoBulkEntries entries + 1
  | .held _ => 1
def uptoBulkAll {H : Type} : List (DataW H) → Nat
  | [] => 0
  | d :: r => uptoBulk d + uptoBulkAll r
def uptoBulkEntries {H : Type} : List (Lit × DataW H) → Nat
  | [] => 0
  | x :: r => uptoBulkEntry x + uptoBulkEntries r
def uptoBulkEntry {H : Type} : Lit × DataW H → Nat
  | (.string bytes, d) => bytes.length + uptoBulk d + 1
  | (_, d) => uptoBulk d + 1
 end
def uptoSmall : (H : Type) → List (DataW H) → Bool := fun _ ds => decide (uptoBulkAll ds ≤ 1048576)
def OpenSpec.upto (s : _root_.Go.ChangeSpec) : _root_.Go.OpenSpec := { _root_.Go.OpenSpec.ofChange s with cond := some uptoSmall }

/-- 'cayleylaw23.SmithSteps', WHERE WHAT IT READS IS OF BULK AT MOST 1048576: true; the input reads as it did. -/
def smithStepsUptoRow : OpenClaim := { program := "ythfachbkcmifbaa", sum := "28683aa173e44bfc4c4655d812bc9543837cd0a8d046a7f409a742d76a75eb1a", func := "cayley/cayleylaw23.SmithSteps", spec := "smithSteps", unfollowed := true, recurses := true, apart := false, narrowed := true }
def SmithStepsUptoSaid : Prop := smithStepsUptoRow.holds Try.pinned (OpenSpec.upto smithStepsSpec)

/-- 'cayleylaw23.SmithForms', WHERE WHAT IT READS IS OF BULK AT MOST 1048576: true; the input reads as it did. -/
def smithFormsUptoRow : OpenClaim := { program := "ythfachbkcmifbaa", sum := "28683aa173e44bfc4c4655d812bc9543837cd0a8d046a7f409a742d76a75eb1a", func := "cayley/cayleylaw23.SmithForms", spec := "smithForms", unfollowed := true, recurses := true, apart := false, narrowed := true }
def SmithFormsUptoSaid : Prop := smithFormsUptoRow.holds Try.pinned (OpenSpec.upto smithFormsSpec)

/-- 'cayleylaw23.SmithMinors', WHERE WHAT IT READS IS OF BULK AT MOST 1048576: true; the input reads as it did. -/
def smithMinorsUptoRow : OpenClaim := { program := "ythfachbkcmifbaa", sum := "28683aa173e44bfc4c4655d812bc9543837cd0a8d046a7f409a742d76a75eb1a", func := "cayley/cayleylaw23.SmithMinors", spec := "smithMinors", unfollowed := true, recurses := true, apart := false, narrowed := true }
def SmithMinorsUptoSaid : Prop := smithMinorsUptoRow.holds Try.pinned (OpenSpec.upto smithMinorsSpec)

/-- 'cayleylaw23.SmithOrders', WHERE WHAT IT READS IS OF BULK AT MOST 1048576: true; the input reads as it did. -/
def smithOrdersUptoRow : OpenClaim := { program := "ythfachbkcmifbaa", sum := "28683aa173e44bfc4c4655d812bc9543837cd0a8d046a7f409a742d76a75eb1a", func := "cayley/cayleylaw23.SmithOrders", spec := "smithOrders", unfollowed := true, recurses := true, apart := false, narrowed := true }
def SmithOrdersUptoSaid : Prop := smithOrdersUptoRow.holds Try.pinned (OpenSpec.upto smithOrdersSpec)

/-- 'cayleylaw23.SmithPowers', WHERE WHAT IT READS IS OF BULK AT MOST 1048576: true; the input reads as it did. -/
def smithPowersUptoRow : OpenClaim := { program := "ythfachbkcmifbaa", sum := "28683aa173e44bfc4c4655d812bc9543837cd0a8d046a7f409a742d76a75eb1a", func := "cayley/cayleylaw23.SmithPowers", spec := "smithPowers", unfollowed := true, recurses := true, apart := false, narrowed := true }
def SmithPowersUptoSaid : Prop := smithPowersUptoRow.holds Try.pinned (OpenSpec.upto smithPowersSpec)

/-- 'cayleylaw23.SmithNames', WHERE WHAT IT READS IS OF BULK AT MOST 1048576: true; the input reads as it did. -/
def smithNamesUptoRow : OpenClaim := { program := "ythfachbkcmifbaa", sum := "28683aa173e44bfc4c4655d812bc9543837cd0a8d046a7f409a742d76a75eb1a", func := "cayley/cayleylaw23.SmithNames", spec := "smithNames", unfollowed := true, recurses := true, apart := false, narrowed := true }
def SmithNamesUptoSaid : Prop := smithNamesUptoRow.holds Try.pinned (OpenSpec.upto smithNamesSpec)

end Rows
end Go.Proofs.Ythfachbkcmifbaa
