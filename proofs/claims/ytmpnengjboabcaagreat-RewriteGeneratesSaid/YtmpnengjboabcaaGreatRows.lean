/-
  No cell of these rows narrows 'for every input' (looked for: loops, veiled, ifaces, maps, wideKeys, modest, calm, conditions, laid).
  DERIVED. THE GIVEN ROWS OF THIS SEAT. 2 by the template 'for every input the law returns true; each argument reads behind the call as it read before'; 0 by the template 'total and deterministic' (their statements: YtmpnengjboabcaaGreatTotals.lean).
  GIVEN WITH THE SEED: the statements are not yours to turn. If you find one false, say at which input.
  Laid BY PROGRAM, IN A SANDBOX (cutbox-rows.mjs): the forced cells as the released guide's own fill.sh prints them over the translation 3c5e64696cf10aa5… (all of the seat's roots in one cut). By AI agents, Wed Nov 11 2026. No macro, syntax, notation, axiom, sorry.
-/
import Derived.Test.YtmpnengjboabcaaGreatChecked
import GoSem.Claim
import GoSem.ClaimJoined
import GoSem.ClaimMapViews
import Derived.JoinedTies
import Derived.KernelRfl
namespace Go.Proofs.YtmpnengjboabcaaGreat
/- THE CELL 'sum', in the pinned program and in every row, IS THE sha256 OF THE DUMP (.gsa) THAT YtmpnengjboabcaaGreatProg.lean LOADS. Nothing in Lean hashes anything: it is a label: what it is worth is what the hold of that sum in a sandbox is worth. -/
noncomputable def Tryz.pinned : Pinned := { name := "ytmpnengjboabcaagreat", sum := "3c5e64696cf10aa598db30865d204e52d7b06f1c65b927ecf8d069384e8de6bd", checked := Tryz.checked }
namespace Rows
def none {H : Type} : Left H := { results := [], args := [] }

/-- 'cayleylaw21.RewriteGenerates': WHATEVER THE INPUT: true; the input reads as it did. -/
def rewriteGeneratesSpec : ChangeSpec := { name := "rewriteGenerates", fn := fun _ => fun
  | [d1, d2, d3] => { results := [.lit (.bool true)], args := [d1, d2, d3] }
  | _ => none }
def rewriteGeneratesRow : OpenClaim := { program := "ytmpnengjboabcaagreat", sum := "3c5e64696cf10aa598db30865d204e52d7b06f1c65b927ecf8d069384e8de6bd", func := "cayley/cayleylaw21.RewriteGenerates", spec := "rewriteGenerates", unfollowed := true, recurses := true, plainKeys := false, apart := false }
def RewriteGeneratesSaid : Prop := rewriteGeneratesRow.holds Tryz.pinned (OpenSpec.ofChange rewriteGeneratesSpec)

/-- ITS FALSE NEIGHBOUR: 'it returns false'. Refute it at one input. -/
def rewriteGeneratesWrong : ChangeSpec := { name := "rewriteGenerates", fn := fun _ => fun
  | [d1, d2, d3] => { results := [.lit (.bool false)], args := [d1, d2, d3] }
  | _ => none }
def RewriteGeneratesWrongFalsely : Prop := rewriteGeneratesRow.holds Tryz.pinned (OpenSpec.ofChange rewriteGeneratesWrong)

/-- 'cayleylaw21.RewriteOrders': WHATEVER THE INPUT: true; the input reads as it did. -/
def rewriteOrdersSpec : ChangeSpec := { name := "rewriteOrders", fn := fun _ => fun
  | [d1, d2] => { results := [.lit (.bool true)], args := [d1, d2] }
  | _ => none }
def rewriteOrdersRow : OpenClaim := { program := "ytmpnengjboabcaagreat", sum := "3c5e64696cf10aa598db30865d204e52d7b06f1c65b927ecf8d069384e8de6bd", func := "cayley/cayleylaw21.RewriteOrders", spec := "rewriteOrders", unfollowed := true, recurses := true, plainKeys := false, apart := false }
def RewriteOrdersSaid : Prop := rewriteOrdersRow.holds Tryz.pinned (OpenSpec.ofChange rewriteOrdersSpec)

/-- ITS FALSE NEIGHBOUR: 'it returns false'. Refute it at one input. -/
def rewriteOrdersWrong : ChangeSpec := { name := "rewriteOrders", fn := fun _ => fun
  | [d1, d2] => { results := [.lit (.bool false)], args := [d1, d2] }
  | _ => none }
def RewriteOrdersWrongFalsely : Prop := rewriteOrdersRow.holds Tryz.pinned (OpenSpec.ofChange rewriteOrdersWrong)

/- THE SECOND FORM. 'bulk': how many values and letters a reading holds, each counted each time it is reached (what is shared counts as often as it is met; a slice's spare places count too). A statement '..UptoSaid' is the law's where the arguments, and the package variables that the reading takes, are together of bulk at most 1048576: NARROWER than '..Said'. Prove '..Said' where nothing that the law and all that it calls make is longer than what came in: it says more and counts as full. Else prove '..UptoSaid'. A law counts once. -/
mutual
def uptoBulk {H : Type} : DataW H → Nat
  | .lit (.string bytes) => bytes.length + 1
  | .lit _ => 1
  | .nil => 1
  | .ptr d => uptoBulk d + 1
  | .slice elems spare => uptoBulkAll elems + uptoBulkAll spare + 1
  | .agg parts => uptoBulkAll parts + 1
  | .iface _ d => uptoBulk d + 1
  | .map entries => uptoBulkEntries entries + 1
  | .held _ => 1
def uptoBulkAll {H : Type} : List (DataW H) → Nat
  | [] => 0
  | d :: r => uptoBulk d + uptoBulkAll r
def uptoBulkEntries {H : Type} : List (Lit × DataW H) → Nat
  | [] => 0
  | x :: r => uptoBulkEntry x + uptoBulkEntries r
def uptoBulkEntry {H : Type} : Lit × DataW H → Nat
  | (.string bytes, d) => bytes.length + uptoBulk d + 1
  | (_, d) => uptoBulk d + 1
 end
def uptoSmall : (H : Type) → List (DataW H) → Bool := fun _ ds => decide (uptoBulkAll ds ≤ 1048576)
def OpenSpec.upto (s : _root_.Go.ChangeSpec) : _root_.Go.OpenSpec := { _root_.Go.OpenSpec.ofChange s with cond := some uptoSmall }

/-- 'cayleylaw21.RewriteGenerates', WHERE WHAT IT READS IS OF BULK AT MOST 1048576: true; the input reads as it did. -/
def rewriteGeneratesUptoRow : OpenClaim := { program := "ytmpnengjboabcaagreat", sum := "3c5e64696cf10aa598db30865d204e52d7b06f1c65b927ecf8d069384e8de6bd", func := "cayley/cayleylaw21.RewriteGenerates", spec := "rewriteGenerates", unfollowed := true, recurses := true, plainKeys := false, apart := false, narrowed := true }
def RewriteGeneratesUptoSaid : Prop := rewriteGeneratesUptoRow.holds Tryz.pinned (OpenSpec.upto rewriteGeneratesSpec)

/-- 'cayleylaw21.RewriteOrders', WHERE WHAT IT READS IS OF BULK AT MOST 1048576: true; the input reads as it did. -/
def rewriteOrdersUptoRow : OpenClaim := { program := "ytmpnengjboabcaagreat", sum := "3c5e64696cf10aa598db30865d204e52d7b06f1c65b927ecf8d069384e8de6bd", func := "cayley/cayleylaw21.RewriteOrders", spec := "rewriteOrders", unfollowed := true, recurses := true, plainKeys := false, apart := false, narrowed := true }
def RewriteOrdersUptoSaid : Prop := rewriteOrdersUptoRow.holds Tryz.pinned (OpenSpec.upto rewriteOrdersSpec)

end Rows
end Go.Proofs.YtmpnengjboabcaaGreat
