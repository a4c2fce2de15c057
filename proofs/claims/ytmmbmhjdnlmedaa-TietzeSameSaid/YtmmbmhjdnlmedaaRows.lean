/-
  No cell of these rows narrows 'for every input' (looked for: loops, veiled, ifaces, maps, wideKeys, modest, calm, conditions, laid).
  DERIVED. THE GIVEN ROWS OF THIS SEAT. 2 by the template 'for every input the law returns true; each argument reads behind the call as it read before'; 0 by the template 'total and deterministic' (their statements: YtmmbmhjdnlmedaaTotals.lean).
  GIVEN WITH THE SEED: the statements are not yours to turn. If you find one false, say at which input.
  Laid BY PROGRAM, IN A SANDBOX (cutbox-rows.mjs): the forced cells as the released guide's own fill.sh prints them over the translation 1977a5a822c41047… (all of the seat's roots in one cut). By AI agents, Wed Nov 11 2026. No macro, syntax, notation, axiom, sorry.
-/
import Derived.Test.YtmmbmhjdnlmedaaChecked
import GoSem.Claim
import GoSem.ClaimJoined
import GoSem.ClaimMapViews
import Derived.JoinedTies
import Derived.KernelRfl
namespace Go.Proofs.Ytmmbmhjdnlmedaa
/- THE CELL 'sum', in the pinned program and in every row, IS THE sha256 OF THE DUMP (.gsa) THAT YtmmbmhjdnlmedaaProg.lean LOADS. Nothing in Lean hashes anything: it is a label: what it is worth is what the hold of that sum in a sandbox is worth. -/
noncomputable def Try.pinned : Pinned := { name := "ytmmbmhjdnlmedaa", sum := "1977a5a822c4104733398837d6b73e644afdd34700ffb72a7c69d52a75049689", checked := Try.checked }
namespace Rows
def none {H : Type} : Left H := { results := [], args := [] }

/-- 'cayleylaw22.TietzeKnown': WHATEVER THE INPUT: true; the input reads as it did. -/
def tietzeKnownSpec : ChangeSpec := { name := "tietzeKnown", fn := fun _ => fun
  | [] => { results := [.lit (.bool true)], args := [] }
  | _ => none }
def tietzeKnownRow : OpenClaim := { program := "ytmmbmhjdnlmedaa", sum := "1977a5a822c4104733398837d6b73e644afdd34700ffb72a7c69d52a75049689", func := "cayley/cayleylaw22.TietzeKnown", spec := "tietzeKnown", unfollowed := true, recurses := true, apart := false }
def TietzeKnownSaid : Prop := tietzeKnownRow.holds Try.pinned (OpenSpec.ofChange tietzeKnownSpec)

/-- ITS FALSE NEIGHBOUR: 'it returns false'. Refute it at one input. -/
def tietzeKnownWrong : ChangeSpec := { name := "tietzeKnown", fn := fun _ => fun
  | [] => { results := [.lit (.bool false)], args := [] }
  | _ => none }
def TietzeKnownWrongFalsely : Prop := tietzeKnownRow.holds Try.pinned (OpenSpec.ofChange tietzeKnownWrong)

/-- 'cayleylaw22.TietzeSame': WHATEVER THE INPUT: true; the input reads as it did. -/
def tietzeSameSpec : ChangeSpec := { name := "tietzeSame", fn := fun _ => fun
  | [d1, d2, d3, d4, d5, d6] => { results := [.lit (.bool true)], args := [d1, d2, d3, d4, d5, d6] }
  | _ => none }
def tietzeSameRow : OpenClaim := { program := "ytmmbmhjdnlmedaa", sum := "1977a5a822c4104733398837d6b73e644afdd34700ffb72a7c69d52a75049689", func := "cayley/cayleylaw22.TietzeSame", spec := "tietzeSame", unfollowed := true, recurses := true, apart := false }
def TietzeSameSaid : Prop := tietzeSameRow.holds Try.pinned (OpenSpec.ofChange tietzeSameSpec)

/-- ITS FALSE NEIGHBOUR: 'it returns false'. Refute it at one input. -/
def tietzeSameWrong : ChangeSpec := { name := "tietzeSame", fn := fun _ => fun
  | [d1, d2, d3, d4, d5, d6] => { results := [.lit (.bool false)], args := [d1, d2, d3, d4, d5, d6] }
  | _ => none }
def TietzeSameWrongFalsely : Prop := tietzeSameRow.holds Try.pinned (OpenSpec.ofChange tietzeSameWrong)

/- THE SECOND FORM. 'bulk': how many values and letters a reading holds, each counted each time it is reached (what is shared counts as often as it is met; a slice's spare places count too). A statement '..UptoSaid' is the law's where the arguments, and the package variables that the reading takes, are together of bulk at most 1048576: NARROWER than '..Said'. Prove '..Said' where nothing that the law and all that it calls make is longer than what came in: it says more and counts as full. Else prove '..UptoSaid'. A law counts once. -/
mutual
def uptoBulk {H : Type} : DataW H → Nat
  | .lit (.string bytes) => bytes.length + 1
  | .lit _ => 1
  | .nil => 1
  | .ptr d => uptoBulk d + 1
  | .slice elems spare => uptoBulkAll elems + uptoBulkAll spare + 1
  | .agg parts => uptoBulkAll parts + 1
  | .iface _ d => uptoBulk d + 1
  | .map entries => uptoBulkEntries entries + 1
  | .held _ => 1
def uptoBulkAll {H : Type} : List (DataW H) → Nat
  | [] => 0
  | d :: r => uptoBulk d + uptoBulkAll r
def uptoBulkEntries {H : Type} : List (Lit × DataW H) → Nat
  | [] => 0
  | x :: r => uptoBulkEntry x + uptoBulkEntries r
def uptoBulkEntry {H : Type} : Lit × DataW H → Nat
  | (.string bytes, d) => bytes.length + uptoBulk d + 1
  | (_, d) => uptoBulk d + 1
 end
def uptoSmall : (H : Type) → List (DataW H) → Bool := fun _ ds => decide (uptoBulkAll ds ≤ 1048576)
def OpenSpec.upto (s : _root_.Go.ChangeSpec) : _root_.Go.OpenSpec := { _root_.Go.OpenSpec.ofChange s with cond := some uptoSmall }

/-- 'cayleylaw22.TietzeKnown', WHERE WHAT IT READS IS OF BULK AT MOST 1048576: true; the input reads as it did. -/
def tietzeKnownUptoRow : OpenClaim := { program := "ytmmbmhjdnlmedaa", sum := "1977a5a822c4104733398837d6b73e644afdd34700ffb72a7c69d52a75049689", func := "cayley/cayleylaw22.TietzeKnown", spec := "tietzeKnown", unfollowed := true, recurses := true, apart := false, narrowed := true }
def TietzeKnownUptoSaid : Prop := tietzeKnownUptoRow.holds Try.pinned (OpenSpec.upto tietzeKnownSpec)

/-- 'cayleylaw22.TietzeSame', WHERE WHAT IT READS IS OF BULK AT MOST 1048576: true; the input reads as it did. -/
def tietzeSameUptoRow : OpenClaim := { program := "ytmmbmhjdnlmedaa", sum := "1977a5a822c4104733398837d6b73e644afdd34700ffb72a7c69d52a75049689", func := "cayley/cayleylaw22.TietzeSame", spec := "tietzeSame", unfollowed := true, recurses := true, apart := false, narrowed := true }
def TietzeSameUptoSaid : Prop := tietzeSameUptoRow.holds Try.pinned (OpenSpec.upto tietzeSameSpec)

end Rows
end Go.Proofs.Ytmmbmhjdnlmedaa
