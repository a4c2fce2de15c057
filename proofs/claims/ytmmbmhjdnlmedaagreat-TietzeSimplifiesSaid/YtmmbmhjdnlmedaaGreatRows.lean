/-
  No cell of these rows narrows 'for every input' (looked for: loops, veiled, ifaces, maps, wideKeys, modest, calm, conditions, laid).
  DERIVED. THE GIVEN ROWS OF THIS SEAT. 4 by the template 'for every input the law returns true; each argument reads behind the call as it read before'; 0 by the template 'total and deterministic' (their statements: YtmmbmhjdnlmedaaGreatTotals.lean).
  GIVEN WITH THE SEED: the statements are not yours to turn. If you find one false, say at which input.
  Laid BY PROGRAM, IN A SANDBOX (cutbox-rows.mjs): the forced cells as the released guide's own fill.sh prints them over the translation ec6dffcfec72230f… (all of the seat's roots in one cut). By AI agents, Wed Nov 11 2026. No macro, syntax, notation, axiom, sorry.
-/
import Derived.Test.YtmmbmhjdnlmedaaGreatChecked
import GoSem.Claim
import GoSem.ClaimJoined
import GoSem.ClaimMapViews
import Derived.JoinedTies
import Derived.KernelRfl
namespace Go.Proofs.YtmmbmhjdnlmedaaGreat
/- THE CELL 'sum', in the pinned program and in every row, IS THE sha256 OF THE DUMP (.gsa) THAT YtmmbmhjdnlmedaaGreatProg.lean LOADS. Nothing in Lean hashes anything: it is a label: what it is worth is what the hold of that sum in a sandbox is worth. -/
noncomputable def Tryz.pinned : Pinned := { name := "ytmmbmhjdnlmedaagreat", sum := "ec6dffcfec72230f3bb94145d24a6c453bd0787f64e7c78e303d2dc8fe81ae1d", checked := Tryz.checked }
namespace Rows
def none {H : Type} : Left H := { results := [], args := [] }

/-- 'cayleylaw22.TietzeEliminates': WHATEVER THE INPUT: true; the input reads as it did. -/
def tietzeEliminatesSpec : ChangeSpec := { name := "tietzeEliminates", fn := fun _ => fun
  | [d1, d2, d3] => { results := [.lit (.bool true)], args := [d1, d2, d3] }
  | _ => none }
def tietzeEliminatesRow : OpenClaim := { program := "ytmmbmhjdnlmedaagreat", sum := "ec6dffcfec72230f3bb94145d24a6c453bd0787f64e7c78e303d2dc8fe81ae1d", func := "cayley/cayleylaw22.TietzeEliminates", spec := "tietzeEliminates", unfollowed := true, recurses := true, apart := false }
def TietzeEliminatesSaid : Prop := tietzeEliminatesRow.holds Tryz.pinned (OpenSpec.ofChange tietzeEliminatesSpec)

/-- ITS FALSE NEIGHBOUR: 'it returns false'. Refute it at one input. -/
def tietzeEliminatesWrong : ChangeSpec := { name := "tietzeEliminates", fn := fun _ => fun
  | [d1, d2, d3] => { results := [.lit (.bool false)], args := [d1, d2, d3] }
  | _ => none }
def TietzeEliminatesWrongFalsely : Prop := tietzeEliminatesRow.holds Tryz.pinned (OpenSpec.ofChange tietzeEliminatesWrong)

/-- 'cayleylaw22.TietzeLong': WHATEVER THE INPUT: true; the input reads as it did. -/
def tietzeLongSpec : ChangeSpec := { name := "tietzeLong", fn := fun _ => fun
  | [d1, d2] => { results := [.lit (.bool true)], args := [d1, d2] }
  | _ => none }
def tietzeLongRow : OpenClaim := { program := "ytmmbmhjdnlmedaagreat", sum := "ec6dffcfec72230f3bb94145d24a6c453bd0787f64e7c78e303d2dc8fe81ae1d", func := "cayley/cayleylaw22.TietzeLong", spec := "tietzeLong", unfollowed := true, recurses := true, apart := false }
def TietzeLongSaid : Prop := tietzeLongRow.holds Tryz.pinned (OpenSpec.ofChange tietzeLongSpec)

/-- ITS FALSE NEIGHBOUR: 'it returns false'. Refute it at one input. -/
def tietzeLongWrong : ChangeSpec := { name := "tietzeLong", fn := fun _ => fun
  | [d1, d2] => { results := [.lit (.bool false)], args := [d1, d2] }
  | _ => none }
def TietzeLongWrongFalsely : Prop := tietzeLongRow.holds Tryz.pinned (OpenSpec.ofChange tietzeLongWrong)

/-- 'cayleylaw22.TietzeSimplifies': WHATEVER THE INPUT: true; the input reads as it did. -/
def tietzeSimplifiesSpec : ChangeSpec := { name := "tietzeSimplifies", fn := fun _ => fun
  | [d1, d2] => { results := [.lit (.bool true)], args := [d1, d2] }
  | _ => none }
def tietzeSimplifiesRow : OpenClaim := { program := "ytmmbmhjdnlmedaagreat", sum := "ec6dffcfec72230f3bb94145d24a6c453bd0787f64e7c78e303d2dc8fe81ae1d", func := "cayley/cayleylaw22.TietzeSimplifies", spec := "tietzeSimplifies", unfollowed := true, recurses := true, apart := false }
def TietzeSimplifiesSaid : Prop := tietzeSimplifiesRow.holds Tryz.pinned (OpenSpec.ofChange tietzeSimplifiesSpec)

/-- ITS FALSE NEIGHBOUR: 'it returns false'. Refute it at one input. -/
def tietzeSimplifiesWrong : ChangeSpec := { name := "tietzeSimplifies", fn := fun _ => fun
  | [d1, d2] => { results := [.lit (.bool false)], args := [d1, d2] }
  | _ => none }
def TietzeSimplifiesWrongFalsely : Prop := tietzeSimplifiesRow.holds Tryz.pinned (OpenSpec.ofChange tietzeSimplifiesWrong)

/-- 'cayleylaw22.TietzeOrders': WHATEVER THE INPUT: true; the input reads as it did. -/
def tietzeOrdersSpec : ChangeSpec := { name := "tietzeOrders", fn := fun _ => fun
  | [d1, d2, d3, d4] => { results := [.lit (.bool true)], args := [d1, d2, d3, d4] }
  | _ => none }
def tietzeOrdersRow : OpenClaim := { program := "ytmmbmhjdnlmedaagreat", sum := "ec6dffcfec72230f3bb94145d24a6c453bd0787f64e7c78e303d2dc8fe81ae1d", func := "cayley/cayleylaw22.TietzeOrders", spec := "tietzeOrders", unfollowed := true, recurses := true, apart := false }
def TietzeOrdersSaid : Prop := tietzeOrdersRow.holds Tryz.pinned (OpenSpec.ofChange tietzeOrdersSpec)

/-- ITS FALSE NEIGHBOUR: 'it returns false'. Refute it at one input. -/
def tietzeOrdersWrong : ChangeSpec := { name := "tietzeOrders", fn := fun _ => fun
  | [d1, d2, d3, d4] => { results := [.lit (.bool false)], args := [d1, d2, d3, d4] }
  | _ => none }
def TietzeOrdersWrongFalsely : Prop := tietzeOrdersRow.holds Tryz.pinned (OpenSpec.ofChange tietzeOrdersWrong)

/- THE SECOND FORM. 'bulk': how many values and letters a reading holds, each counted each time it is reached (what is shared counts as often as it is met; a slice's spare places count too). A statement '..UptoSaid' is the law's where the arguments, and the package variables that the reading takes, are together of bulk at most 1048576: NARROWER than '..Said'. Prove '..Said' where nothing that the law and all that it calls make is longer than what came in: it says more and counts as full. Else prove '..UptoSaid'. A law counts once. -/
mutual
def uptoBulk {H : Type} : DataW H → Nat
  | .lit (.string bytes) => bytes.length + 1
  | .lit _ => 1
  | .nil => 1
  | .ptr d => uptoBulk d + 1
  | .slice elems spare => uptoBulkAll elems + uptoBulkAll spare + 1
  | .agg parts => uptoBulkAll parts + 1
  | .iface _ d => uptoBulk d + 1
  | .map entries => uptoBulkEntries entries + 1
  | .held _ => 1
def uptoBulkAll {H : Type} : List (DataW H) → Nat
  | [] => 0
  | d :: r => uptoBulk d + uptoBulkAll r
def uptoBulkEntries {H : Type} : List (Lit × DataW H) → Nat
  | [] => 0
  | x :: r => uptoBulkEntry x + uptoBulkEntries r
def uptoBulkEntry {H : Type} : Lit × DataW H → Nat
  | (.string bytes, d) => bytes.length + uptoBulk d + 1
  | (_, d) => uptoBulk d + 1
 end
def uptoSmall : (H : Type) → List (DataW H) → Bool := fun _ ds => decide (uptoBulkAll ds ≤ 1048576)
def OpenSpec.upto (s : _root_.Go.ChangeSpec) : _root_.Go.OpenSpec := { _root_.Go.OpenSpec.ofChange s with cond := some uptoSmall }

/-- 'cayleylaw22.TietzeEliminates', WHERE WHAT IT READS IS OF BULK AT MOST 1048576: true; the input reads as it did. -/
def tietzeEliminatesUptoRow : OpenClaim := { program := "ytmmbmhjdnlmedaagreat", sum := "ec6dffcfec72230f3bb94145d24a6c453bd0787f64e7c78e303d2dc8fe81ae1d", func := "cayley/cayleylaw22.TietzeEliminates", spec := "tietzeEliminates", unfollowed := true, recurses := true, apart := false, narrowed := true }
def TietzeEliminatesUptoSaid : Prop := tietzeEliminatesUptoRow.holds Tryz.pinned (OpenSpec.upto tietzeEliminatesSpec)

/-- 'cayleylaw22.TietzeLong', WHERE WHAT IT READS IS OF BULK AT MOST 1048576: true; the input reads as it did. -/
def tietzeLongUptoRow : OpenClaim := { program := "ytmmbmhjdnlmedaagreat", sum := "ec6dffcfec72230f3bb94145d24a6c453bd0787f64e7c78e303d2dc8fe81ae1d", func := "cayley/cayleylaw22.TietzeLong", spec := "tietzeLong", unfollowed := true, recurses := true, apart := false, narrowed := true }
def TietzeLongUptoSaid : Prop := tietzeLongUptoRow.holds Tryz.pinned (OpenSpec.upto tietzeLongSpec)

/-- 'cayleylaw22.TietzeSimplifies', WHERE WHAT IT READS IS OF BULK AT MOST 1048576: true; the input reads as it did. -/
def tietzeSimplifiesUptoRow : OpenClaim := { program := "ytmmbmhjdnlmedaagreat", sum := "ec6dffcfec72230f3bb94145d24a6c453bd0787f64e7c78e303d2dc8fe81ae1d", func := "cayley/cayleylaw22.TietzeSimplifies", spec := "tietzeSimplifies", unfollowed := true, recurses := true, apart := false, narrowed := true }
def TietzeSimplifiesUptoSaid : Prop := tietzeSimplifiesUptoRow.holds Tryz.pinned (OpenSpec.upto tietzeSimplifiesSpec)

/-- 'cayleylaw22.TietzeOrders', WHERE WHAT IT READS IS OF BULK AT MOST 1048576: true; the input reads as it did. -/
def tietzeOrdersUptoRow : OpenClaim := { program := "ytmmbmhjdnlmedaagreat", sum := "ec6dffcfec72230f3bb94145d24a6c453bd0787f64e7c78e303d2dc8fe81ae1d", func := "cayley/cayleylaw22.TietzeOrders", spec := "tietzeOrders", unfollowed := true, recurses := true, apart := false, narrowed := true }
def TietzeOrdersUptoSaid : Prop := tietzeOrdersUptoRow.holds Tryz.pinned (OpenSpec.upto tietzeOrdersSpec)

end Rows
end Go.Proofs.YtmmbmhjdnlmedaaGreat
