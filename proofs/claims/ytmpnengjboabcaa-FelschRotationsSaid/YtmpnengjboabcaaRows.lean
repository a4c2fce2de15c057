/-
  No cell of these rows narrows 'for every input' (looked for: loops, veiled, ifaces, maps, wideKeys, modest, calm, conditions, laid).
  DERIVED. THE GIVEN ROWS OF THIS SEAT. 19 by the template 'for every input the law returns true; each argument reads behind the call as it read before'; 0 by the template 'total and deterministic' (their statements: YtmpnengjboabcaaTotals.lean).
  GIVEN WITH THE SEED: the statements are not yours to turn. If you find one false, say at which input.
  Laid BY PROGRAM, IN A SANDBOX (cutbox-rows.mjs): the forced cells as the released guide's own fill.sh prints them over the translation 7fbcae4a0c703fc0… (all of the seat's roots in one cut). By AI agents, Wed Nov 11 2026. No macro, syntax, notation, axiom, sorry.
-/
import Derived.Test.YtmpnengjboabcaaChecked
import GoSem.Claim
import GoSem.ClaimJoined
import GoSem.ClaimMapViews
import Derived.JoinedTies
import Derived.KernelRfl
namespace Go.Proofs.Ytmpnengjboabcaa
/- THE CELL 'sum', in the pinned program and in every row, IS THE sha256 OF THE DUMP (.gsa) THAT YtmpnengjboabcaaProg.lean LOADS. Nothing in Lean hashes anything: it is a label: what it is worth is what the hold of that sum in a sandbox is worth. -/
noncomputable def Try.pinned : Pinned := { name := "ytmpnengjboabcaa", sum := "7fbcae4a0c703fc084005158c8019339633dff77b3001998f4d08f4d9dd5f391", checked := Try.checked }
namespace Rows
def none {H : Type} : Left H := { results := [], args := [] }

/-- 'cayleylaw21.RewriteTables': WHATEVER THE INPUT: true; the input reads as it did. -/
def rewriteTablesSpec : ChangeSpec := { name := "rewriteTables", fn := fun _ => fun
  | [d1, d2, d3, d4] => { results := [.lit (.bool true)], args := [d1, d2, d3, d4] }
  | _ => none }
def rewriteTablesRow : OpenClaim := { program := "ytmpnengjboabcaa", sum := "7fbcae4a0c703fc084005158c8019339633dff77b3001998f4d08f4d9dd5f391", func := "cayley/cayleylaw21.RewriteTables", spec := "rewriteTables", unfollowed := true, recurses := true, plainKeys := false, apart := false }
def RewriteTablesSaid : Prop := rewriteTablesRow.holds Try.pinned (OpenSpec.ofChange rewriteTablesSpec)

/-- ITS FALSE NEIGHBOUR: 'it returns false'. Refute it at one input. -/
def rewriteTablesWrong : ChangeSpec := { name := "rewriteTables", fn := fun _ => fun
  | [d1, d2, d3, d4] => { results := [.lit (.bool false)], args := [d1, d2, d3, d4] }
  | _ => none }
def RewriteTablesWrongFalsely : Prop := rewriteTablesRow.holds Try.pinned (OpenSpec.ofChange rewriteTablesWrong)

/-- 'cayleylaw21.RewritePresents': WHATEVER THE INPUT: true; the input reads as it did. -/
def rewritePresentsSpec : ChangeSpec := { name := "rewritePresents", fn := fun _ => fun
  | [d1, d2] => { results := [.lit (.bool true)], args := [d1, d2] }
  | _ => none }
def rewritePresentsRow : OpenClaim := { program := "ytmpnengjboabcaa", sum := "7fbcae4a0c703fc084005158c8019339633dff77b3001998f4d08f4d9dd5f391", func := "cayley/cayleylaw21.RewritePresents", spec := "rewritePresents", unfollowed := true, recurses := true, plainKeys := false, apart := false }
def RewritePresentsSaid : Prop := rewritePresentsRow.holds Try.pinned (OpenSpec.ofChange rewritePresentsSpec)

/-- ITS FALSE NEIGHBOUR: 'it returns false'. Refute it at one input. -/
def rewritePresentsWrong : ChangeSpec := { name := "rewritePresents", fn := fun _ => fun
  | [d1, d2] => { results := [.lit (.bool false)], args := [d1, d2] }
  | _ => none }
def RewritePresentsWrongFalsely : Prop := rewritePresentsRow.holds Try.pinned (OpenSpec.ofChange rewritePresentsWrong)

/-- 'cayleylaw21.RewriteKnown': WHATEVER THE INPUT: true; the input reads as it did. -/
def rewriteKnownSpec : ChangeSpec := { name := "rewriteKnown", fn := fun _ => fun
  | [] => { results := [.lit (.bool true)], args := [] }
  | _ => none }
def rewriteKnownRow : OpenClaim := { program := "ytmpnengjboabcaa", sum := "7fbcae4a0c703fc084005158c8019339633dff77b3001998f4d08f4d9dd5f391", func := "cayley/cayleylaw21.RewriteKnown", spec := "rewriteKnown", unfollowed := true, recurses := true, plainKeys := false, apart := false }
def RewriteKnownSaid : Prop := rewriteKnownRow.holds Try.pinned (OpenSpec.ofChange rewriteKnownSpec)

/-- ITS FALSE NEIGHBOUR: 'it returns false'. Refute it at one input. -/
def rewriteKnownWrong : ChangeSpec := { name := "rewriteKnown", fn := fun _ => fun
  | [] => { results := [.lit (.bool false)], args := [] }
  | _ => none }
def RewriteKnownWrongFalsely : Prop := rewriteKnownRow.holds Try.pinned (OpenSpec.ofChange rewriteKnownWrong)

/-- 'cayleylaw18.CosetRuns': WHATEVER THE INPUT: true; the input reads as it did. -/
def cosetRunsSpec : ChangeSpec := { name := "cosetRuns", fn := fun _ => fun
  | [d1, d2, d3, d4] => { results := [.lit (.bool true)], args := [d1, d2, d3, d4] }
  | _ => none }
def cosetRunsRow : OpenClaim := { program := "ytmpnengjboabcaa", sum := "7fbcae4a0c703fc084005158c8019339633dff77b3001998f4d08f4d9dd5f391", func := "cayley/cayleylaw18.CosetRuns", spec := "cosetRuns", unfollowed := true, recurses := true, plainKeys := false, apart := false }
def CosetRunsSaid : Prop := cosetRunsRow.holds Try.pinned (OpenSpec.ofChange cosetRunsSpec)

/-- ITS FALSE NEIGHBOUR: 'it returns false'. Refute it at one input. -/
def cosetRunsWrong : ChangeSpec := { name := "cosetRuns", fn := fun _ => fun
  | [d1, d2, d3, d4] => { results := [.lit (.bool false)], args := [d1, d2, d3, d4] }
  | _ => none }
def CosetRunsWrongFalsely : Prop := cosetRunsRow.holds Try.pinned (OpenSpec.ofChange cosetRunsWrong)

/-- 'cayleylaw21.RewriteBack': WHATEVER THE INPUT: true; the input reads as it did. -/
def rewriteBackSpec : ChangeSpec := { name := "rewriteBack", fn := fun _ => fun
  | [d1, d2, d3, d4, d5] => { results := [.lit (.bool true)], args := [d1, d2, d3, d4, d5] }
  | _ => none }
def rewriteBackRow : OpenClaim := { program := "ytmpnengjboabcaa", sum := "7fbcae4a0c703fc084005158c8019339633dff77b3001998f4d08f4d9dd5f391", func := "cayley/cayleylaw21.RewriteBack", spec := "rewriteBack", unfollowed := true, recurses := true, plainKeys := false, apart := false }
def RewriteBackSaid : Prop := rewriteBackRow.holds Try.pinned (OpenSpec.ofChange rewriteBackSpec)

/-- ITS FALSE NEIGHBOUR: 'it returns false'. Refute it at one input. -/
def rewriteBackWrong : ChangeSpec := { name := "rewriteBack", fn := fun _ => fun
  | [d1, d2, d3, d4, d5] => { results := [.lit (.bool false)], args := [d1, d2, d3, d4, d5] }
  | _ => none }
def RewriteBackWrongFalsely : Prop := rewriteBackRow.holds Try.pinned (OpenSpec.ofChange rewriteBackWrong)

/-- 'cayleylaw18.CosetTables': WHATEVER THE INPUT: true; the input reads as it did. -/
def cosetTablesSpec : ChangeSpec := { name := "cosetTables", fn := fun _ => fun
  | [d1, d2, d3, d4] => { results := [.lit (.bool true)], args := [d1, d2, d3, d4] }
  | _ => none }
def cosetTablesRow : OpenClaim := { program := "ytmpnengjboabcaa", sum := "7fbcae4a0c703fc084005158c8019339633dff77b3001998f4d08f4d9dd5f391", func := "cayley/cayleylaw18.CosetTables", spec := "cosetTables", unfollowed := true, recurses := true, plainKeys := false, apart := false }
def CosetTablesSaid : Prop := cosetTablesRow.holds Try.pinned (OpenSpec.ofChange cosetTablesSpec)

/-- ITS FALSE NEIGHBOUR: 'it returns false'. Refute it at one input. -/
def cosetTablesWrong : ChangeSpec := { name := "cosetTables", fn := fun _ => fun
  | [d1, d2, d3, d4] => { results := [.lit (.bool false)], args := [d1, d2, d3, d4] }
  | _ => none }
def CosetTablesWrongFalsely : Prop := cosetTablesRow.holds Try.pinned (OpenSpec.ofChange cosetTablesWrong)

/-- 'cayleylaw18.CosetKnown': WHATEVER THE INPUT: true; the input reads as it did. -/
def cosetKnownSpec : ChangeSpec := { name := "cosetKnown", fn := fun _ => fun
  | [] => { results := [.lit (.bool true)], args := [] }
  | _ => none }
def cosetKnownRow : OpenClaim := { program := "ytmpnengjboabcaa", sum := "7fbcae4a0c703fc084005158c8019339633dff77b3001998f4d08f4d9dd5f391", func := "cayley/cayleylaw18.CosetKnown", spec := "cosetKnown", unfollowed := true, recurses := true, plainKeys := false, apart := false }
def CosetKnownSaid : Prop := cosetKnownRow.holds Try.pinned (OpenSpec.ofChange cosetKnownSpec)

/-- ITS FALSE NEIGHBOUR: 'it returns false'. Refute it at one input. -/
def cosetKnownWrong : ChangeSpec := { name := "cosetKnown", fn := fun _ => fun
  | [] => { results := [.lit (.bool false)], args := [] }
  | _ => none }
def CosetKnownWrongFalsely : Prop := cosetKnownRow.holds Try.pinned (OpenSpec.ofChange cosetKnownWrong)

/-- 'cayleylaw18.CosetHolds': WHATEVER THE INPUT: true; the input reads as it did. -/
def cosetHoldsSpec : ChangeSpec := { name := "cosetHolds", fn := fun _ => fun
  | [d1, d2, d3, d4] => { results := [.lit (.bool true)], args := [d1, d2, d3, d4] }
  | _ => none }
def cosetHoldsRow : OpenClaim := { program := "ytmpnengjboabcaa", sum := "7fbcae4a0c703fc084005158c8019339633dff77b3001998f4d08f4d9dd5f391", func := "cayley/cayleylaw18.CosetHolds", spec := "cosetHolds", unfollowed := true, recurses := true, plainKeys := false, apart := false }
def CosetHoldsSaid : Prop := cosetHoldsRow.holds Try.pinned (OpenSpec.ofChange cosetHoldsSpec)

/-- ITS FALSE NEIGHBOUR: 'it returns false'. Refute it at one input. -/
def cosetHoldsWrong : ChangeSpec := { name := "cosetHolds", fn := fun _ => fun
  | [d1, d2, d3, d4] => { results := [.lit (.bool false)], args := [d1, d2, d3, d4] }
  | _ => none }
def CosetHoldsWrongFalsely : Prop := cosetHoldsRow.holds Try.pinned (OpenSpec.ofChange cosetHoldsWrong)

/-- 'cayleylaw18.CosetTower': WHATEVER THE INPUT: true; the input reads as it did. -/
def cosetTowerSpec : ChangeSpec := { name := "cosetTower", fn := fun _ => fun
  | [d1, d2, d3, d4] => { results := [.lit (.bool true)], args := [d1, d2, d3, d4] }
  | _ => none }
def cosetTowerRow : OpenClaim := { program := "ytmpnengjboabcaa", sum := "7fbcae4a0c703fc084005158c8019339633dff77b3001998f4d08f4d9dd5f391", func := "cayley/cayleylaw18.CosetTower", spec := "cosetTower", unfollowed := true, recurses := true, plainKeys := false, apart := false }
def CosetTowerSaid : Prop := cosetTowerRow.holds Try.pinned (OpenSpec.ofChange cosetTowerSpec)

/-- ITS FALSE NEIGHBOUR: 'it returns false'. Refute it at one input. -/
def cosetTowerWrong : ChangeSpec := { name := "cosetTower", fn := fun _ => fun
  | [d1, d2, d3, d4] => { results := [.lit (.bool false)], args := [d1, d2, d3, d4] }
  | _ => none }
def CosetTowerWrongFalsely : Prop := cosetTowerRow.holds Try.pinned (OpenSpec.ofChange cosetTowerWrong)

/-- 'cayleylaw18.CosetConjugates': WHATEVER THE INPUT: true; the input reads as it did. -/
def cosetConjugatesSpec : ChangeSpec := { name := "cosetConjugates", fn := fun _ => fun
  | [d1, d2, d3, d4] => { results := [.lit (.bool true)], args := [d1, d2, d3, d4] }
  | _ => none }
def cosetConjugatesRow : OpenClaim := { program := "ytmpnengjboabcaa", sum := "7fbcae4a0c703fc084005158c8019339633dff77b3001998f4d08f4d9dd5f391", func := "cayley/cayleylaw18.CosetConjugates", spec := "cosetConjugates", unfollowed := true, recurses := true, plainKeys := false, apart := false }
def CosetConjugatesSaid : Prop := cosetConjugatesRow.holds Try.pinned (OpenSpec.ofChange cosetConjugatesSpec)

/-- ITS FALSE NEIGHBOUR: 'it returns false'. Refute it at one input. -/
def cosetConjugatesWrong : ChangeSpec := { name := "cosetConjugates", fn := fun _ => fun
  | [d1, d2, d3, d4] => { results := [.lit (.bool false)], args := [d1, d2, d3, d4] }
  | _ => none }
def CosetConjugatesWrongFalsely : Prop := cosetConjugatesRow.holds Try.pinned (OpenSpec.ofChange cosetConjugatesWrong)

/-- 'cayleylaw18.CosetMaps': WHATEVER THE INPUT: true; the input reads as it did. -/
def cosetMapsSpec : ChangeSpec := { name := "cosetMaps", fn := fun _ => fun
  | [d1, d2, d3, d4, d5] => { results := [.lit (.bool true)], args := [d1, d2, d3, d4, d5] }
  | _ => none }
def cosetMapsRow : OpenClaim := { program := "ytmpnengjboabcaa", sum := "7fbcae4a0c703fc084005158c8019339633dff77b3001998f4d08f4d9dd5f391", func := "cayley/cayleylaw18.CosetMaps", spec := "cosetMaps", unfollowed := true, recurses := true, plainKeys := false, apart := false }
def CosetMapsSaid : Prop := cosetMapsRow.holds Try.pinned (OpenSpec.ofChange cosetMapsSpec)

/-- ITS FALSE NEIGHBOUR: 'it returns false'. Refute it at one input. -/
def cosetMapsWrong : ChangeSpec := { name := "cosetMaps", fn := fun _ => fun
  | [d1, d2, d3, d4, d5] => { results := [.lit (.bool false)], args := [d1, d2, d3, d4, d5] }
  | _ => none }
def CosetMapsWrongFalsely : Prop := cosetMapsRow.holds Try.pinned (OpenSpec.ofChange cosetMapsWrong)

/-- 'cayleytop.TopPresent': WHATEVER THE INPUT: true; the input reads as it did. -/
def topPresentSpec : ChangeSpec := { name := "topPresent", fn := fun _ => fun
  | [d1, d2] => { results := [.lit (.bool true)], args := [d1, d2] }
  | _ => none }
def topPresentRow : OpenClaim := { program := "ytmpnengjboabcaa", sum := "7fbcae4a0c703fc084005158c8019339633dff77b3001998f4d08f4d9dd5f391", func := "cayley/cayleytop.TopPresent", spec := "topPresent", unfollowed := true, recurses := true, plainKeys := false, apart := false }
def TopPresentSaid : Prop := topPresentRow.holds Try.pinned (OpenSpec.ofChange topPresentSpec)

/-- ITS FALSE NEIGHBOUR: 'it returns false'. Refute it at one input. -/
def topPresentWrong : ChangeSpec := { name := "topPresent", fn := fun _ => fun
  | [d1, d2] => { results := [.lit (.bool false)], args := [d1, d2] }
  | _ => none }
def TopPresentWrongFalsely : Prop := topPresentRow.holds Try.pinned (OpenSpec.ofChange topPresentWrong)

/-- 'cayleylaw19.FelschWords': WHATEVER THE INPUT: true; the input reads as it did. -/
def felschWordsSpec : ChangeSpec := { name := "felschWords", fn := fun _ => fun
  | [d1, d2] => { results := [.lit (.bool true)], args := [d1, d2] }
  | _ => none }
def felschWordsRow : OpenClaim := { program := "ytmpnengjboabcaa", sum := "7fbcae4a0c703fc084005158c8019339633dff77b3001998f4d08f4d9dd5f391", func := "cayley/cayleylaw19.FelschWords", spec := "felschWords", unfollowed := true, recurses := true, plainKeys := false, apart := false }
def FelschWordsSaid : Prop := felschWordsRow.holds Try.pinned (OpenSpec.ofChange felschWordsSpec)

/-- ITS FALSE NEIGHBOUR: 'it returns false'. Refute it at one input. -/
def felschWordsWrong : ChangeSpec := { name := "felschWords", fn := fun _ => fun
  | [d1, d2] => { results := [.lit (.bool false)], args := [d1, d2] }
  | _ => none }
def FelschWordsWrongFalsely : Prop := felschWordsRow.holds Try.pinned (OpenSpec.ofChange felschWordsWrong)

/-- 'cayleylaw19.FelschRotations': WHATEVER THE INPUT: true; the input reads as it did. -/
def felschRotationsSpec : ChangeSpec := { name := "felschRotations", fn := fun _ => fun
  | [d1, d2, d3] => { results := [.lit (.bool true)], args := [d1, d2, d3] }
  | _ => none }
def felschRotationsRow : OpenClaim := { program := "ytmpnengjboabcaa", sum := "7fbcae4a0c703fc084005158c8019339633dff77b3001998f4d08f4d9dd5f391", func := "cayley/cayleylaw19.FelschRotations", spec := "felschRotations", unfollowed := true, recurses := true, plainKeys := false, apart := false }
def FelschRotationsSaid : Prop := felschRotationsRow.holds Try.pinned (OpenSpec.ofChange felschRotationsSpec)

/-- ITS FALSE NEIGHBOUR: 'it returns false'. Refute it at one input. -/
def felschRotationsWrong : ChangeSpec := { name := "felschRotations", fn := fun _ => fun
  | [d1, d2, d3] => { results := [.lit (.bool false)], args := [d1, d2, d3] }
  | _ => none }
def FelschRotationsWrongFalsely : Prop := felschRotationsRow.holds Try.pinned (OpenSpec.ofChange felschRotationsWrong)

/-- 'cayleylaw19.FelschRuns': WHATEVER THE INPUT: true; the input reads as it did. -/
def felschRunsSpec : ChangeSpec := { name := "felschRuns", fn := fun _ => fun
  | [d1, d2, d3] => { results := [.lit (.bool true)], args := [d1, d2, d3] }
  | _ => none }
def felschRunsRow : OpenClaim := { program := "ytmpnengjboabcaa", sum := "7fbcae4a0c703fc084005158c8019339633dff77b3001998f4d08f4d9dd5f391", func := "cayley/cayleylaw19.FelschRuns", spec := "felschRuns", unfollowed := true, recurses := true, plainKeys := false, apart := false }
def FelschRunsSaid : Prop := felschRunsRow.holds Try.pinned (OpenSpec.ofChange felschRunsSpec)

/-- ITS FALSE NEIGHBOUR: 'it returns false'. Refute it at one input. -/
def felschRunsWrong : ChangeSpec := { name := "felschRuns", fn := fun _ => fun
  | [d1, d2, d3] => { results := [.lit (.bool false)], args := [d1, d2, d3] }
  | _ => none }
def FelschRunsWrongFalsely : Prop := felschRunsRow.holds Try.pinned (OpenSpec.ofChange felschRunsWrong)

/-- 'cayleylaw19.FelschLooks': WHATEVER THE INPUT: true; the input reads as it did. -/
def felschLooksSpec : ChangeSpec := { name := "felschLooks", fn := fun _ => fun
  | [d1, d2, d3] => { results := [.lit (.bool true)], args := [d1, d2, d3] }
  | _ => none }
def felschLooksRow : OpenClaim := { program := "ytmpnengjboabcaa", sum := "7fbcae4a0c703fc084005158c8019339633dff77b3001998f4d08f4d9dd5f391", func := "cayley/cayleylaw19.FelschLooks", spec := "felschLooks", unfollowed := true, recurses := true, plainKeys := false, apart := false }
def FelschLooksSaid : Prop := felschLooksRow.holds Try.pinned (OpenSpec.ofChange felschLooksSpec)

/-- ITS FALSE NEIGHBOUR: 'it returns false'. Refute it at one input. -/
def felschLooksWrong : ChangeSpec := { name := "felschLooks", fn := fun _ => fun
  | [d1, d2, d3] => { results := [.lit (.bool false)], args := [d1, d2, d3] }
  | _ => none }
def FelschLooksWrongFalsely : Prop := felschLooksRow.holds Try.pinned (OpenSpec.ofChange felschLooksWrong)

/-- 'cayleylaw19.FelschKnown': WHATEVER THE INPUT: true; the input reads as it did. -/
def felschKnownSpec : ChangeSpec := { name := "felschKnown", fn := fun _ => fun
  | [] => { results := [.lit (.bool true)], args := [] }
  | _ => none }
def felschKnownRow : OpenClaim := { program := "ytmpnengjboabcaa", sum := "7fbcae4a0c703fc084005158c8019339633dff77b3001998f4d08f4d9dd5f391", func := "cayley/cayleylaw19.FelschKnown", spec := "felschKnown", unfollowed := true, recurses := true, plainKeys := false, apart := false }
def FelschKnownSaid : Prop := felschKnownRow.holds Try.pinned (OpenSpec.ofChange felschKnownSpec)

/-- ITS FALSE NEIGHBOUR: 'it returns false'. Refute it at one input. -/
def felschKnownWrong : ChangeSpec := { name := "felschKnown", fn := fun _ => fun
  | [] => { results := [.lit (.bool false)], args := [] }
  | _ => none }
def FelschKnownWrongFalsely : Prop := felschKnownRow.holds Try.pinned (OpenSpec.ofChange felschKnownWrong)

/-- 'cayleylaw19.FelschSame': WHATEVER THE INPUT: true; the input reads as it did. -/
def felschSameSpec : ChangeSpec := { name := "felschSame", fn := fun _ => fun
  | [d1, d2, d3, d4] => { results := [.lit (.bool true)], args := [d1, d2, d3, d4] }
  | _ => none }
def felschSameRow : OpenClaim := { program := "ytmpnengjboabcaa", sum := "7fbcae4a0c703fc084005158c8019339633dff77b3001998f4d08f4d9dd5f391", func := "cayley/cayleylaw19.FelschSame", spec := "felschSame", unfollowed := true, recurses := true, plainKeys := false, apart := false }
def FelschSameSaid : Prop := felschSameRow.holds Try.pinned (OpenSpec.ofChange felschSameSpec)

/-- ITS FALSE NEIGHBOUR: 'it returns false'. Refute it at one input. -/
def felschSameWrong : ChangeSpec := { name := "felschSame", fn := fun _ => fun
  | [d1, d2, d3, d4] => { results := [.lit (.bool false)], args := [d1, d2, d3, d4] }
  | _ => none }
def FelschSameWrongFalsely : Prop := felschSameRow.holds Try.pinned (OpenSpec.ofChange felschSameWrong)

/-- 'cayleylaw19.FelschRoom': WHATEVER THE INPUT: true; the input reads as it did. -/
def felschRoomSpec : ChangeSpec := { name := "felschRoom", fn := fun _ => fun
  | [d1, d2, d3, d4] => { results := [.lit (.bool true)], args := [d1, d2, d3, d4] }
  | _ => none }
def felschRoomRow : OpenClaim := { program := "ytmpnengjboabcaa", sum := "7fbcae4a0c703fc084005158c8019339633dff77b3001998f4d08f4d9dd5f391", func := "cayley/cayleylaw19.FelschRoom", spec := "felschRoom", unfollowed := true, recurses := true, plainKeys := false, apart := false }
def FelschRoomSaid : Prop := felschRoomRow.holds Try.pinned (OpenSpec.ofChange felschRoomSpec)

/-- ITS FALSE NEIGHBOUR: 'it returns false'. Refute it at one input. -/
def felschRoomWrong : ChangeSpec := { name := "felschRoom", fn := fun _ => fun
  | [d1, d2, d3, d4] => { results := [.lit (.bool false)], args := [d1, d2, d3, d4] }
  | _ => none }
def FelschRoomWrongFalsely : Prop := felschRoomRow.holds Try.pinned (OpenSpec.ofChange felschRoomWrong)

/- THE SECOND FORM. 'bulk': how many values and letters a reading holds, each counted each time it is reached (what is shared counts as often as it is met; a slice's spare places count too). A statement '..UptoSaid' is the law's where the arguments, and the package variables that the reading takes, are together of bulk at most 1048576: NARROWER than '..Said'. Prove '..Said' where nothing that the law and all that it calls make is longer than what came in: it says more and counts as full. Else prove '..UptoSaid'. A law counts once. -/
mutual
def uptoBulk {H : Type} : DataW H → Nat
  | .lit (.string bytes) => bytes.length + 1
  | .lit _ => 1
  | .nil => 1
  | .ptr d => uptoBulk d + 1
  | .slice elems spare => uptoBulkAll elems + uptoBulkAll spare + 1
  | .agg parts => uptoBulkAll parts + 1
  | .iface _ d => uptoBulk d + 1
  | .map entries => uptoBulkEntries entries + 1
  | .held _ => 1
def uptoBulkAll {H : Type} : List (DataW H) → Nat
  | [] => 0
  | d :: r => uptoBulk d + uptoBulkAll r
def uptoBulkEntries {H : Type} : List (Lit × DataW H) → Nat
  | [] => 0
  | x :: r => uptoBulkEntry x + uptoBulkEntries r
def uptoBulkEntry {H : Type} : Lit × DataW H → Nat
  | (.string bytes, d) => bytes.length + uptoBulk d + 1
  | (_, d) => uptoBulk d + 1
 end
def uptoSmall : (H : Type) → List (DataW H) → Bool := fun _ ds => decide (uptoBulkAll ds ≤ 1048576)
def OpenSpec.upto (s : _root_.Go.ChangeSpec) : _root_.Go.OpenSpec := { _root_.Go.OpenSpec.ofChange s with cond := some uptoSmall }

/-- 'cayleylaw21.RewriteTables', WHERE WHAT IT READS IS OF BULK AT MOST 1048576: true; the input reads as it did. -/
def rewriteTablesUptoRow : OpenClaim := { program := "ytmpnengjboabcaa", sum := "7fbcae4a0c703fc084005158c8019339633dff77b3001998f4d08f4d9dd5f391", func := "cayley/cayleylaw21.RewriteTables", spec := "rewriteTables", unfollowed := true, recurses := true, plainKeys := false, apart := false, narrowed := true }
def RewriteTablesUptoSaid : Prop := rewriteTablesUptoRow.holds Try.pinned (OpenSpec.upto rewriteTablesSpec)

/-- 'cayleylaw21.RewritePresents', WHERE WHAT IT READS IS OF BULK AT MOST 1048576: true; the input reads as it did. -/
def rewritePresentsUptoRow : OpenClaim := { program := "ytmpnengjboabcaa", sum := "7fbcae4a0c703fc084005158c8019339633dff77b3001998f4d08f4d9dd5f391", func := "cayley/cayleylaw21.RewritePresents", spec := "rewritePresents", unfollowed := true, recurses := true, plainKeys := false, apart := false, narrowed := true }
def RewritePresentsUptoSaid : Prop := rewritePresentsUptoRow.holds Try.pinned (OpenSpec.upto rewritePresentsSpec)

/-- 'cayleylaw21.RewriteKnown', WHERE WHAT IT READS IS OF BULK AT MOST 1048576: true; the input reads as it did. -/
def rewriteKnownUptoRow : OpenClaim := { program := "ytmpnengjboabcaa", sum := "7fbcae4a0c703fc084005158c8019339633dff77b3001998f4d08f4d9dd5f391", func := "cayley/cayleylaw21.RewriteKnown", spec := "rewriteKnown", unfollowed := true, recurses := true, plainKeys := false, apart := false, narrowed := true }
def RewriteKnownUptoSaid : Prop := rewriteKnownUptoRow.holds Try.pinned (OpenSpec.upto rewriteKnownSpec)

/-- 'cayleylaw18.CosetRuns', WHERE WHAT IT READS IS OF BULK AT MOST 1048576: true; the input reads as it did. -/
def cosetRunsUptoRow : OpenClaim := { program := "ytmpnengjboabcaa", sum := "7fbcae4a0c703fc084005158c8019339633dff77b3001998f4d08f4d9dd5f391", func := "cayley/cayleylaw18.CosetRuns", spec := "cosetRuns", unfollowed := true, recurses := true, plainKeys := false, apart := false, narrowed := true }
def CosetRunsUptoSaid : Prop := cosetRunsUptoRow.holds Try.pinned (OpenSpec.upto cosetRunsSpec)

/-- 'cayleylaw21.RewriteBack', WHERE WHAT IT READS IS OF BULK AT MOST 1048576: true; the input reads as it did. -/
def rewriteBackUptoRow : OpenClaim := { program := "ytmpnengjboabcaa", sum := "7fbcae4a0c703fc084005158c8019339633dff77b3001998f4d08f4d9dd5f391", func := "cayley/cayleylaw21.RewriteBack", spec := "rewriteBack", unfollowed := true, recurses := true, plainKeys := false, apart := false, narrowed := true }
def RewriteBackUptoSaid : Prop := rewriteBackUptoRow.holds Try.pinned (OpenSpec.upto rewriteBackSpec)

/-- 'cayleylaw18.CosetTables', WHERE WHAT IT READS IS OF BULK AT MOST 1048576: true; the input reads as it did. -/
def cosetTablesUptoRow : OpenClaim := { program := "ytmpnengjboabcaa", sum := "7fbcae4a0c703fc084005158c8019339633dff77b3001998f4d08f4d9dd5f391", func := "cayley/cayleylaw18.CosetTables", spec := "cosetTables", unfollowed := true, recurses := true, plainKeys := false, apart := false, narrowed := true }
def CosetTablesUptoSaid : Prop := cosetTablesUptoRow.holds Try.pinned (OpenSpec.upto cosetTablesSpec)

/-- 'cayleylaw18.CosetKnown', WHERE WHAT IT READS IS OF BULK AT MOST 1048576: true; the input reads as it did. -/
def cosetKnownUptoRow : OpenClaim := { program := "ytmpnengjboabcaa", sum := "7fbcae4a0c703fc084005158c8019339633dff77b3001998f4d08f4d9dd5f391", func := "cayley/cayleylaw18.CosetKnown", spec := "cosetKnown", unfollowed := true, recurses := true, plainKeys := false, apart := false, narrowed := true }
def CosetKnownUptoSaid : Prop := cosetKnownUptoRow.holds Try.pinned (OpenSpec.upto cosetKnownSpec)

/-- 'cayleylaw18.CosetHolds', WHERE WHAT IT READS IS OF BULK AT MOST 1048576: true; the input reads as it did. -/
def cosetHoldsUptoRow : OpenClaim := { program := "ytmpnengjboabcaa", sum := "7fbcae4a0c703fc084005158c8019339633dff77b3001998f4d08f4d9dd5f391", func := "cayley/cayleylaw18.CosetHolds", spec := "cosetHolds", unfollowed := true, recurses := true, plainKeys := false, apart := false, narrowed := true }
def CosetHoldsUptoSaid : Prop := cosetHoldsUptoRow.holds Try.pinned (OpenSpec.upto cosetHoldsSpec)

/-- 'cayleylaw18.CosetTower', WHERE WHAT IT READS IS OF BULK AT MOST 1048576: true; the input reads as it did. -/
def cosetTowerUptoRow : OpenClaim := { program := "ytmpnengjboabcaa", sum := "7fbcae4a0c703fc084005158c8019339633dff77b3001998f4d08f4d9dd5f391", func := "cayley/cayleylaw18.CosetTower", spec := "cosetTower", unfollowed := true, recurses := true, plainKeys := false, apart := false, narrowed := true }
def CosetTowerUptoSaid : Prop := cosetTowerUptoRow.holds Try.pinned (OpenSpec.upto cosetTowerSpec)

/-- 'cayleylaw18.CosetConjugates', WHERE WHAT IT READS IS OF BULK AT MOST 1048576: true; the input reads as it did. -/
def cosetConjugatesUptoRow : OpenClaim := { program := "ytmpnengjboabcaa", sum := "7fbcae4a0c703fc084005158c8019339633dff77b3001998f4d08f4d9dd5f391", func := "cayley/cayleylaw18.CosetConjugates", spec := "cosetConjugates", unfollowed := true, recurses := true, plainKeys := false, apart := false, narrowed := true }
def CosetConjugatesUptoSaid : Prop := cosetConjugatesUptoRow.holds Try.pinned (OpenSpec.upto cosetConjugatesSpec)

/-- 'cayleylaw18.CosetMaps', WHERE WHAT IT READS IS OF BULK AT MOST 1048576: true; the input reads as it did. -/
def cosetMapsUptoRow : OpenClaim := { program := "ytmpnengjboabcaa", sum := "7fbcae4a0c703fc084005158c8019339633dff77b3001998f4d08f4d9dd5f391", func := "cayley/cayleylaw18.CosetMaps", spec := "cosetMaps", unfollowed := true, recurses := true, plainKeys := false, apart := false, narrowed := true }
def CosetMapsUptoSaid : Prop := cosetMapsUptoRow.holds Try.pinned (OpenSpec.upto cosetMapsSpec)

/-- 'cayleytop.TopPresent', WHERE WHAT IT READS IS OF BULK AT MOST 1048576: true; the input reads as it did. -/
def topPresentUptoRow : OpenClaim := { program := "ytmpnengjboabcaa", sum := "7fbcae4a0c703fc084005158c8019339633dff77b3001998f4d08f4d9dd5f391", func := "cayley/cayleytop.TopPresent", spec := "topPresent", unfollowed := true, recurses := true, plainKeys := false, apart := false, narrowed := true }
def TopPresentUptoSaid : Prop := topPresentUptoRow.holds Try.pinned (OpenSpec.upto topPresentSpec)

/-- 'cayleylaw19.FelschWords', WHERE WHAT IT READS IS OF BULK AT MOST 1048576: true; the input reads as it did. -/
def felschWordsUptoRow : OpenClaim := { program := "ytmpnengjboabcaa", sum := "7fbcae4a0c703fc084005158c8019339633dff77b3001998f4d08f4d9dd5f391", func := "cayley/cayleylaw19.FelschWords", spec := "felschWords", unfollowed := true, recurses := true, plainKeys := false, apart := false, narrowed := true }
def FelschWordsUptoSaid : Prop := felschWordsUptoRow.holds Try.pinned (OpenSpec.upto felschWordsSpec)

/-- 'cayleylaw19.FelschRotations', WHERE WHAT IT READS IS OF BULK AT MOST 1048576: true; the input reads as it did. -/
def felschRotationsUptoRow : OpenClaim := { program := "ytmpnengjboabcaa", sum := "7fbcae4a0c703fc084005158c8019339633dff77b3001998f4d08f4d9dd5f391", func := "cayley/cayleylaw19.FelschRotations", spec := "felschRotations", unfollowed := true, recurses := true, plainKeys := false, apart := false, narrowed := true }
def FelschRotationsUptoSaid : Prop := felschRotationsUptoRow.holds Try.pinned (OpenSpec.upto felschRotationsSpec)

/-- 'cayleylaw19.FelschRuns', WHERE WHAT IT READS IS OF BULK AT MOST 1048576: true; the input reads as it did. -/
def felschRunsUptoRow : OpenClaim := { program := "ytmpnengjboabcaa", sum := "7fbcae4a0c703fc084005158c8019339633dff77b3001998f4d08f4d9dd5f391", func := "cayley/cayleylaw19.FelschRuns", spec := "felschRuns", unfollowed := true, recurses := true, plainKeys := false, apart := false, narrowed := true }
def FelschRunsUptoSaid : Prop := felschRunsUptoRow.holds Try.pinned (OpenSpec.upto felschRunsSpec)

/-- 'cayleylaw19.FelschLooks', WHERE WHAT IT READS IS OF BULK AT MOST 1048576: true; the input reads as it did. -/
def felschLooksUptoRow : OpenClaim := { program := "ytmpnengjboabcaa", sum := "7fbcae4a0c703fc084005158c8019339633dff77b3001998f4d08f4d9dd5f391", func := "cayley/cayleylaw19.FelschLooks", spec := "felschLooks", unfollowed := true, recurses := true, plainKeys := false, apart := false, narrowed := true }
def FelschLooksUptoSaid : Prop := felschLooksUptoRow.holds Try.pinned (OpenSpec.upto felschLooksSpec)

/-- 'cayleylaw19.FelschKnown', WHERE WHAT IT READS IS OF BULK AT MOST 1048576: true; the input reads as it did. -/
def felschKnownUptoRow : OpenClaim := { program := "ytmpnengjboabcaa", sum := "7fbcae4a0c703fc084005158c8019339633dff77b3001998f4d08f4d9dd5f391", func := "cayley/cayleylaw19.FelschKnown", spec := "felschKnown", unfollowed := true, recurses := true, plainKeys := false, apart := false, narrowed := true }
def FelschKnownUptoSaid : Prop := felschKnownUptoRow.holds Try.pinned (OpenSpec.upto felschKnownSpec)

/-- 'cayleylaw19.FelschSame', WHERE WHAT IT READS IS OF BULK AT MOST 1048576: true; the input reads as it did. -/
def felschSameUptoRow : OpenClaim := { program := "ytmpnengjboabcaa", sum := "7fbcae4a0c703fc084005158c8019339633dff77b3001998f4d08f4d9dd5f391", func := "cayley/cayleylaw19.FelschSame", spec := "felschSame", unfollowed := true, recurses := true, plainKeys := false, apart := false, narrowed := true }
def FelschSameUptoSaid : Prop := felschSameUptoRow.holds Try.pinned (OpenSpec.upto felschSameSpec)

/-- 'cayleylaw19.FelschRoom', WHERE WHAT IT READS IS OF BULK AT MOST 1048576: true; the input reads as it did. -/
def felschRoomUptoRow : OpenClaim := { program := "ytmpnengjboabcaa", sum := "7fbcae4a0c703fc084005158c8019339633dff77b3001998f4d08f4d9dd5f391", func := "cayley/cayleylaw19.FelschRoom", spec := "felschRoom", unfollowed := true, recurses := true, plainKeys := false, apart := false, narrowed := true }
def FelschRoomUptoSaid : Prop := felschRoomUptoRow.holds Try.pinned (OpenSpec.upto felschRoomSpec)

end Rows
end Go.Proofs.Ytmpnengjboabcaa
