/-
  NARROWER THAN 'FOR EVERY INPUT', by the rows' own cells (each row's printed sentence says how): DefsDoes: loops · DefsTurns: loops · RenderChecks: loops · RenderPrints: loops · RenderBack: loops · RenderApart: loops · ExpandMakes: loops · ExpandMeans: loops.
  DERIVED. THE GIVEN ROWS OF THIS SEAT. 15 by the template 'for every input the law returns true; each argument reads behind the call as it read before'; 0 by the template 'total and deterministic' (their statements: YtkfeccbahpmadaaTotals.lean).
  GIVEN WITH THE SEED: the statements are not yours to turn. If you find one false, say at which input.
  Laid BY PROGRAM, IN A SANDBOX (cutbox-rows.mjs): the forced cells as the released guide's own fill.sh prints them over the translation 07d4a21044c0d584… (all of the seat's roots in one cut). By AI agents, Wed Nov 11 2026. No macro, syntax, notation, axiom, sorry.
-/
import Derived.Test.YtkfeccbahpmadaaChecked
import GoSem.Claim
import GoSem.ClaimJoined
import GoSem.ClaimMapViews
import Derived.JoinedTies
import Derived.KernelRfl
namespace Go.Proofs.Ytkfeccbahpmadaa
/- THE CELL 'sum', in the pinned program and in every row, IS THE sha256 OF THE DUMP (.gsa) THAT YtkfeccbahpmadaaProg.lean LOADS. Nothing in Lean hashes anything: it is a label: what it is worth is what the hold of that sum in a sandbox is worth. -/
noncomputable def Try.pinned : Pinned := { name := "ytkfeccbahpmadaa", sum := "07d4a21044c0d5846d110251e134a2e1c4c30e4b63f592d9e456a13d0dd234b1", checked := Try.checked }
namespace Rows
def none {H : Type} : Left H := { results := [], args := [] }

/-- 'graftworklaw.ShortMakes': WHATEVER THE INPUT: true; the input reads as it did. -/
def shortMakesSpec : ChangeSpec := { name := "shortMakes", fn := fun _ => fun
  | [d] => { results := [.lit (.bool true)], args := [d] }
  | _ => none }
def shortMakesRow : OpenClaim := { program := "ytkfeccbahpmadaa", sum := "07d4a21044c0d5846d110251e134a2e1c4c30e4b63f592d9e456a13d0dd234b1", func := "graftwork/graftworklaw.ShortMakes", spec := "shortMakes", unfollowed := true, recurses := true, apart := false }
def ShortMakesSaid : Prop := shortMakesRow.holds Try.pinned (OpenSpec.ofChange shortMakesSpec)

/-- ITS FALSE NEIGHBOUR: 'it returns false'. Refute it at one input. -/
def shortMakesWrong : ChangeSpec := { name := "shortMakes", fn := fun _ => fun
  | [d] => { results := [.lit (.bool false)], args := [d] }
  | _ => none }
def ShortMakesWrongFalsely : Prop := shortMakesRow.holds Try.pinned (OpenSpec.ofChange shortMakesWrong)

/-- 'graftworklaw.ShortShorts': WHATEVER THE INPUT: true; the input reads as it did. -/
def shortShortsSpec : ChangeSpec := { name := "shortShorts", fn := fun _ => fun
  | [d] => { results := [.lit (.bool true)], args := [d] }
  | _ => none }
def shortShortsRow : OpenClaim := { program := "ytkfeccbahpmadaa", sum := "07d4a21044c0d5846d110251e134a2e1c4c30e4b63f592d9e456a13d0dd234b1", func := "graftwork/graftworklaw.ShortShorts", spec := "shortShorts", unfollowed := true, recurses := true, apart := false }
def ShortShortsSaid : Prop := shortShortsRow.holds Try.pinned (OpenSpec.ofChange shortShortsSpec)

/-- ITS FALSE NEIGHBOUR: 'it returns false'. Refute it at one input. -/
def shortShortsWrong : ChangeSpec := { name := "shortShorts", fn := fun _ => fun
  | [d] => { results := [.lit (.bool false)], args := [d] }
  | _ => none }
def ShortShortsWrongFalsely : Prop := shortShortsRow.holds Try.pinned (OpenSpec.ofChange shortShortsWrong)

/-- 'graftworklaw.DefsDoes': WHATEVER THE INPUT: true; the input reads as it did. -/
def defsDoesSpec : ChangeSpec := { name := "defsDoes", fn := fun _ => fun
  | [d] => { results := [.lit (.bool true)], args := [d] }
  | _ => none }
def defsDoesRow : OpenClaim := { program := "ytkfeccbahpmadaa", sum := "07d4a21044c0d5846d110251e134a2e1c4c30e4b63f592d9e456a13d0dd234b1", func := "graftwork/graftworklaw.DefsDoes", spec := "defsDoes", inPlace := ["internal/abi.NoEscape", "internal/bytealg.MakeNoZero"], unfollowed := true, recurses := true, loops := true, apart := false }
def DefsDoesSaid : Prop := defsDoesRow.holds Try.pinned (OpenSpec.ofChange defsDoesSpec)

/-- ITS FALSE NEIGHBOUR: 'it returns false'. Refute it at one input. -/
def defsDoesWrong : ChangeSpec := { name := "defsDoes", fn := fun _ => fun
  | [d] => { results := [.lit (.bool false)], args := [d] }
  | _ => none }
def DefsDoesWrongFalsely : Prop := defsDoesRow.holds Try.pinned (OpenSpec.ofChange defsDoesWrong)

/-- 'graftworklaw.DefsTurns': WHATEVER THE INPUT: true; the input reads as it did. -/
def defsTurnsSpec : ChangeSpec := { name := "defsTurns", fn := fun _ => fun
  | [d1, d2] => { results := [.lit (.bool true)], args := [d1, d2] }
  | _ => none }
def defsTurnsRow : OpenClaim := { program := "ytkfeccbahpmadaa", sum := "07d4a21044c0d5846d110251e134a2e1c4c30e4b63f592d9e456a13d0dd234b1", func := "graftwork/graftworklaw.DefsTurns", spec := "defsTurns", inPlace := ["internal/abi.NoEscape", "internal/bytealg.MakeNoZero"], unfollowed := true, recurses := true, loops := true, apart := false }
def DefsTurnsSaid : Prop := defsTurnsRow.holds Try.pinned (OpenSpec.ofChange defsTurnsSpec)

/-- ITS FALSE NEIGHBOUR: 'it returns false'. Refute it at one input. -/
def defsTurnsWrong : ChangeSpec := { name := "defsTurns", fn := fun _ => fun
  | [d1, d2] => { results := [.lit (.bool false)], args := [d1, d2] }
  | _ => none }
def DefsTurnsWrongFalsely : Prop := defsTurnsRow.holds Try.pinned (OpenSpec.ofChange defsTurnsWrong)

/-- 'graftworklaw.RenderChecks': WHATEVER THE INPUT: true; the input reads as it did. -/
def renderChecksSpec : ChangeSpec := { name := "renderChecks", fn := fun _ => fun
  | [d] => { results := [.lit (.bool true)], args := [d] }
  | _ => none }
def renderChecksRow : OpenClaim := { program := "ytkfeccbahpmadaa", sum := "07d4a21044c0d5846d110251e134a2e1c4c30e4b63f592d9e456a13d0dd234b1", func := "graftwork/graftworklaw.RenderChecks", spec := "renderChecks", inPlace := ["internal/bytealg.IndexByteString", "internal/abi.NoEscape", "internal/bytealg.MakeNoZero"], unfollowed := true, recurses := true, loops := true, apart := false }
def RenderChecksSaid : Prop := renderChecksRow.holds Try.pinned (OpenSpec.ofChange renderChecksSpec)

/-- ITS FALSE NEIGHBOUR: 'it returns false'. Refute it at one input. -/
def renderChecksWrong : ChangeSpec := { name := "renderChecks", fn := fun _ => fun
  | [d] => { results := [.lit (.bool false)], args := [d] }
  | _ => none }
def RenderChecksWrongFalsely : Prop := renderChecksRow.holds Try.pinned (OpenSpec.ofChange renderChecksWrong)

/-- 'graftworklaw.RenderPrints': WHATEVER THE INPUT: true; the input reads as it did. -/
def renderPrintsSpec : ChangeSpec := { name := "renderPrints", fn := fun _ => fun
  | [d] => { results := [.lit (.bool true)], args := [d] }
  | _ => none }
def renderPrintsRow : OpenClaim := { program := "ytkfeccbahpmadaa", sum := "07d4a21044c0d5846d110251e134a2e1c4c30e4b63f592d9e456a13d0dd234b1", func := "graftwork/graftworklaw.RenderPrints", spec := "renderPrints", inPlace := ["internal/bytealg.IndexByteString", "internal/abi.NoEscape", "internal/bytealg.MakeNoZero"], unfollowed := true, recurses := true, loops := true, apart := false }
def RenderPrintsSaid : Prop := renderPrintsRow.holds Try.pinned (OpenSpec.ofChange renderPrintsSpec)

/-- ITS FALSE NEIGHBOUR: 'it returns false'. Refute it at one input. -/
def renderPrintsWrong : ChangeSpec := { name := "renderPrints", fn := fun _ => fun
  | [d] => { results := [.lit (.bool false)], args := [d] }
  | _ => none }
def RenderPrintsWrongFalsely : Prop := renderPrintsRow.holds Try.pinned (OpenSpec.ofChange renderPrintsWrong)

/-- 'graftworklaw.RenderBack': WHATEVER THE INPUT: true; the input reads as it did. -/
def renderBackSpec : ChangeSpec := { name := "renderBack", fn := fun _ => fun
  | [d] => { results := [.lit (.bool true)], args := [d] }
  | _ => none }
def renderBackRow : OpenClaim := { program := "ytkfeccbahpmadaa", sum := "07d4a21044c0d5846d110251e134a2e1c4c30e4b63f592d9e456a13d0dd234b1", func := "graftwork/graftworklaw.RenderBack", spec := "renderBack", inPlace := ["internal/bytealg.IndexByteString", "internal/abi.NoEscape", "internal/bytealg.MakeNoZero"], unfollowed := true, recurses := true, loops := true, apart := false }
def RenderBackSaid : Prop := renderBackRow.holds Try.pinned (OpenSpec.ofChange renderBackSpec)

/-- ITS FALSE NEIGHBOUR: 'it returns false'. Refute it at one input. -/
def renderBackWrong : ChangeSpec := { name := "renderBack", fn := fun _ => fun
  | [d] => { results := [.lit (.bool false)], args := [d] }
  | _ => none }
def RenderBackWrongFalsely : Prop := renderBackRow.holds Try.pinned (OpenSpec.ofChange renderBackWrong)

/-- 'graftworklaw.RenderApart': WHATEVER THE INPUT: true; the input reads as it did. -/
def renderApartSpec : ChangeSpec := { name := "renderApart", fn := fun _ => fun
  | [d1, d2] => { results := [.lit (.bool true)], args := [d1, d2] }
  | _ => none }
def renderApartRow : OpenClaim := { program := "ytkfeccbahpmadaa", sum := "07d4a21044c0d5846d110251e134a2e1c4c30e4b63f592d9e456a13d0dd234b1", func := "graftwork/graftworklaw.RenderApart", spec := "renderApart", inPlace := ["internal/bytealg.IndexByteString", "internal/abi.NoEscape", "internal/bytealg.MakeNoZero"], unfollowed := true, recurses := true, loops := true, apart := false }
def RenderApartSaid : Prop := renderApartRow.holds Try.pinned (OpenSpec.ofChange renderApartSpec)

/-- ITS FALSE NEIGHBOUR: 'it returns false'. Refute it at one input. -/
def renderApartWrong : ChangeSpec := { name := "renderApart", fn := fun _ => fun
  | [d1, d2] => { results := [.lit (.bool false)], args := [d1, d2] }
  | _ => none }
def RenderApartWrongFalsely : Prop := renderApartRow.holds Try.pinned (OpenSpec.ofChange renderApartWrong)

/-- 'graftworklaw.RenderForth': WHATEVER THE INPUT: true; the input reads as it did. -/
def renderForthSpec : ChangeSpec := { name := "renderForth", fn := fun _ => fun
  | [d] => { results := [.lit (.bool true)], args := [d] }
  | _ => none }
def renderForthRow : OpenClaim := { program := "ytkfeccbahpmadaa", sum := "07d4a21044c0d5846d110251e134a2e1c4c30e4b63f592d9e456a13d0dd234b1", func := "graftwork/graftworklaw.RenderForth", spec := "renderForth", inPlace := ["internal/bytealg.IndexByteString", "internal/abi.NoEscape", "internal/bytealg.MakeNoZero"], unfollowed := true, recurses := true, apart := false }
def RenderForthSaid : Prop := renderForthRow.holds Try.pinned (OpenSpec.ofChange renderForthSpec)

/-- ITS FALSE NEIGHBOUR: 'it returns false'. Refute it at one input. -/
def renderForthWrong : ChangeSpec := { name := "renderForth", fn := fun _ => fun
  | [d] => { results := [.lit (.bool false)], args := [d] }
  | _ => none }
def RenderForthWrongFalsely : Prop := renderForthRow.holds Try.pinned (OpenSpec.ofChange renderForthWrong)

/-- 'graftworklaw.WordsLists': WHATEVER THE INPUT: true; the input reads as it did. -/
def wordsListsSpec : ChangeSpec := { name := "wordsLists", fn := fun _ => fun
  | [d1, d2] => { results := [.lit (.bool true)], args := [d1, d2] }
  | _ => none }
def wordsListsRow : OpenClaim := { program := "ytkfeccbahpmadaa", sum := "07d4a21044c0d5846d110251e134a2e1c4c30e4b63f592d9e456a13d0dd234b1", func := "graftwork/graftworklaw.WordsLists", spec := "wordsLists", inPlace := ["slices.overlaps[[]int]"], unfollowed := true, recurses := true, apart := false }
def WordsListsSaid : Prop := wordsListsRow.holds Try.pinned (OpenSpec.ofChange wordsListsSpec)

/-- ITS FALSE NEIGHBOUR: 'it returns false'. Refute it at one input. -/
def wordsListsWrong : ChangeSpec := { name := "wordsLists", fn := fun _ => fun
  | [d1, d2] => { results := [.lit (.bool false)], args := [d1, d2] }
  | _ => none }
def WordsListsWrongFalsely : Prop := wordsListsRow.holds Try.pinned (OpenSpec.ofChange wordsListsWrong)

/-- 'graftworklaw.WordsMore': WHATEVER THE INPUT: true; the input reads as it did. -/
def wordsMoreSpec : ChangeSpec := { name := "wordsMore", fn := fun _ => fun
  | [d1, d2] => { results := [.lit (.bool true)], args := [d1, d2] }
  | _ => none }
def wordsMoreRow : OpenClaim := { program := "ytkfeccbahpmadaa", sum := "07d4a21044c0d5846d110251e134a2e1c4c30e4b63f592d9e456a13d0dd234b1", func := "graftwork/graftworklaw.WordsMore", spec := "wordsMore", inPlace := ["slices.overlaps[[]int]"], unfollowed := true, recurses := true, apart := false }
def WordsMoreSaid : Prop := wordsMoreRow.holds Try.pinned (OpenSpec.ofChange wordsMoreSpec)

/-- ITS FALSE NEIGHBOUR: 'it returns false'. Refute it at one input. -/
def wordsMoreWrong : ChangeSpec := { name := "wordsMore", fn := fun _ => fun
  | [d1, d2] => { results := [.lit (.bool false)], args := [d1, d2] }
  | _ => none }
def WordsMoreWrongFalsely : Prop := wordsMoreRow.holds Try.pinned (OpenSpec.ofChange wordsMoreWrong)

/-- 'graftworklaw.TurnMakes': WHATEVER THE INPUT: true; the input reads as it did. -/
def turnMakesSpec : ChangeSpec := { name := "turnMakes", fn := fun _ => fun
  | [d] => { results := [.lit (.bool true)], args := [d] }
  | _ => none }
def turnMakesRow : OpenClaim := { program := "ytkfeccbahpmadaa", sum := "07d4a21044c0d5846d110251e134a2e1c4c30e4b63f592d9e456a13d0dd234b1", func := "graftwork/graftworklaw.TurnMakes", spec := "turnMakes", unfollowed := true, recurses := true, apart := false }
def TurnMakesSaid : Prop := turnMakesRow.holds Try.pinned (OpenSpec.ofChange turnMakesSpec)

/-- ITS FALSE NEIGHBOUR: 'it returns false'. Refute it at one input. -/
def turnMakesWrong : ChangeSpec := { name := "turnMakes", fn := fun _ => fun
  | [d] => { results := [.lit (.bool false)], args := [d] }
  | _ => none }
def TurnMakesWrongFalsely : Prop := turnMakesRow.holds Try.pinned (OpenSpec.ofChange turnMakesWrong)

/-- 'graftworklaw.TurnTurns': WHATEVER THE INPUT: true; the input reads as it did. -/
def turnTurnsSpec : ChangeSpec := { name := "turnTurns", fn := fun _ => fun
  | [d] => { results := [.lit (.bool true)], args := [d] }
  | _ => none }
def turnTurnsRow : OpenClaim := { program := "ytkfeccbahpmadaa", sum := "07d4a21044c0d5846d110251e134a2e1c4c30e4b63f592d9e456a13d0dd234b1", func := "graftwork/graftworklaw.TurnTurns", spec := "turnTurns", unfollowed := true, recurses := true, apart := false }
def TurnTurnsSaid : Prop := turnTurnsRow.holds Try.pinned (OpenSpec.ofChange turnTurnsSpec)

/-- ITS FALSE NEIGHBOUR: 'it returns false'. Refute it at one input. -/
def turnTurnsWrong : ChangeSpec := { name := "turnTurns", fn := fun _ => fun
  | [d] => { results := [.lit (.bool false)], args := [d] }
  | _ => none }
def TurnTurnsWrongFalsely : Prop := turnTurnsRow.holds Try.pinned (OpenSpec.ofChange turnTurnsWrong)

/-- 'graftworklaw.ExpandMakes': WHATEVER THE INPUT: true; the input reads as it did. -/
def expandMakesSpec : ChangeSpec := { name := "expandMakes", fn := fun _ => fun
  | [d] => { results := [.lit (.bool true)], args := [d] }
  | _ => none }
def expandMakesRow : OpenClaim := { program := "ytkfeccbahpmadaa", sum := "07d4a21044c0d5846d110251e134a2e1c4c30e4b63f592d9e456a13d0dd234b1", func := "graftwork/graftworklaw.ExpandMakes", spec := "expandMakes", inPlace := ["internal/abi.NoEscape", "internal/bytealg.MakeNoZero"], unfollowed := true, recurses := true, loops := true, apart := false }
def ExpandMakesSaid : Prop := expandMakesRow.holds Try.pinned (OpenSpec.ofChange expandMakesSpec)

/-- ITS FALSE NEIGHBOUR: 'it returns false'. Refute it at one input. -/
def expandMakesWrong : ChangeSpec := { name := "expandMakes", fn := fun _ => fun
  | [d] => { results := [.lit (.bool false)], args := [d] }
  | _ => none }
def ExpandMakesWrongFalsely : Prop := expandMakesRow.holds Try.pinned (OpenSpec.ofChange expandMakesWrong)

/-- 'graftworklaw.ExpandMeans': WHATEVER THE INPUT: true; the input reads as it did. -/
def expandMeansSpec : ChangeSpec := { name := "expandMeans", fn := fun _ => fun
  | [d1, d2] => { results := [.lit (.bool true)], args := [d1, d2] }
  | _ => none }
def expandMeansRow : OpenClaim := { program := "ytkfeccbahpmadaa", sum := "07d4a21044c0d5846d110251e134a2e1c4c30e4b63f592d9e456a13d0dd234b1", func := "graftwork/graftworklaw.ExpandMeans", spec := "expandMeans", inPlace := ["internal/abi.NoEscape", "internal/bytealg.MakeNoZero"], unfollowed := true, recurses := true, loops := true, apart := false }
def ExpandMeansSaid : Prop := expandMeansRow.holds Try.pinned (OpenSpec.ofChange expandMeansSpec)

/-- ITS FALSE NEIGHBOUR: 'it returns false'. Refute it at one input. -/
def expandMeansWrong : ChangeSpec := { name := "expandMeans", fn := fun _ => fun
  | [d1, d2] => { results := [.lit (.bool false)], args := [d1, d2] }
  | _ => none }
def ExpandMeansWrongFalsely : Prop := expandMeansRow.holds Try.pinned (OpenSpec.ofChange expandMeansWrong)

/- THE SECOND FORM. 'bulk': how many values and letters a reading holds, each counted each time it is reached (what is shared counts as often as it is met; a slice's spare places count too). A statement '..UptoSaid' is the law's where the arguments, and the package variables that the reading takes, are together of bulk at most 1048576: NARROWER than '..Said'. Prove '..Said' where nothing that the law and all that it calls make is longer than what came in: it says more and counts as full. Else prove '..UptoSaid'. A law counts once. -/
mutual
def uptoBulk {H : Type} : DataW H → Nat
  | .lit (.string bytes) => bytes.length + 1
  | .lit _ => 1
  | .nil => 1
  | .ptr d => uptoBulk d + 1
  | .slice elems spare => uptoBulkAll elems + uptoBulkAll spare + 1
  | .agg parts => uptoBulkAll parts + 1
  | .iface _ d => uptoBulk d + 1
  | .map entries => uptoBulkEntries entries + 1
  | .held _ => 1
def uptoBulkAll {H : Type} : List (DataW H) → Nat
  | [] => 0
  | d :: r => uptoBulk d + uptoBulkAll r
def uptoBulkEntries {H : Type} : List (Lit × DataW H) → Nat
  | [] => 0
  | x :: r => uptoBulkEntry x + uptoBulkEntries r
def uptoBulkEntry {H : Type} : Lit × DataW H → Nat
  | (.string bytes, d) => bytes.length + uptoBulk d + 1
  | (_, d) => uptoBulk d + 1
 end
def uptoSmall : (H : Type) → List (DataW H) → Bool := fun _ ds => decide (uptoBulkAll ds ≤ 1048576)
def OpenSpec.upto (s : _root_.Go.ChangeSpec) : _root_.Go.OpenSpec := { _root_.Go.OpenSpec.ofChange s with cond := some uptoSmall }

/-- 'graftworklaw.ShortMakes', WHERE WHAT IT READS IS OF BULK AT MOST 1048576: true; the input reads as it did. -/
def shortMakesUptoRow : OpenClaim := { program := "ytkfeccbahpmadaa", sum := "07d4a21044c0d5846d110251e134a2e1c4c30e4b63f592d9e456a13d0dd234b1", func := "graftwork/graftworklaw.ShortMakes", spec := "shortMakes", unfollowed := true, recurses := true, apart := false, narrowed := true }
def ShortMakesUptoSaid : Prop := shortMakesUptoRow.holds Try.pinned (OpenSpec.upto shortMakesSpec)

/-- 'graftworklaw.ShortShorts', WHERE WHAT IT READS IS OF BULK AT MOST 1048576: true; the input reads as it did. -/
def shortShortsUptoRow : OpenClaim := { program := "ytkfeccbahpmadaa", sum := "07d4a21044c0d5846d110251e134a2e1c4c30e4b63f592d9e456a13d0dd234b1", func := "graftwork/graftworklaw.ShortShorts", spec := "shortShorts", unfollowed := true, recurses := true, apart := false, narrowed := true }
def ShortShortsUptoSaid : Prop := shortShortsUptoRow.holds Try.pinned (OpenSpec.upto shortShortsSpec)

/-- 'graftworklaw.DefsDoes', WHERE WHAT IT READS IS OF BULK AT MOST 1048576: true; the input reads as it did. -/
def defsDoesUptoRow : OpenClaim := { program := "ytkfeccbahpmadaa", sum := "07d4a21044c0d5846d110251e134a2e1c4c30e4b63f592d9e456a13d0dd234b1", func := "graftwork/graftworklaw.DefsDoes", spec := "defsDoes", inPlace := ["internal/abi.NoEscape", "internal/bytealg.MakeNoZero"], unfollowed := true, recurses := true, loops := true, apart := false, narrowed := true }
def DefsDoesUptoSaid : Prop := defsDoesUptoRow.holds Try.pinned (OpenSpec.upto defsDoesSpec)

/-- 'graftworklaw.DefsTurns', WHERE WHAT IT READS IS OF BULK AT MOST 1048576: true; the input reads as it did. -/
def defsTurnsUptoRow : OpenClaim := { program := "ytkfeccbahpmadaa", sum := "07d4a21044c0d5846d110251e134a2e1c4c30e4b63f592d9e456a13d0dd234b1", func := "graftwork/graftworklaw.DefsTurns", spec := "defsTurns", inPlace := ["internal/abi.NoEscape", "internal/bytealg.MakeNoZero"], unfollowed := true, recurses := true, loops := true, apart := false, narrowed := true }
def DefsTurnsUptoSaid : Prop := defsTurnsUptoRow.holds Try.pinned (OpenSpec.upto defsTurnsSpec)

/-- 'graftworklaw.RenderChecks', WHERE WHAT IT READS IS OF BULK AT MOST 1048576: true; the input reads as it did. -/
def renderChecksUptoRow : OpenClaim := { program := "ytkfeccbahpmadaa", sum := "07d4a21044c0d5846d110251e134a2e1c4c30e4b63f592d9e456a13d0dd234b1", func := "graftwork/graftworklaw.RenderChecks", spec := "renderChecks", inPlace := ["internal/bytealg.IndexByteString", "internal/abi.NoEscape", "internal/bytealg.MakeNoZero"], unfollowed := true, recurses := true, loops := true, apart := false, narrowed := true }
def RenderChecksUptoSaid : Prop := renderChecksUptoRow.holds Try.pinned (OpenSpec.upto renderChecksSpec)

/-- 'graftworklaw.RenderPrints', WHERE WHAT IT READS IS OF BULK AT MOST 1048576: true; the input reads as it did. -/
def renderPrintsUptoRow : OpenClaim := { program := "ytkfeccbahpmadaa", sum := "07d4a21044c0d5846d110251e134a2e1c4c30e4b63f592d9e456a13d0dd234b1", func := "graftwork/graftworklaw.RenderPrints", spec := "renderPrints", inPlace := ["internal/bytealg.IndexByteString", "internal/abi.NoEscape", "internal/bytealg.MakeNoZero"], unfollowed := true, recurses := true, loops := true, apart := false, narrowed := true }
def RenderPrintsUptoSaid : Prop := renderPrintsUptoRow.holds Try.pinned (OpenSpec.upto renderPrintsSpec)

/-- 'graftworklaw.RenderBack', WHERE WHAT IT READS IS OF BULK AT MOST 1048576: true; the input reads as it did. -/
def renderBackUptoRow : OpenClaim := { program := "ytkfeccbahpmadaa", sum := "07d4a21044c0d5846d110251e134a2e1c4c30e4b63f592d9e456a13d0dd234b1", func := "graftwork/graftworklaw.RenderBack", spec := "renderBack", inPlace := ["internal/bytealg.IndexByteString", "internal/abi.NoEscape", "internal/bytealg.MakeNoZero"], unfollowed := true, recurses := true, loops := true, apart := false, narrowed := true }
def RenderBackUptoSaid : Prop := renderBackUptoRow.holds Try.pinned (OpenSpec.upto renderBackSpec)

/-- 'graftworklaw.RenderApart', WHERE WHAT IT READS IS OF BULK AT MOST 1048576: true; the input reads as it did. -/
def renderApartUptoRow : OpenClaim := { program := "ytkfeccbahpmadaa", sum := "07d4a21044c0d5846d110251e134a2e1c4c30e4b63f592d9e456a13d0dd234b1", func := "graftwork/graftworklaw.RenderApart", spec := "renderApart", inPlace := ["internal/bytealg.IndexByteString", "internal/abi.NoEscape", "internal/bytealg.MakeNoZero"], unfollowed := true, recurses := true, loops := true, apart := false, narrowed := true }
def RenderApartUptoSaid : Prop := renderApartUptoRow.holds Try.pinned (OpenSpec.upto renderApartSpec)

/-- 'graftworklaw.RenderForth', WHERE WHAT IT READS IS OF BULK AT MOST 1048576: true; the input reads as it did. -/
def renderForthUptoRow : OpenClaim := { program := "ytkfeccbahpmadaa", sum := "07d4a21044c0d5846d110251e134a2e1c4c30e4b63f592d9e456a13d0dd234b1", func := "graftwork/graftworklaw.RenderForth", spec := "renderForth", inPlace := ["internal/bytealg.IndexByteString", "internal/abi.NoEscape", "internal/bytealg.MakeNoZero"], unfollowed := true, recurses := true, apart := false, narrowed := true }
def RenderForthUptoSaid : Prop := renderForthUptoRow.holds Try.pinned (OpenSpec.upto renderForthSpec)

/-- 'graftworklaw.WordsLists', WHERE WHAT IT READS IS OF BULK AT MOST 1048576: true; the input reads as it did. -/
def wordsListsUptoRow : OpenClaim := { program := "ytkfeccbahpmadaa", sum := "07d4a21044c0d5846d110251e134a2e1c4c30e4b63f592d9e456a13d0dd234b1", func := "graftwork/graftworklaw.WordsLists", spec := "wordsLists", inPlace := ["slices.overlaps[[]int]"], unfollowed := true, recurses := true, apart := false, narrowed := true }
def WordsListsUptoSaid : Prop := wordsListsUptoRow.holds Try.pinned (OpenSpec.upto wordsListsSpec)

/-- 'graftworklaw.WordsMore', WHERE WHAT IT READS IS OF BULK AT MOST 1048576: true; the input reads as it did. -/
def wordsMoreUptoRow : OpenClaim := { program := "ytkfeccbahpmadaa", sum := "07d4a21044c0d5846d110251e134a2e1c4c30e4b63f592d9e456a13d0dd234b1", func := "graftwork/graftworklaw.WordsMore", spec := "wordsMore", inPlace := ["slices.overlaps[[]int]"], unfollowed := true, recurses := true, apart := false, narrowed := true }
def WordsMoreUptoSaid : Prop := wordsMoreUptoRow.holds Try.pinned (OpenSpec.upto wordsMoreSpec)

/-- 'graftworklaw.TurnMakes', WHERE WHAT IT READS IS OF BULK AT MOST 1048576: true; the input reads as it did. -/
def turnMakesUptoRow : OpenClaim := { program := "ytkfeccbahpmadaa", sum := "07d4a21044c0d5846d110251e134a2e1c4c30e4b63f592d9e456a13d0dd234b1", func := "graftwork/graftworklaw.TurnMakes", spec := "turnMakes", unfollowed := true, recurses := true, apart := false, narrowed := true }
def TurnMakesUptoSaid : Prop := turnMakesUptoRow.holds Try.pinned (OpenSpec.upto turnMakesSpec)

/-- 'graftworklaw.TurnTurns', WHERE WHAT IT READS IS OF BULK AT MOST 1048576: true; the input reads as it did. -/
def turnTurnsUptoRow : OpenClaim := { program := "ytkfeccbahpmadaa", sum := "07d4a21044c0d5846d110251e134a2e1c4c30e4b63f592d9e456a13d0dd234b1", func := "graftwork/graftworklaw.TurnTurns", spec := "turnTurns", unfollowed := true, recurses := true, apart := false, narrowed := true }
def TurnTurnsUptoSaid : Prop := turnTurnsUptoRow.holds Try.pinned (OpenSpec.upto turnTurnsSpec)

/-- 'graftworklaw.ExpandMakes', WHERE WHAT IT READS IS OF BULK AT MOST 1048576: true; the input reads as it did. -/
def expandMakesUptoRow : OpenClaim := { program := "ytkfeccbahpmadaa", sum := "07d4a21044c0d5846d110251e134a2e1c4c30e4b63f592d9e456a13d0dd234b1", func := "graftwork/graftworklaw.ExpandMakes", spec := "expandMakes", inPlace := ["internal/abi.NoEscape", "internal/bytealg.MakeNoZero"], unfollowed := true, recurses := true, loops := true, apart := false, narrowed := true }
def ExpandMakesUptoSaid : Prop := expandMakesUptoRow.holds Try.pinned (OpenSpec.upto expandMakesSpec)

/-- 'graftworklaw.ExpandMeans', WHERE WHAT IT READS IS OF BULK AT MOST 1048576: true; the input reads as it did. -/
def expandMeansUptoRow : OpenClaim := { program := "ytkfeccbahpmadaa", sum := "07d4a21044c0d5846d110251e134a2e1c4c30e4b63f592d9e456a13d0dd234b1", func := "graftwork/graftworklaw.ExpandMeans", spec := "expandMeans", inPlace := ["internal/abi.NoEscape", "internal/bytealg.MakeNoZero"], unfollowed := true, recurses := true, loops := true, apart := false, narrowed := true }
def ExpandMeansUptoSaid : Prop := expandMeansUptoRow.holds Try.pinned (OpenSpec.upto expandMeansSpec)

end Rows
end Go.Proofs.Ytkfeccbahpmadaa
