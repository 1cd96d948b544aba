/-
  NARROWER THAN 'FOR EVERY INPUT', by the rows' own cells (each row's printed sentence says how): ExpandMeans: loops · ForestRanks: loops.
  DERIVED. THE GIVEN ROWS OF THIS SEAT. 14 by the template 'for every input the law returns true; each argument reads behind the call as it read before'; 0 by the template 'total and deterministic' (their statements: YtflgmalhpglklaaTotals.lean).
  GIVEN WITH THE SEED: the statements are not yours to turn. If you find one false, say at which input.
  Laid BY PROGRAM, IN A SANDBOX (cutbox-rows.mjs): the forced cells as the released guide's own fill.sh prints them over the translation 3f9da9ceb52afbc3… (all of the seat's roots in one cut). By AI agents, Wed Nov 11 2026. No macro, syntax, notation, axiom, sorry.
-/
import Derived.Test.YtflgmalhpglklaaChecked
import GoSem.Claim
import GoSem.ClaimJoined
import GoSem.ClaimMapViews
import Derived.JoinedTies
import Derived.KernelRfl
namespace Go.Proofs.Ytflgmalhpglklaa
/- THE CELL 'sum', in the pinned program and in every row, IS THE sha256 OF THE DUMP (.gsa) THAT YtflgmalhpglklaaProg.lean LOADS. Nothing in Lean hashes anything: it is a label: what it is worth is what the hold of that sum in a sandbox is worth. -/
noncomputable def Try.pinned : Pinned := { name := "ytflgmalhpglklaa", sum := "3f9da9ceb52afbc306fe5f13c4f5865dff1fba21284ecebefc57d1b6ab2745dd", checked := Try.checked }
namespace Rows
def none {H : Type} : Left H := { results := [], args := [] }

/-- 'graftworklaw.TurnMakes': WHATEVER THE INPUT: true; the input reads as it did. -/
def turnMakesSpec : ChangeSpec := { name := "turnMakes", fn := fun _ => fun
  | [d] => { results := [.lit (.bool true)], args := [d] }
  | _ => none }
def turnMakesRow : OpenClaim := { program := "ytflgmalhpglklaa", sum := "3f9da9ceb52afbc306fe5f13c4f5865dff1fba21284ecebefc57d1b6ab2745dd", func := "graftwork/graftworklaw.TurnMakes", spec := "turnMakes", unfollowed := true, recurses := true, plainKeys := false, apart := false }
def TurnMakesSaid : Prop := turnMakesRow.holds Try.pinned (OpenSpec.ofChange turnMakesSpec)

/-- ITS FALSE NEIGHBOUR: 'it returns false'. Refute it at one input. -/
def turnMakesWrong : ChangeSpec := { name := "turnMakes", fn := fun _ => fun
  | [d] => { results := [.lit (.bool false)], args := [d] }
  | _ => none }
def TurnMakesWrongFalsely : Prop := turnMakesRow.holds Try.pinned (OpenSpec.ofChange turnMakesWrong)

/-- 'graftworklaw.TurnTurns': WHATEVER THE INPUT: true; the input reads as it did. -/
def turnTurnsSpec : ChangeSpec := { name := "turnTurns", fn := fun _ => fun
  | [d] => { results := [.lit (.bool true)], args := [d] }
  | _ => none }
def turnTurnsRow : OpenClaim := { program := "ytflgmalhpglklaa", sum := "3f9da9ceb52afbc306fe5f13c4f5865dff1fba21284ecebefc57d1b6ab2745dd", func := "graftwork/graftworklaw.TurnTurns", spec := "turnTurns", unfollowed := true, recurses := true, plainKeys := false, apart := false }
def TurnTurnsSaid : Prop := turnTurnsRow.holds Try.pinned (OpenSpec.ofChange turnTurnsSpec)

/-- ITS FALSE NEIGHBOUR: 'it returns false'. Refute it at one input. -/
def turnTurnsWrong : ChangeSpec := { name := "turnTurns", fn := fun _ => fun
  | [d] => { results := [.lit (.bool false)], args := [d] }
  | _ => none }
def TurnTurnsWrongFalsely : Prop := turnTurnsRow.holds Try.pinned (OpenSpec.ofChange turnTurnsWrong)

/-- 'graftworklaw.WordsLists': WHATEVER THE INPUT: true; the input reads as it did. -/
def wordsListsSpec : ChangeSpec := { name := "wordsLists", fn := fun _ => fun
  | [d1, d2] => { results := [.lit (.bool true)], args := [d1, d2] }
  | _ => none }
def wordsListsRow : OpenClaim := { program := "ytflgmalhpglklaa", sum := "3f9da9ceb52afbc306fe5f13c4f5865dff1fba21284ecebefc57d1b6ab2745dd", func := "graftwork/graftworklaw.WordsLists", spec := "wordsLists", inPlace := ["slices.overlaps[[]int]"], unfollowed := true, recurses := true, plainKeys := false, apart := false }
def WordsListsSaid : Prop := wordsListsRow.holds Try.pinned (OpenSpec.ofChange wordsListsSpec)

/-- ITS FALSE NEIGHBOUR: 'it returns false'. Refute it at one input. -/
def wordsListsWrong : ChangeSpec := { name := "wordsLists", fn := fun _ => fun
  | [d1, d2] => { results := [.lit (.bool false)], args := [d1, d2] }
  | _ => none }
def WordsListsWrongFalsely : Prop := wordsListsRow.holds Try.pinned (OpenSpec.ofChange wordsListsWrong)

/-- 'graftworklaw.WordsMore': WHATEVER THE INPUT: true; the input reads as it did. -/
def wordsMoreSpec : ChangeSpec := { name := "wordsMore", fn := fun _ => fun
  | [d1, d2] => { results := [.lit (.bool true)], args := [d1, d2] }
  | _ => none }
def wordsMoreRow : OpenClaim := { program := "ytflgmalhpglklaa", sum := "3f9da9ceb52afbc306fe5f13c4f5865dff1fba21284ecebefc57d1b6ab2745dd", func := "graftwork/graftworklaw.WordsMore", spec := "wordsMore", inPlace := ["slices.overlaps[[]int]"], unfollowed := true, recurses := true, plainKeys := false, apart := false }
def WordsMoreSaid : Prop := wordsMoreRow.holds Try.pinned (OpenSpec.ofChange wordsMoreSpec)

/-- ITS FALSE NEIGHBOUR: 'it returns false'. Refute it at one input. -/
def wordsMoreWrong : ChangeSpec := { name := "wordsMore", fn := fun _ => fun
  | [d1, d2] => { results := [.lit (.bool false)], args := [d1, d2] }
  | _ => none }
def WordsMoreWrongFalsely : Prop := wordsMoreRow.holds Try.pinned (OpenSpec.ofChange wordsMoreWrong)

/-- 'graftworklaw.ExpandMeans': WHATEVER THE INPUT: true; the input reads as it did. -/
def expandMeansSpec : ChangeSpec := { name := "expandMeans", fn := fun _ => fun
  | [d1, d2] => { results := [.lit (.bool true)], args := [d1, d2] }
  | _ => none }
def expandMeansRow : OpenClaim := { program := "ytflgmalhpglklaa", sum := "3f9da9ceb52afbc306fe5f13c4f5865dff1fba21284ecebefc57d1b6ab2745dd", func := "graftwork/graftworklaw.ExpandMeans", spec := "expandMeans", inPlace := ["internal/abi.NoEscape", "internal/bytealg.MakeNoZero"], unfollowed := true, recurses := true, loops := true, plainKeys := false, apart := false }
def ExpandMeansSaid : Prop := expandMeansRow.holds Try.pinned (OpenSpec.ofChange expandMeansSpec)

/-- ITS FALSE NEIGHBOUR: 'it returns false'. Refute it at one input. -/
def expandMeansWrong : ChangeSpec := { name := "expandMeans", fn := fun _ => fun
  | [d1, d2] => { results := [.lit (.bool false)], args := [d1, d2] }
  | _ => none }
def ExpandMeansWrongFalsely : Prop := expandMeansRow.holds Try.pinned (OpenSpec.ofChange expandMeansWrong)

/-- 'graftworklaw.ChartCounts': WHATEVER THE INPUT: true; the input reads as it did. -/
def chartCountsSpec : ChangeSpec := { name := "chartCounts", fn := fun _ => fun
  | [d1, d2, d3, d4, d5, d6, d7] => { results := [.lit (.bool true)], args := [d1, d2, d3, d4, d5, d6, d7] }
  | _ => none }
def chartCountsRow : OpenClaim := { program := "ytflgmalhpglklaa", sum := "3f9da9ceb52afbc306fe5f13c4f5865dff1fba21284ecebefc57d1b6ab2745dd", func := "graftwork/graftworklaw.ChartCounts", spec := "chartCounts", unfollowed := true, recurses := true, plainKeys := false, apart := false }
def ChartCountsSaid : Prop := chartCountsRow.holds Try.pinned (OpenSpec.ofChange chartCountsSpec)

/-- ITS FALSE NEIGHBOUR: 'it returns false'. Refute it at one input. -/
def chartCountsWrong : ChangeSpec := { name := "chartCounts", fn := fun _ => fun
  | [d1, d2, d3, d4, d5, d6, d7] => { results := [.lit (.bool false)], args := [d1, d2, d3, d4, d5, d6, d7] }
  | _ => none }
def ChartCountsWrongFalsely : Prop := chartCountsRow.holds Try.pinned (OpenSpec.ofChange chartCountsWrong)

/-- 'graftworklaw.ChartParts': WHATEVER THE INPUT: true; the input reads as it did. -/
def chartPartsSpec : ChangeSpec := { name := "chartParts", fn := fun _ => fun
  | [d1, d2, d3, d4] => { results := [.lit (.bool true)], args := [d1, d2, d3, d4] }
  | _ => none }
def chartPartsRow : OpenClaim := { program := "ytflgmalhpglklaa", sum := "3f9da9ceb52afbc306fe5f13c4f5865dff1fba21284ecebefc57d1b6ab2745dd", func := "graftwork/graftworklaw.ChartParts", spec := "chartParts", unfollowed := true, recurses := true, plainKeys := false, apart := false }
def ChartPartsSaid : Prop := chartPartsRow.holds Try.pinned (OpenSpec.ofChange chartPartsSpec)

/-- ITS FALSE NEIGHBOUR: 'it returns false'. Refute it at one input. -/
def chartPartsWrong : ChangeSpec := { name := "chartParts", fn := fun _ => fun
  | [d1, d2, d3, d4] => { results := [.lit (.bool false)], args := [d1, d2, d3, d4] }
  | _ => none }
def ChartPartsWrongFalsely : Prop := chartPartsRow.holds Try.pinned (OpenSpec.ofChange chartPartsWrong)

/-- 'graftworklaw.ChartSums': WHATEVER THE INPUT: true; the input reads as it did. -/
def chartSumsSpec : ChangeSpec := { name := "chartSums", fn := fun _ => fun
  | [d1, d2] => { results := [.lit (.bool true)], args := [d1, d2] }
  | _ => none }
def chartSumsRow : OpenClaim := { program := "ytflgmalhpglklaa", sum := "3f9da9ceb52afbc306fe5f13c4f5865dff1fba21284ecebefc57d1b6ab2745dd", func := "graftwork/graftworklaw.ChartSums", spec := "chartSums", unfollowed := true, recurses := true, plainKeys := false, apart := false }
def ChartSumsSaid : Prop := chartSumsRow.holds Try.pinned (OpenSpec.ofChange chartSumsSpec)

/-- ITS FALSE NEIGHBOUR: 'it returns false'. Refute it at one input. -/
def chartSumsWrong : ChangeSpec := { name := "chartSums", fn := fun _ => fun
  | [d1, d2] => { results := [.lit (.bool false)], args := [d1, d2] }
  | _ => none }
def ChartSumsWrongFalsely : Prop := chartSumsRow.holds Try.pinned (OpenSpec.ofChange chartSumsWrong)

/-- 'graftworklaw.ThinMakes': WHATEVER THE INPUT: true; the input reads as it did. -/
def thinMakesSpec : ChangeSpec := { name := "thinMakes", fn := fun _ => fun
  | [d] => { results := [.lit (.bool true)], args := [d] }
  | _ => none }
def thinMakesRow : OpenClaim := { program := "ytflgmalhpglklaa", sum := "3f9da9ceb52afbc306fe5f13c4f5865dff1fba21284ecebefc57d1b6ab2745dd", func := "graftwork/graftworklaw.ThinMakes", spec := "thinMakes", unfollowed := true, recurses := true, plainKeys := false, apart := false }
def ThinMakesSaid : Prop := thinMakesRow.holds Try.pinned (OpenSpec.ofChange thinMakesSpec)

/-- ITS FALSE NEIGHBOUR: 'it returns false'. Refute it at one input. -/
def thinMakesWrong : ChangeSpec := { name := "thinMakes", fn := fun _ => fun
  | [d] => { results := [.lit (.bool false)], args := [d] }
  | _ => none }
def ThinMakesWrongFalsely : Prop := thinMakesRow.holds Try.pinned (OpenSpec.ofChange thinMakesWrong)

/-- 'graftworklaw.ThinThins': WHATEVER THE INPUT: true; the input reads as it did. -/
def thinThinsSpec : ChangeSpec := { name := "thinThins", fn := fun _ => fun
  | [d] => { results := [.lit (.bool true)], args := [d] }
  | _ => none }
def thinThinsRow : OpenClaim := { program := "ytflgmalhpglklaa", sum := "3f9da9ceb52afbc306fe5f13c4f5865dff1fba21284ecebefc57d1b6ab2745dd", func := "graftwork/graftworklaw.ThinThins", spec := "thinThins", unfollowed := true, recurses := true, plainKeys := false, apart := false }
def ThinThinsSaid : Prop := thinThinsRow.holds Try.pinned (OpenSpec.ofChange thinThinsSpec)

/-- ITS FALSE NEIGHBOUR: 'it returns false'. Refute it at one input. -/
def thinThinsWrong : ChangeSpec := { name := "thinThins", fn := fun _ => fun
  | [d] => { results := [.lit (.bool false)], args := [d] }
  | _ => none }
def ThinThinsWrongFalsely : Prop := thinThinsRow.holds Try.pinned (OpenSpec.ofChange thinThinsWrong)

/-- 'graftworklaw.ForestRanks': WHATEVER THE INPUT: true; the input reads as it did. -/
def forestRanksSpec : ChangeSpec := { name := "forestRanks", fn := fun _ => fun
  | [d1, d2] => { results := [.lit (.bool true)], args := [d1, d2] }
  | _ => none }
def forestRanksRow : OpenClaim := { program := "ytflgmalhpglklaa", sum := "3f9da9ceb52afbc306fe5f13c4f5865dff1fba21284ecebefc57d1b6ab2745dd", func := "graftwork/graftworklaw.ForestRanks", spec := "forestRanks", unfollowed := true, recurses := true, loops := true, plainKeys := false, apart := false }
def ForestRanksSaid : Prop := forestRanksRow.holds Try.pinned (OpenSpec.ofChange forestRanksSpec)

/-- ITS FALSE NEIGHBOUR: 'it returns false'. Refute it at one input. -/
def forestRanksWrong : ChangeSpec := { name := "forestRanks", fn := fun _ => fun
  | [d1, d2] => { results := [.lit (.bool false)], args := [d1, d2] }
  | _ => none }
def ForestRanksWrongFalsely : Prop := forestRanksRow.holds Try.pinned (OpenSpec.ofChange forestRanksWrong)

/-- 'graftworklaw.ForestWhole': WHATEVER THE INPUT: true; the input reads as it did. -/
def forestWholeSpec : ChangeSpec := { name := "forestWhole", fn := fun _ => fun
  | [d1, d2] => { results := [.lit (.bool true)], args := [d1, d2] }
  | _ => none }
def forestWholeRow : OpenClaim := { program := "ytflgmalhpglklaa", sum := "3f9da9ceb52afbc306fe5f13c4f5865dff1fba21284ecebefc57d1b6ab2745dd", func := "graftwork/graftworklaw.ForestWhole", spec := "forestWhole", unfollowed := true, recurses := true, plainKeys := false, apart := false }
def ForestWholeSaid : Prop := forestWholeRow.holds Try.pinned (OpenSpec.ofChange forestWholeSpec)

/-- ITS FALSE NEIGHBOUR: 'it returns false'. Refute it at one input. -/
def forestWholeWrong : ChangeSpec := { name := "forestWhole", fn := fun _ => fun
  | [d1, d2] => { results := [.lit (.bool false)], args := [d1, d2] }
  | _ => none }
def ForestWholeWrongFalsely : Prop := forestWholeRow.holds Try.pinned (OpenSpec.ofChange forestWholeWrong)

/-- 'graftworklaw.ForestLists': WHATEVER THE INPUT: true; the input reads as it did. -/
def forestListsSpec : ChangeSpec := { name := "forestLists", fn := fun _ => fun
  | [d1, d2, d3] => { results := [.lit (.bool true)], args := [d1, d2, d3] }
  | _ => none }
def forestListsRow : OpenClaim := { program := "ytflgmalhpglklaa", sum := "3f9da9ceb52afbc306fe5f13c4f5865dff1fba21284ecebefc57d1b6ab2745dd", func := "graftwork/graftworklaw.ForestLists", spec := "forestLists", unfollowed := true, recurses := true, plainKeys := false, apart := false }
def ForestListsSaid : Prop := forestListsRow.holds Try.pinned (OpenSpec.ofChange forestListsSpec)

/-- ITS FALSE NEIGHBOUR: 'it returns false'. Refute it at one input. -/
def forestListsWrong : ChangeSpec := { name := "forestLists", fn := fun _ => fun
  | [d1, d2, d3] => { results := [.lit (.bool false)], args := [d1, d2, d3] }
  | _ => none }
def ForestListsWrongFalsely : Prop := forestListsRow.holds Try.pinned (OpenSpec.ofChange forestListsWrong)

/-- 'graftworklaw.ForestBack': WHATEVER THE INPUT: true; the input reads as it did. -/
def forestBackSpec : ChangeSpec := { name := "forestBack", fn := fun _ => fun
  | [d1, d2, d3] => { results := [.lit (.bool true)], args := [d1, d2, d3] }
  | _ => none }
def forestBackRow : OpenClaim := { program := "ytflgmalhpglklaa", sum := "3f9da9ceb52afbc306fe5f13c4f5865dff1fba21284ecebefc57d1b6ab2745dd", func := "graftwork/graftworklaw.ForestBack", spec := "forestBack", unfollowed := true, recurses := true, plainKeys := false, apart := false }
def ForestBackSaid : Prop := forestBackRow.holds Try.pinned (OpenSpec.ofChange forestBackSpec)

/-- ITS FALSE NEIGHBOUR: 'it returns false'. Refute it at one input. -/
def forestBackWrong : ChangeSpec := { name := "forestBack", fn := fun _ => fun
  | [d1, d2, d3] => { results := [.lit (.bool false)], args := [d1, d2, d3] }
  | _ => none }
def ForestBackWrongFalsely : Prop := forestBackRow.holds Try.pinned (OpenSpec.ofChange forestBackWrong)

/- THE SECOND FORM. 'bulk': how many values and letters a reading holds, each counted each time it is reached (what is shared counts as often as it is met; a slice's spare places count too). A statement '..UptoSaid' is the law's where the arguments, and the package variables that the reading takes, are together of bulk at most 1048576: NARROWER than '..Said'. Prove '..Said' where nothing that the law and all that it calls make is longer than what came in: it says more and counts as full. Else prove '..UptoSaid'. A law counts once. -/
mutual
def uptoBulk {H : Type} : DataW H → Nat
  | .lit (.string bytes) => bytes.length + 1
  | .lit _ => 1
  | .nil => 1
  | .ptr d => uptoBulk d + 1
  | .slice elems spare => uptoBulkAll elems + uptoBulkAll spare + 1
  | .agg parts => uptoBulkAll parts + 1
  | .iface _ d => uptoBulk d + 1
  | .map entries => uptoBulkEntries entries + 1
  | .held _ => 1
def uptoBulkAll {H : Type} : List (DataW H) → Nat
  | [] => 0
  | d :: r => uptoBulk d + uptoBulkAll r
def uptoBulkEntries {H : Type} : List (Lit × DataW H) → Nat
  | [] => 0
  | x :: r => uptoBulkEntry x + uptoBulkEntries r
def uptoBulkEntry {H : Type} : Lit × DataW H → Nat
  | (.string bytes, d) => bytes.length + uptoBulk d + 1
  | (_, d) => uptoBulk d + 1
 end
def uptoSmall : (H : Type) → List (DataW H) → Bool := fun _ ds => decide (uptoBulkAll ds ≤ 1048576)
def OpenSpec.upto (s : _root_.Go.ChangeSpec) : _root_.Go.OpenSpec := { _root_.Go.OpenSpec.ofChange s with cond := some uptoSmall }

/-- 'graftworklaw.TurnMakes', WHERE WHAT IT READS IS OF BULK AT MOST 1048576: true; the input reads as it did. -/
def turnMakesUptoRow : OpenClaim := { program := "ytflgmalhpglklaa", sum := "3f9da9ceb52afbc306fe5f13c4f5865dff1fba21284ecebefc57d1b6ab2745dd", func := "graftwork/graftworklaw.TurnMakes", spec := "turnMakes", unfollowed := true, recurses := true, plainKeys := false, apart := false, narrowed := true }
def TurnMakesUptoSaid : Prop := turnMakesUptoRow.holds Try.pinned (OpenSpec.upto turnMakesSpec)

/-- 'graftworklaw.TurnTurns', WHERE WHAT IT READS IS OF BULK AT MOST 1048576: true; the input reads as it did. -/
def turnTurnsUptoRow : OpenClaim := { program := "ytflgmalhpglklaa", sum := "3f9da9ceb52afbc306fe5f13c4f5865dff1fba21284ecebefc57d1b6ab2745dd", func := "graftwork/graftworklaw.TurnTurns", spec := "turnTurns", unfollowed := true, recurses := true, plainKeys := false, apart := false, narrowed := true }
def TurnTurnsUptoSaid : Prop := turnTurnsUptoRow.holds Try.pinned (OpenSpec.upto turnTurnsSpec)

/-- 'graftworklaw.WordsLists', WHERE WHAT IT READS IS OF BULK AT MOST 1048576: true; the input reads as it did. -/
def wordsListsUptoRow : OpenClaim := { program := "ytflgmalhpglklaa", sum := "3f9da9ceb52afbc306fe5f13c4f5865dff1fba21284ecebefc57d1b6ab2745dd", func := "graftwork/graftworklaw.WordsLists", spec := "wordsLists", inPlace := ["slices.overlaps[[]int]"], unfollowed := true, recurses := true, plainKeys := false, apart := false, narrowed := true }
def WordsListsUptoSaid : Prop := wordsListsUptoRow.holds Try.pinned (OpenSpec.upto wordsListsSpec)

/-- 'graftworklaw.WordsMore', WHERE WHAT IT READS IS OF BULK AT MOST 1048576: true; the input reads as it did. -/
def wordsMoreUptoRow : OpenClaim := { program := "ytflgmalhpglklaa", sum := "3f9da9ceb52afbc306fe5f13c4f5865dff1fba21284ecebefc57d1b6ab2745dd", func := "graftwork/graftworklaw.WordsMore", spec := "wordsMore", inPlace := ["slices.overlaps[[]int]"], unfollowed := true, recurses := true, plainKeys := false, apart := false, narrowed := true }
def WordsMoreUptoSaid : Prop := wordsMoreUptoRow.holds Try.pinned (OpenSpec.upto wordsMoreSpec)

/-- 'graftworklaw.ExpandMeans', WHERE WHAT IT READS IS OF BULK AT MOST 1048576: true; the input reads as it did. -/
def expandMeansUptoRow : OpenClaim := { program := "ytflgmalhpglklaa", sum := "3f9da9ceb52afbc306fe5f13c4f5865dff1fba21284ecebefc57d1b6ab2745dd", func := "graftwork/graftworklaw.ExpandMeans", spec := "expandMeans", inPlace := ["internal/abi.NoEscape", "internal/bytealg.MakeNoZero"], unfollowed := true, recurses := true, loops := true, plainKeys := false, apart := false, narrowed := true }
def ExpandMeansUptoSaid : Prop := expandMeansUptoRow.holds Try.pinned (OpenSpec.upto expandMeansSpec)

/-- 'graftworklaw.ChartCounts', WHERE WHAT IT READS IS OF BULK AT MOST 1048576: true; the input reads as it did. -/
def chartCountsUptoRow : OpenClaim := { program := "ytflgmalhpglklaa", sum := "3f9da9ceb52afbc306fe5f13c4f5865dff1fba21284ecebefc57d1b6ab2745dd", func := "graftwork/graftworklaw.ChartCounts", spec := "chartCounts", unfollowed := true, recurses := true, plainKeys := false, apart := false, narrowed := true }
def ChartCountsUptoSaid : Prop := chartCountsUptoRow.holds Try.pinned (OpenSpec.upto chartCountsSpec)

/-- 'graftworklaw.ChartParts', WHERE WHAT IT READS IS OF BULK AT MOST 1048576: true; the input reads as it did. -/
def chartPartsUptoRow : OpenClaim := { program := "ytflgmalhpglklaa", sum := "3f9da9ceb52afbc306fe5f13c4f5865dff1fba21284ecebefc57d1b6ab2745dd", func := "graftwork/graftworklaw.ChartParts", spec := "chartParts", unfollowed := true, recurses := true, plainKeys := false, apart := false, narrowed := true }
def ChartPartsUptoSaid : Prop := chartPartsUptoRow.holds Try.pinned (OpenSpec.upto chartPartsSpec)

/-- 'graftworklaw.ChartSums', WHERE WHAT IT READS IS OF BULK AT MOST 1048576: true; the input reads as it did. -/
def chartSumsUptoRow : OpenClaim := { program := "ytflgmalhpglklaa", sum := "3f9da9ceb52afbc306fe5f13c4f5865dff1fba21284ecebefc57d1b6ab2745dd", func := "graftwork/graftworklaw.ChartSums", spec := "chartSums", unfollowed := true, recurses := true, plainKeys := false, apart := false, narrowed := true }
def ChartSumsUptoSaid : Prop := chartSumsUptoRow.holds Try.pinned (OpenSpec.upto chartSumsSpec)

/-- 'graftworklaw.ThinMakes', WHERE WHAT IT READS IS OF BULK AT MOST 1048576: true; the input reads as it did. -/
def thinMakesUptoRow : OpenClaim := { program := "ytflgmalhpglklaa", sum := "3f9da9ceb52afbc306fe5f13c4f5865dff1fba21284ecebefc57d1b6ab2745dd", func := "graftwork/graftworklaw.ThinMakes", spec := "thinMakes", unfollowed := true, recurses := true, plainKeys := false, apart := false, narrowed := true }
def ThinMakesUptoSaid : Prop := thinMakesUptoRow.holds Try.pinned (OpenSpec.upto thinMakesSpec)

/-- 'graftworklaw.ThinThins', WHERE WHAT IT READS IS OF BULK AT MOST 1048576: true; the input reads as it did. -/
def thinThinsUptoRow : OpenClaim := { program := "ytflgmalhpglklaa", sum := "3f9da9ceb52afbc306fe5f13c4f5865dff1fba21284ecebefc57d1b6ab2745dd", func := "graftwork/graftworklaw.ThinThins", spec := "thinThins", unfollowed := true, recurses := true, plainKeys := false, apart := false, narrowed := true }
def ThinThinsUptoSaid : Prop := thinThinsUptoRow.holds Try.pinned (OpenSpec.upto thinThinsSpec)

/-- 'graftworklaw.ForestRanks', WHERE WHAT IT READS IS OF BULK AT MOST 1048576: true; the input reads as it did. -/
def forestRanksUptoRow : OpenClaim := { program := "ytflgmalhpglklaa", sum := "3f9da9ceb52afbc306fe5f13c4f5865dff1fba21284ecebefc57d1b6ab2745dd", func := "graftwork/graftworklaw.ForestRanks", spec := "forestRanks", unfollowed := true, recurses := true, loops := true, plainKeys := false, apart := false, narrowed := true }
def ForestRanksUptoSaid : Prop := forestRanksUptoRow.holds Try.pinned (OpenSpec.upto forestRanksSpec)

/-- 'graftworklaw.ForestWhole', WHERE WHAT IT READS IS OF BULK AT MOST 1048576: true; the input reads as it did. -/
def forestWholeUptoRow : OpenClaim := { program := "ytflgmalhpglklaa", sum := "3f9da9ceb52afbc306fe5f13c4f5865dff1fba21284ecebefc57d1b6ab2745dd", func := "graftwork/graftworklaw.ForestWhole", spec := "forestWhole", unfollowed := true, recurses := true, plainKeys := false, apart := false, narrowed := true }
def ForestWholeUptoSaid : Prop := forestWholeUptoRow.holds Try.pinned (OpenSpec.upto forestWholeSpec)

/-- 'graftworklaw.ForestLists', WHERE WHAT IT READS IS OF BULK AT MOST 1048576: true; the input reads as it did. -/
def forestListsUptoRow : OpenClaim := { program := "ytflgmalhpglklaa", sum := "3f9da9ceb52afbc306fe5f13c4f5865dff1fba21284ecebefc57d1b6ab2745dd", func := "graftwork/graftworklaw.ForestLists", spec := "forestLists", unfollowed := true, recurses := true, plainKeys := false, apart := false, narrowed := true }
def ForestListsUptoSaid : Prop := forestListsUptoRow.holds Try.pinned (OpenSpec.upto forestListsSpec)

/-- 'graftworklaw.ForestBack', WHERE WHAT IT READS IS OF BULK AT MOST 1048576: true; the input reads as it did. -/
def forestBackUptoRow : OpenClaim := { program := "ytflgmalhpglklaa", sum := "3f9da9ceb52afbc306fe5f13c4f5865dff1fba21284ecebefc57d1b6ab2745dd", func := "graftwork/graftworklaw.ForestBack", spec := "forestBack", unfollowed := true, recurses := true, plainKeys := false, apart := false, narrowed := true }
def ForestBackUptoSaid : Prop := forestBackUptoRow.holds Try.pinned (OpenSpec.upto forestBackSpec)

end Rows
end Go.Proofs.Ytflgmalhpglklaa
