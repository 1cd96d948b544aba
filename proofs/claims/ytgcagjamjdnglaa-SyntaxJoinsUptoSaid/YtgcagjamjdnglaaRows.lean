/-
  NARROWER THAN 'FOR EVERY INPUT', by the rows' own cells (each row's printed sentence says how): FragChecks: loops · FragBacks: loops · SyntaxSames: loops · DefsDoes: loops · DefsTurns: loops · FragPlugs: loops.
  DERIVED. THE GIVEN ROWS OF THIS SEAT. 15 by the template 'for every input the law returns true; each argument reads behind the call as it read before'; 0 by the template 'total and deterministic' (their statements: YtgcagjamjdnglaaTotals.lean).
  GIVEN WITH THE SEED: the statements are not yours to turn. If you find one false, say at which input.
  Laid BY PROGRAM, IN A SANDBOX (cutbox-rows.mjs): the forced cells as the released guide's own fill.sh prints them over the translation ce2e65c10a91f105… (all of the seat's roots in one cut). By AI agents, Wed Nov 11 2026. No macro, syntax, notation, axiom, sorry.
-/
import Derived.Test.YtgcagjamjdnglaaChecked
import GoSem.Claim
import GoSem.ClaimJoined
import GoSem.ClaimMapViews
import Derived.JoinedTies
import Derived.KernelRfl
namespace Go.Proofs.Ytgcagjamjdnglaa
/- THE CELL 'sum', in the pinned program and in every row, IS THE sha256 OF THE DUMP (.gsa) THAT YtgcagjamjdnglaaProg.lean LOADS. Nothing in Lean hashes anything: it is a label: what it is worth is what the hold of that sum in a sandbox is worth. -/
noncomputable def Try.pinned : Pinned := { name := "ytgcagjamjdnglaa", sum := "ce2e65c10a91f105abb253968d5116023c7ce5d4a0a83da317b1821acba5210c", checked := Try.checked }
namespace Rows
def none {H : Type} : Left H := { results := [], args := [] }

/-- 'graftworklaw.FactorMakes': WHATEVER THE INPUT: true; the input reads as it did. -/
def factorMakesSpec : ChangeSpec := { name := "factorMakes", fn := fun _ => fun
  | [d] => { results := [.lit (.bool true)], args := [d] }
  | _ => none }
def factorMakesRow : OpenClaim := { program := "ytgcagjamjdnglaa", sum := "ce2e65c10a91f105abb253968d5116023c7ce5d4a0a83da317b1821acba5210c", func := "graftwork/graftworklaw.FactorMakes", spec := "factorMakes", unfollowed := true, recurses := true, plainKeys := false, apart := false }
def FactorMakesSaid : Prop := factorMakesRow.holds Try.pinned (OpenSpec.ofChange factorMakesSpec)

/-- ITS FALSE NEIGHBOUR: 'it returns false'. Refute it at one input. -/
def factorMakesWrong : ChangeSpec := { name := "factorMakes", fn := fun _ => fun
  | [d] => { results := [.lit (.bool false)], args := [d] }
  | _ => none }
def FactorMakesWrongFalsely : Prop := factorMakesRow.holds Try.pinned (OpenSpec.ofChange factorMakesWrong)

/-- 'graftworklaw.FactorFactors': WHATEVER THE INPUT: true; the input reads as it did. -/
def factorFactorsSpec : ChangeSpec := { name := "factorFactors", fn := fun _ => fun
  | [d] => { results := [.lit (.bool true)], args := [d] }
  | _ => none }
def factorFactorsRow : OpenClaim := { program := "ytgcagjamjdnglaa", sum := "ce2e65c10a91f105abb253968d5116023c7ce5d4a0a83da317b1821acba5210c", func := "graftwork/graftworklaw.FactorFactors", spec := "factorFactors", unfollowed := true, recurses := true, plainKeys := false, apart := false }
def FactorFactorsSaid : Prop := factorFactorsRow.holds Try.pinned (OpenSpec.ofChange factorFactorsSpec)

/-- ITS FALSE NEIGHBOUR: 'it returns false'. Refute it at one input. -/
def factorFactorsWrong : ChangeSpec := { name := "factorFactors", fn := fun _ => fun
  | [d] => { results := [.lit (.bool false)], args := [d] }
  | _ => none }
def FactorFactorsWrongFalsely : Prop := factorFactorsRow.holds Try.pinned (OpenSpec.ofChange factorFactorsWrong)

/-- 'graftworklaw.FragChecks': WHATEVER THE INPUT: true; the input reads as it did. -/
def fragChecksSpec : ChangeSpec := { name := "fragChecks", fn := fun _ => fun
  | [d1, d2] => { results := [.lit (.bool true)], args := [d1, d2] }
  | _ => none }
def fragChecksRow : OpenClaim := { program := "ytgcagjamjdnglaa", sum := "ce2e65c10a91f105abb253968d5116023c7ce5d4a0a83da317b1821acba5210c", func := "graftwork/graftworklaw.FragChecks", spec := "fragChecks", unfollowed := true, recurses := true, loops := true, plainKeys := false, apart := false }
def FragChecksSaid : Prop := fragChecksRow.holds Try.pinned (OpenSpec.ofChange fragChecksSpec)

/-- ITS FALSE NEIGHBOUR: 'it returns false'. Refute it at one input. -/
def fragChecksWrong : ChangeSpec := { name := "fragChecks", fn := fun _ => fun
  | [d1, d2] => { results := [.lit (.bool false)], args := [d1, d2] }
  | _ => none }
def FragChecksWrongFalsely : Prop := fragChecksRow.holds Try.pinned (OpenSpec.ofChange fragChecksWrong)

/-- 'graftworklaw.FragBacks': WHATEVER THE INPUT: true; the input reads as it did. -/
def fragBacksSpec : ChangeSpec := { name := "fragBacks", fn := fun _ => fun
  | [d1, d2, d3] => { results := [.lit (.bool true)], args := [d1, d2, d3] }
  | _ => none }
def fragBacksRow : OpenClaim := { program := "ytgcagjamjdnglaa", sum := "ce2e65c10a91f105abb253968d5116023c7ce5d4a0a83da317b1821acba5210c", func := "graftwork/graftworklaw.FragBacks", spec := "fragBacks", unfollowed := true, recurses := true, loops := true, plainKeys := false, apart := false }
def FragBacksSaid : Prop := fragBacksRow.holds Try.pinned (OpenSpec.ofChange fragBacksSpec)

/-- ITS FALSE NEIGHBOUR: 'it returns false'. Refute it at one input. -/
def fragBacksWrong : ChangeSpec := { name := "fragBacks", fn := fun _ => fun
  | [d1, d2, d3] => { results := [.lit (.bool false)], args := [d1, d2, d3] }
  | _ => none }
def FragBacksWrongFalsely : Prop := fragBacksRow.holds Try.pinned (OpenSpec.ofChange fragBacksWrong)

/-- 'graftworklaw.SyntaxParses': WHATEVER THE INPUT: true; the input reads as it did. -/
def syntaxParsesSpec : ChangeSpec := { name := "syntaxParses", fn := fun _ => fun
  | [d] => { results := [.lit (.bool true)], args := [d] }
  | _ => none }
def syntaxParsesRow : OpenClaim := { program := "ytgcagjamjdnglaa", sum := "ce2e65c10a91f105abb253968d5116023c7ce5d4a0a83da317b1821acba5210c", func := "graftwork/graftworklaw.SyntaxParses", spec := "syntaxParses", inPlace := ["internal/bytealg.IndexByteString"], unfollowed := true, recurses := true, plainKeys := false, apart := false }
def SyntaxParsesSaid : Prop := syntaxParsesRow.holds Try.pinned (OpenSpec.ofChange syntaxParsesSpec)

/-- ITS FALSE NEIGHBOUR: 'it returns false'. Refute it at one input. -/
def syntaxParsesWrong : ChangeSpec := { name := "syntaxParses", fn := fun _ => fun
  | [d] => { results := [.lit (.bool false)], args := [d] }
  | _ => none }
def SyntaxParsesWrongFalsely : Prop := syntaxParsesRow.holds Try.pinned (OpenSpec.ofChange syntaxParsesWrong)

/-- 'graftworklaw.SyntaxSames': WHATEVER THE INPUT: true; the input reads as it did. -/
def syntaxSamesSpec : ChangeSpec := { name := "syntaxSames", fn := fun _ => fun
  | [d1, d2] => { results := [.lit (.bool true)], args := [d1, d2] }
  | _ => none }
def syntaxSamesRow : OpenClaim := { program := "ytgcagjamjdnglaa", sum := "ce2e65c10a91f105abb253968d5116023c7ce5d4a0a83da317b1821acba5210c", func := "graftwork/graftworklaw.SyntaxSames", spec := "syntaxSames", inPlace := ["internal/bytealg.IndexByteString"], unfollowed := true, recurses := true, loops := true, plainKeys := false, apart := false }
def SyntaxSamesSaid : Prop := syntaxSamesRow.holds Try.pinned (OpenSpec.ofChange syntaxSamesSpec)

/-- ITS FALSE NEIGHBOUR: 'it returns false'. Refute it at one input. -/
def syntaxSamesWrong : ChangeSpec := { name := "syntaxSames", fn := fun _ => fun
  | [d1, d2] => { results := [.lit (.bool false)], args := [d1, d2] }
  | _ => none }
def SyntaxSamesWrongFalsely : Prop := syntaxSamesRow.holds Try.pinned (OpenSpec.ofChange syntaxSamesWrong)

/-- 'graftworklaw.SyntaxJoins': WHATEVER THE INPUT: true; the input reads as it did. -/
def syntaxJoinsSpec : ChangeSpec := { name := "syntaxJoins", fn := fun _ => fun
  | [d1, d2] => { results := [.lit (.bool true)], args := [d1, d2] }
  | _ => none }
def syntaxJoinsRow : OpenClaim := { program := "ytgcagjamjdnglaa", sum := "ce2e65c10a91f105abb253968d5116023c7ce5d4a0a83da317b1821acba5210c", func := "graftwork/graftworklaw.SyntaxJoins", spec := "syntaxJoins", inPlace := ["internal/bytealg.IndexByteString"], unfollowed := true, recurses := true, plainKeys := false, apart := false }
def SyntaxJoinsSaid : Prop := syntaxJoinsRow.holds Try.pinned (OpenSpec.ofChange syntaxJoinsSpec)

/-- ITS FALSE NEIGHBOUR: 'it returns false'. Refute it at one input. -/
def syntaxJoinsWrong : ChangeSpec := { name := "syntaxJoins", fn := fun _ => fun
  | [d1, d2] => { results := [.lit (.bool false)], args := [d1, d2] }
  | _ => none }
def SyntaxJoinsWrongFalsely : Prop := syntaxJoinsRow.holds Try.pinned (OpenSpec.ofChange syntaxJoinsWrong)

/-- 'graftworklaw.ChartCounts': WHATEVER THE INPUT: true; the input reads as it did. -/
def chartCountsSpec : ChangeSpec := { name := "chartCounts", fn := fun _ => fun
  | [d1, d2, d3, d4, d5, d6, d7] => { results := [.lit (.bool true)], args := [d1, d2, d3, d4, d5, d6, d7] }
  | _ => none }
def chartCountsRow : OpenClaim := { program := "ytgcagjamjdnglaa", sum := "ce2e65c10a91f105abb253968d5116023c7ce5d4a0a83da317b1821acba5210c", func := "graftwork/graftworklaw.ChartCounts", spec := "chartCounts", unfollowed := true, recurses := true, plainKeys := false, apart := false }
def ChartCountsSaid : Prop := chartCountsRow.holds Try.pinned (OpenSpec.ofChange chartCountsSpec)

/-- ITS FALSE NEIGHBOUR: 'it returns false'. Refute it at one input. -/
def chartCountsWrong : ChangeSpec := { name := "chartCounts", fn := fun _ => fun
  | [d1, d2, d3, d4, d5, d6, d7] => { results := [.lit (.bool false)], args := [d1, d2, d3, d4, d5, d6, d7] }
  | _ => none }
def ChartCountsWrongFalsely : Prop := chartCountsRow.holds Try.pinned (OpenSpec.ofChange chartCountsWrong)

/-- 'graftworklaw.ChartParts': WHATEVER THE INPUT: true; the input reads as it did. -/
def chartPartsSpec : ChangeSpec := { name := "chartParts", fn := fun _ => fun
  | [d1, d2, d3, d4] => { results := [.lit (.bool true)], args := [d1, d2, d3, d4] }
  | _ => none }
def chartPartsRow : OpenClaim := { program := "ytgcagjamjdnglaa", sum := "ce2e65c10a91f105abb253968d5116023c7ce5d4a0a83da317b1821acba5210c", func := "graftwork/graftworklaw.ChartParts", spec := "chartParts", unfollowed := true, recurses := true, plainKeys := false, apart := false }
def ChartPartsSaid : Prop := chartPartsRow.holds Try.pinned (OpenSpec.ofChange chartPartsSpec)

/-- ITS FALSE NEIGHBOUR: 'it returns false'. Refute it at one input. -/
def chartPartsWrong : ChangeSpec := { name := "chartParts", fn := fun _ => fun
  | [d1, d2, d3, d4] => { results := [.lit (.bool false)], args := [d1, d2, d3, d4] }
  | _ => none }
def ChartPartsWrongFalsely : Prop := chartPartsRow.holds Try.pinned (OpenSpec.ofChange chartPartsWrong)

/-- 'graftworklaw.ChartSums': WHATEVER THE INPUT: true; the input reads as it did. -/
def chartSumsSpec : ChangeSpec := { name := "chartSums", fn := fun _ => fun
  | [d1, d2] => { results := [.lit (.bool true)], args := [d1, d2] }
  | _ => none }
def chartSumsRow : OpenClaim := { program := "ytgcagjamjdnglaa", sum := "ce2e65c10a91f105abb253968d5116023c7ce5d4a0a83da317b1821acba5210c", func := "graftwork/graftworklaw.ChartSums", spec := "chartSums", unfollowed := true, recurses := true, plainKeys := false, apart := false }
def ChartSumsSaid : Prop := chartSumsRow.holds Try.pinned (OpenSpec.ofChange chartSumsSpec)

/-- ITS FALSE NEIGHBOUR: 'it returns false'. Refute it at one input. -/
def chartSumsWrong : ChangeSpec := { name := "chartSums", fn := fun _ => fun
  | [d1, d2] => { results := [.lit (.bool false)], args := [d1, d2] }
  | _ => none }
def ChartSumsWrongFalsely : Prop := chartSumsRow.holds Try.pinned (OpenSpec.ofChange chartSumsWrong)

/-- 'graftworklaw.DefsDoes': WHATEVER THE INPUT: true; the input reads as it did. -/
def defsDoesSpec : ChangeSpec := { name := "defsDoes", fn := fun _ => fun
  | [d] => { results := [.lit (.bool true)], args := [d] }
  | _ => none }
def defsDoesRow : OpenClaim := { program := "ytgcagjamjdnglaa", sum := "ce2e65c10a91f105abb253968d5116023c7ce5d4a0a83da317b1821acba5210c", func := "graftwork/graftworklaw.DefsDoes", spec := "defsDoes", inPlace := ["internal/abi.NoEscape", "internal/bytealg.MakeNoZero"], unfollowed := true, recurses := true, loops := true, plainKeys := false, apart := false }
def DefsDoesSaid : Prop := defsDoesRow.holds Try.pinned (OpenSpec.ofChange defsDoesSpec)

/-- ITS FALSE NEIGHBOUR: 'it returns false'. Refute it at one input. -/
def defsDoesWrong : ChangeSpec := { name := "defsDoes", fn := fun _ => fun
  | [d] => { results := [.lit (.bool false)], args := [d] }
  | _ => none }
def DefsDoesWrongFalsely : Prop := defsDoesRow.holds Try.pinned (OpenSpec.ofChange defsDoesWrong)

/-- 'graftworklaw.DefsTurns': WHATEVER THE INPUT: true; the input reads as it did. -/
def defsTurnsSpec : ChangeSpec := { name := "defsTurns", fn := fun _ => fun
  | [d1, d2] => { results := [.lit (.bool true)], args := [d1, d2] }
  | _ => none }
def defsTurnsRow : OpenClaim := { program := "ytgcagjamjdnglaa", sum := "ce2e65c10a91f105abb253968d5116023c7ce5d4a0a83da317b1821acba5210c", func := "graftwork/graftworklaw.DefsTurns", spec := "defsTurns", inPlace := ["internal/abi.NoEscape", "internal/bytealg.MakeNoZero"], unfollowed := true, recurses := true, loops := true, plainKeys := false, apart := false }
def DefsTurnsSaid : Prop := defsTurnsRow.holds Try.pinned (OpenSpec.ofChange defsTurnsSpec)

/-- ITS FALSE NEIGHBOUR: 'it returns false'. Refute it at one input. -/
def defsTurnsWrong : ChangeSpec := { name := "defsTurns", fn := fun _ => fun
  | [d1, d2] => { results := [.lit (.bool false)], args := [d1, d2] }
  | _ => none }
def DefsTurnsWrongFalsely : Prop := defsTurnsRow.holds Try.pinned (OpenSpec.ofChange defsTurnsWrong)

/-- 'graftworklaw.ShortMakes': WHATEVER THE INPUT: true; the input reads as it did. -/
def shortMakesSpec : ChangeSpec := { name := "shortMakes", fn := fun _ => fun
  | [d] => { results := [.lit (.bool true)], args := [d] }
  | _ => none }
def shortMakesRow : OpenClaim := { program := "ytgcagjamjdnglaa", sum := "ce2e65c10a91f105abb253968d5116023c7ce5d4a0a83da317b1821acba5210c", func := "graftwork/graftworklaw.ShortMakes", spec := "shortMakes", unfollowed := true, recurses := true, plainKeys := false, apart := false }
def ShortMakesSaid : Prop := shortMakesRow.holds Try.pinned (OpenSpec.ofChange shortMakesSpec)

/-- ITS FALSE NEIGHBOUR: 'it returns false'. Refute it at one input. -/
def shortMakesWrong : ChangeSpec := { name := "shortMakes", fn := fun _ => fun
  | [d] => { results := [.lit (.bool false)], args := [d] }
  | _ => none }
def ShortMakesWrongFalsely : Prop := shortMakesRow.holds Try.pinned (OpenSpec.ofChange shortMakesWrong)

/-- 'graftworklaw.ShortShorts': WHATEVER THE INPUT: true; the input reads as it did. -/
def shortShortsSpec : ChangeSpec := { name := "shortShorts", fn := fun _ => fun
  | [d] => { results := [.lit (.bool true)], args := [d] }
  | _ => none }
def shortShortsRow : OpenClaim := { program := "ytgcagjamjdnglaa", sum := "ce2e65c10a91f105abb253968d5116023c7ce5d4a0a83da317b1821acba5210c", func := "graftwork/graftworklaw.ShortShorts", spec := "shortShorts", unfollowed := true, recurses := true, plainKeys := false, apart := false }
def ShortShortsSaid : Prop := shortShortsRow.holds Try.pinned (OpenSpec.ofChange shortShortsSpec)

/-- ITS FALSE NEIGHBOUR: 'it returns false'. Refute it at one input. -/
def shortShortsWrong : ChangeSpec := { name := "shortShorts", fn := fun _ => fun
  | [d] => { results := [.lit (.bool false)], args := [d] }
  | _ => none }
def ShortShortsWrongFalsely : Prop := shortShortsRow.holds Try.pinned (OpenSpec.ofChange shortShortsWrong)

/-- 'graftworklaw.FragPlugs': WHATEVER THE INPUT: true; the input reads as it did. -/
def fragPlugsSpec : ChangeSpec := { name := "fragPlugs", fn := fun _ => fun
  | [d1, d2, d3, d4] => { results := [.lit (.bool true)], args := [d1, d2, d3, d4] }
  | _ => none }
def fragPlugsRow : OpenClaim := { program := "ytgcagjamjdnglaa", sum := "ce2e65c10a91f105abb253968d5116023c7ce5d4a0a83da317b1821acba5210c", func := "graftwork/graftworklaw.FragPlugs", spec := "fragPlugs", unfollowed := true, recurses := true, loops := true, plainKeys := false, apart := false }
def FragPlugsSaid : Prop := fragPlugsRow.holds Try.pinned (OpenSpec.ofChange fragPlugsSpec)

/-- ITS FALSE NEIGHBOUR: 'it returns false'. Refute it at one input. -/
def fragPlugsWrong : ChangeSpec := { name := "fragPlugs", fn := fun _ => fun
  | [d1, d2, d3, d4] => { results := [.lit (.bool false)], args := [d1, d2, d3, d4] }
  | _ => none }
def FragPlugsWrongFalsely : Prop := fragPlugsRow.holds Try.pinned (OpenSpec.ofChange fragPlugsWrong)

/- THE SECOND FORM. 'bulk': how many values and letters a reading holds, each counted each time it is reached (what is shared counts as often as it is met; a slice's spare places count too). A statement '..UptoSaid' is the law's where the arguments, and the package variables that the reading takes, are together of bulk at most 1048576: NARROWER than '..Said'. Prove '..Said' where nothing that the law and all that it calls make is longer than what came in: it says more and counts as full. Else prove '..UptoSaid'. A law counts once. -/
mutual
def uptoBulk {H : Type} : DataW H → Nat
  | .lit (.string bytes) => bytes.length + 1
  | .lit _ => 1
  | .nil => 1
  | .ptr d => uptoBulk d + 1
  | .slice elems spare => uptoBulkAll elems + uptoBulkAll spare + 1
  | .agg parts => uptoBulkAll parts + 1
  | .iface _ d => uptoBulk d + 1
  | .map entries => uptoBulkEntries entries + 1
  | .held _ => 1
def uptoBulkAll {H : Type} : List (DataW H) → Nat
  | [] => 0
  | d :: r => uptoBulk d + uptoBulkAll r
def uptoBulkEntries {H : Type} : List (Lit × DataW H) → Nat
  | [] => 0
  | x :: r => uptoBulkEntry x + uptoBulkEntries r
def uptoBulkEntry {H : Type} : Lit × DataW H → Nat
  | (.string bytes, d) => bytes.length + uptoBulk d + 1
  | (_, d) => uptoBulk d + 1
 end
def uptoSmall : (H : Type) → List (DataW H) → Bool := fun _ ds => decide (uptoBulkAll ds ≤ 1048576)
def OpenSpec.upto (s : _root_.Go.ChangeSpec) : _root_.Go.OpenSpec := { _root_.Go.OpenSpec.ofChange s with cond := some uptoSmall }

/-- 'graftworklaw.FactorMakes', WHERE WHAT IT READS IS OF BULK AT MOST 1048576: true; the input reads as it did. -/
def factorMakesUptoRow : OpenClaim := { program := "ytgcagjamjdnglaa", sum := "ce2e65c10a91f105abb253968d5116023c7ce5d4a0a83da317b1821acba5210c", func := "graftwork/graftworklaw.FactorMakes", spec := "factorMakes", unfollowed := true, recurses := true, plainKeys := false, apart := false, narrowed := true }
def FactorMakesUptoSaid : Prop := factorMakesUptoRow.holds Try.pinned (OpenSpec.upto factorMakesSpec)

/-- 'graftworklaw.FactorFactors', WHERE WHAT IT READS IS OF BULK AT MOST 1048576: true; the input reads as it did. -/
def factorFactorsUptoRow : OpenClaim := { program := "ytgcagjamjdnglaa", sum := "ce2e65c10a91f105abb253968d5116023c7ce5d4a0a83da317b1821acba5210c", func := "graftwork/graftworklaw.FactorFactors", spec := "factorFactors", unfollowed := true, recurses := true, plainKeys := false, apart := false, narrowed := true }
def FactorFactorsUptoSaid : Prop := factorFactorsUptoRow.holds Try.pinned (OpenSpec.upto factorFactorsSpec)

/-- 'graftworklaw.FragChecks', WHERE WHAT IT READS IS OF BULK AT MOST 1048576: true; the input reads as it did. -/
def fragChecksUptoRow : OpenClaim := { program := "ytgcagjamjdnglaa", sum := "ce2e65c10a91f105abb253968d5116023c7ce5d4a0a83da317b1821acba5210c", func := "graftwork/graftworklaw.FragChecks", spec := "fragChecks", unfollowed := true, recurses := true, loops := true, plainKeys := false, apart := false, narrowed := true }
def FragChecksUptoSaid : Prop := fragChecksUptoRow.holds Try.pinned (OpenSpec.upto fragChecksSpec)

/-- 'graftworklaw.FragBacks', WHERE WHAT IT READS IS OF BULK AT MOST 1048576: true; the input reads as it did. -/
def fragBacksUptoRow : OpenClaim := { program := "ytgcagjamjdnglaa", sum := "ce2e65c10a91f105abb253968d5116023c7ce5d4a0a83da317b1821acba5210c", func := "graftwork/graftworklaw.FragBacks", spec := "fragBacks", unfollowed := true, recurses := true, loops := true, plainKeys := false, apart := false, narrowed := true }
def FragBacksUptoSaid : Prop := fragBacksUptoRow.holds Try.pinned (OpenSpec.upto fragBacksSpec)

/-- 'graftworklaw.SyntaxParses', WHERE WHAT IT READS IS OF BULK AT MOST 1048576: true; the input reads as it did. -/
def syntaxParsesUptoRow : OpenClaim := { program := "ytgcagjamjdnglaa", sum := "ce2e65c10a91f105abb253968d5116023c7ce5d4a0a83da317b1821acba5210c", func := "graftwork/graftworklaw.SyntaxParses", spec := "syntaxParses", inPlace := ["internal/bytealg.IndexByteString"], unfollowed := true, recurses := true, plainKeys := false, apart := false, narrowed := true }
def SyntaxParsesUptoSaid : Prop := syntaxParsesUptoRow.holds Try.pinned (OpenSpec.upto syntaxParsesSpec)

/-- 'graftworklaw.SyntaxSames', WHERE WHAT IT READS IS OF BULK AT MOST 1048576: true; the input reads as it did. -/
def syntaxSamesUptoRow : OpenClaim := { program := "ytgcagjamjdnglaa", sum := "ce2e65c10a91f105abb253968d5116023c7ce5d4a0a83da317b1821acba5210c", func := "graftwork/graftworklaw.SyntaxSames", spec := "syntaxSames", inPlace := ["internal/bytealg.IndexByteString"], unfollowed := true, recurses := true, loops := true, plainKeys := false, apart := false, narrowed := true }
def SyntaxSamesUptoSaid : Prop := syntaxSamesUptoRow.holds Try.pinned (OpenSpec.upto syntaxSamesSpec)

/-- 'graftworklaw.SyntaxJoins', WHERE WHAT IT READS IS OF BULK AT MOST 1048576: true; the input reads as it did. -/
def syntaxJoinsUptoRow : OpenClaim := { program := "ytgcagjamjdnglaa", sum := "ce2e65c10a91f105abb253968d5116023c7ce5d4a0a83da317b1821acba5210c", func := "graftwork/graftworklaw.SyntaxJoins", spec := "syntaxJoins", inPlace := ["internal/bytealg.IndexByteString"], unfollowed := true, recurses := true, plainKeys := false, apart := false, narrowed := true }
def SyntaxJoinsUptoSaid : Prop := syntaxJoinsUptoRow.holds Try.pinned (OpenSpec.upto syntaxJoinsSpec)

/-- 'graftworklaw.ChartCounts', WHERE WHAT IT READS IS OF BULK AT MOST 1048576: true; the input reads as it did. -/
def chartCountsUptoRow : OpenClaim := { program := "ytgcagjamjdnglaa", sum := "ce2e65c10a91f105abb253968d5116023c7ce5d4a0a83da317b1821acba5210c", func := "graftwork/graftworklaw.ChartCounts", spec := "chartCounts", unfollowed := true, recurses := true, plainKeys := false, apart := false, narrowed := true }
def ChartCountsUptoSaid : Prop := chartCountsUptoRow.holds Try.pinned (OpenSpec.upto chartCountsSpec)

/-- 'graftworklaw.ChartParts', WHERE WHAT IT READS IS OF BULK AT MOST 1048576: true; the input reads as it did. -/
def chartPartsUptoRow : OpenClaim := { program := "ytgcagjamjdnglaa", sum := "ce2e65c10a91f105abb253968d5116023c7ce5d4a0a83da317b1821acba5210c", func := "graftwork/graftworklaw.ChartParts", spec := "chartParts", unfollowed := true, recurses := true, plainKeys := false, apart := false, narrowed := true }
def ChartPartsUptoSaid : Prop := chartPartsUptoRow.holds Try.pinned (OpenSpec.upto chartPartsSpec)

/-- 'graftworklaw.ChartSums', WHERE WHAT IT READS IS OF BULK AT MOST 1048576: true; the input reads as it did. -/
def chartSumsUptoRow : OpenClaim := { program := "ytgcagjamjdnglaa", sum := "ce2e65c10a91f105abb253968d5116023c7ce5d4a0a83da317b1821acba5210c", func := "graftwork/graftworklaw.ChartSums", spec := "chartSums", unfollowed := true, recurses := true, plainKeys := false, apart := false, narrowed := true }
def ChartSumsUptoSaid : Prop := chartSumsUptoRow.holds Try.pinned (OpenSpec.upto chartSumsSpec)

/-- 'graftworklaw.DefsDoes', WHERE WHAT IT READS IS OF BULK AT MOST 1048576: true; the input reads as it did. -/
def defsDoesUptoRow : OpenClaim := { program := "ytgcagjamjdnglaa", sum := "ce2e65c10a91f105abb253968d5116023c7ce5d4a0a83da317b1821acba5210c", func := "graftwork/graftworklaw.DefsDoes", spec := "defsDoes", inPlace := ["internal/abi.NoEscape", "internal/bytealg.MakeNoZero"], unfollowed := true, recurses := true, loops := true, plainKeys := false, apart := false, narrowed := true }
def DefsDoesUptoSaid : Prop := defsDoesUptoRow.holds Try.pinned (OpenSpec.upto defsDoesSpec)

/-- 'graftworklaw.DefsTurns', WHERE WHAT IT READS IS OF BULK AT MOST 1048576: true; the input reads as it did. -/
def defsTurnsUptoRow : OpenClaim := { program := "ytgcagjamjdnglaa", sum := "ce2e65c10a91f105abb253968d5116023c7ce5d4a0a83da317b1821acba5210c", func := "graftwork/graftworklaw.DefsTurns", spec := "defsTurns", inPlace := ["internal/abi.NoEscape", "internal/bytealg.MakeNoZero"], unfollowed := true, recurses := true, loops := true, plainKeys := false, apart := false, narrowed := true }
def DefsTurnsUptoSaid : Prop := defsTurnsUptoRow.holds Try.pinned (OpenSpec.upto defsTurnsSpec)

/-- 'graftworklaw.ShortMakes', WHERE WHAT IT READS IS OF BULK AT MOST 1048576: true; the input reads as it did. -/
def shortMakesUptoRow : OpenClaim := { program := "ytgcagjamjdnglaa", sum := "ce2e65c10a91f105abb253968d5116023c7ce5d4a0a83da317b1821acba5210c", func := "graftwork/graftworklaw.ShortMakes", spec := "shortMakes", unfollowed := true, recurses := true, plainKeys := false, apart := false, narrowed := true }
def ShortMakesUptoSaid : Prop := shortMakesUptoRow.holds Try.pinned (OpenSpec.upto shortMakesSpec)

/-- 'graftworklaw.ShortShorts', WHERE WHAT IT READS IS OF BULK AT MOST 1048576: true; the input reads as it did. -/
def shortShortsUptoRow : OpenClaim := { program := "ytgcagjamjdnglaa", sum := "ce2e65c10a91f105abb253968d5116023c7ce5d4a0a83da317b1821acba5210c", func := "graftwork/graftworklaw.ShortShorts", spec := "shortShorts", unfollowed := true, recurses := true, plainKeys := false, apart := false, narrowed := true }
def ShortShortsUptoSaid : Prop := shortShortsUptoRow.holds Try.pinned (OpenSpec.upto shortShortsSpec)

/-- 'graftworklaw.FragPlugs', WHERE WHAT IT READS IS OF BULK AT MOST 1048576: true; the input reads as it did. -/
def fragPlugsUptoRow : OpenClaim := { program := "ytgcagjamjdnglaa", sum := "ce2e65c10a91f105abb253968d5116023c7ce5d4a0a83da317b1821acba5210c", func := "graftwork/graftworklaw.FragPlugs", spec := "fragPlugs", unfollowed := true, recurses := true, loops := true, plainKeys := false, apart := false, narrowed := true }
def FragPlugsUptoSaid : Prop := fragPlugsUptoRow.holds Try.pinned (OpenSpec.upto fragPlugsSpec)

end Rows
end Go.Proofs.Ytgcagjamjdnglaa
