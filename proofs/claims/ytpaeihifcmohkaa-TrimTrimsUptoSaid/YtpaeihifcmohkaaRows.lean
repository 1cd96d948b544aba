/-
  NARROWER THAN 'FOR EVERY INPUT', by the rows' own cells (each row's printed sentence says how): TreeOrders: loops · TreeDoes: loops.
  DERIVED. THE GIVEN ROWS OF THIS SEAT. 12 by the template 'for every input the law returns true; each argument reads behind the call as it read before'; 0 by the template 'total and deterministic' (their statements: YtpaeihifcmohkaaTotals.lean).
  GIVEN WITH THE SEED: the statements are not yours to turn. If you find one false, say at which input.
  Laid BY PROGRAM, IN A SANDBOX (cutbox-rows.mjs): the forced cells as the released guide's own fill.sh prints them over the translation 07694219e391cce6… (all of the seat's roots in one cut). By AI agents, Wed Nov 11 2026. No macro, syntax, notation, axiom, sorry.
-/
import Derived.Test.YtpaeihifcmohkaaChecked
import GoSem.Claim
import GoSem.ClaimJoined
import GoSem.ClaimMapViews
import Derived.JoinedTies
import Derived.KernelRfl
namespace Go.Proofs.Ytpaeihifcmohkaa
/- THE CELL 'sum', in the pinned program and in every row, IS THE sha256 OF THE DUMP (.gsa) THAT YtpaeihifcmohkaaProg.lean LOADS. Nothing in Lean hashes anything: it is a label: what it is worth is what the hold of that sum in a sandbox is worth. -/
noncomputable def Try.pinned : Pinned := { name := "ytpaeihifcmohkaa", sum := "07694219e391cce664176e0d405a6bc8d8c0b796077819df5a2124fb6c1a2370", checked := Try.checked }
namespace Rows
def none {H : Type} : Left H := { results := [], args := [] }

/-- 'graftworklaw.TokenScans': WHATEVER THE INPUT: true; the input reads as it did. -/
def tokenScansSpec : ChangeSpec := { name := "tokenScans", fn := fun _ => fun
  | [d] => { results := [.lit (.bool true)], args := [d] }
  | _ => none }
def tokenScansRow : OpenClaim := { program := "ytpaeihifcmohkaa", sum := "07694219e391cce664176e0d405a6bc8d8c0b796077819df5a2124fb6c1a2370", func := "graftwork/graftworklaw.TokenScans", spec := "tokenScans", inPlace := ["internal/bytealg.IndexByteString"], unfollowed := true, recurses := true, apart := false }
def TokenScansSaid : Prop := tokenScansRow.holds Try.pinned (OpenSpec.ofChange tokenScansSpec)

/-- ITS FALSE NEIGHBOUR: 'it returns false'. Refute it at one input. -/
def tokenScansWrong : ChangeSpec := { name := "tokenScans", fn := fun _ => fun
  | [d] => { results := [.lit (.bool false)], args := [d] }
  | _ => none }
def TokenScansWrongFalsely : Prop := tokenScansRow.holds Try.pinned (OpenSpec.ofChange tokenScansWrong)

/-- 'graftworklaw.TokenBack': WHATEVER THE INPUT: true; the input reads as it did. -/
def tokenBackSpec : ChangeSpec := { name := "tokenBack", fn := fun _ => fun
  | [d] => { results := [.lit (.bool true)], args := [d] }
  | _ => none }
def tokenBackRow : OpenClaim := { program := "ytpaeihifcmohkaa", sum := "07694219e391cce664176e0d405a6bc8d8c0b796077819df5a2124fb6c1a2370", func := "graftwork/graftworklaw.TokenBack", spec := "tokenBack", inPlace := ["internal/bytealg.IndexByteString"], unfollowed := true, recurses := true, apart := false }
def TokenBackSaid : Prop := tokenBackRow.holds Try.pinned (OpenSpec.ofChange tokenBackSpec)

/-- ITS FALSE NEIGHBOUR: 'it returns false'. Refute it at one input. -/
def tokenBackWrong : ChangeSpec := { name := "tokenBack", fn := fun _ => fun
  | [d] => { results := [.lit (.bool false)], args := [d] }
  | _ => none }
def TokenBackWrongFalsely : Prop := tokenBackRow.holds Try.pinned (OpenSpec.ofChange tokenBackWrong)

/-- 'graftworklaw.GramDoes': WHATEVER THE INPUT: true; the input reads as it did. -/
def gramDoesSpec : ChangeSpec := { name := "gramDoes", fn := fun _ => fun
  | [d1, d2, d3] => { results := [.lit (.bool true)], args := [d1, d2, d3] }
  | _ => none }
def gramDoesRow : OpenClaim := { program := "ytpaeihifcmohkaa", sum := "07694219e391cce664176e0d405a6bc8d8c0b796077819df5a2124fb6c1a2370", func := "graftwork/graftworklaw.GramDoes", spec := "gramDoes", unfollowed := true, recurses := true, apart := false }
def GramDoesSaid : Prop := gramDoesRow.holds Try.pinned (OpenSpec.ofChange gramDoesSpec)

/-- ITS FALSE NEIGHBOUR: 'it returns false'. Refute it at one input. -/
def gramDoesWrong : ChangeSpec := { name := "gramDoes", fn := fun _ => fun
  | [d1, d2, d3] => { results := [.lit (.bool false)], args := [d1, d2, d3] }
  | _ => none }
def GramDoesWrongFalsely : Prop := gramDoesRow.holds Try.pinned (OpenSpec.ofChange gramDoesWrong)

/-- 'graftworklaw.SplitMakes': WHATEVER THE INPUT: true; the input reads as it did. -/
def splitMakesSpec : ChangeSpec := { name := "splitMakes", fn := fun _ => fun
  | [d] => { results := [.lit (.bool true)], args := [d] }
  | _ => none }
def splitMakesRow : OpenClaim := { program := "ytpaeihifcmohkaa", sum := "07694219e391cce664176e0d405a6bc8d8c0b796077819df5a2124fb6c1a2370", func := "graftwork/graftworklaw.SplitMakes", spec := "splitMakes", unfollowed := true, recurses := true, apart := false }
def SplitMakesSaid : Prop := splitMakesRow.holds Try.pinned (OpenSpec.ofChange splitMakesSpec)

/-- ITS FALSE NEIGHBOUR: 'it returns false'. Refute it at one input. -/
def splitMakesWrong : ChangeSpec := { name := "splitMakes", fn := fun _ => fun
  | [d] => { results := [.lit (.bool false)], args := [d] }
  | _ => none }
def SplitMakesWrongFalsely : Prop := splitMakesRow.holds Try.pinned (OpenSpec.ofChange splitMakesWrong)

/-- 'graftworklaw.SplitSplits': WHATEVER THE INPUT: true; the input reads as it did. -/
def splitSplitsSpec : ChangeSpec := { name := "splitSplits", fn := fun _ => fun
  | [d] => { results := [.lit (.bool true)], args := [d] }
  | _ => none }
def splitSplitsRow : OpenClaim := { program := "ytpaeihifcmohkaa", sum := "07694219e391cce664176e0d405a6bc8d8c0b796077819df5a2124fb6c1a2370", func := "graftwork/graftworklaw.SplitSplits", spec := "splitSplits", unfollowed := true, recurses := true, apart := false }
def SplitSplitsSaid : Prop := splitSplitsRow.holds Try.pinned (OpenSpec.ofChange splitSplitsSpec)

/-- ITS FALSE NEIGHBOUR: 'it returns false'. Refute it at one input. -/
def splitSplitsWrong : ChangeSpec := { name := "splitSplits", fn := fun _ => fun
  | [d] => { results := [.lit (.bool false)], args := [d] }
  | _ => none }
def SplitSplitsWrongFalsely : Prop := splitSplitsRow.holds Try.pinned (OpenSpec.ofChange splitSplitsWrong)

/-- 'graftworklaw.FactsSets': WHATEVER THE INPUT: true; the input reads as it did. -/
def factsSetsSpec : ChangeSpec := { name := "factsSets", fn := fun _ => fun
  | [d1, d2, d3] => { results := [.lit (.bool true)], args := [d1, d2, d3] }
  | _ => none }
def factsSetsRow : OpenClaim := { program := "ytpaeihifcmohkaa", sum := "07694219e391cce664176e0d405a6bc8d8c0b796077819df5a2124fb6c1a2370", func := "graftwork/graftworklaw.FactsSets", spec := "factsSets", unfollowed := true, recurses := true, apart := false }
def FactsSetsSaid : Prop := factsSetsRow.holds Try.pinned (OpenSpec.ofChange factsSetsSpec)

/-- ITS FALSE NEIGHBOUR: 'it returns false'. Refute it at one input. -/
def factsSetsWrong : ChangeSpec := { name := "factsSets", fn := fun _ => fun
  | [d1, d2, d3] => { results := [.lit (.bool false)], args := [d1, d2, d3] }
  | _ => none }
def FactsSetsWrongFalsely : Prop := factsSetsRow.holds Try.pinned (OpenSpec.ofChange factsSetsWrong)

/-- 'graftworklaw.TreeOrders': WHATEVER THE INPUT: true; the input reads as it did. -/
def treeOrdersSpec : ChangeSpec := { name := "treeOrders", fn := fun _ => fun
  | [d1, d2, d3] => { results := [.lit (.bool true)], args := [d1, d2, d3] }
  | _ => none }
def treeOrdersRow : OpenClaim := { program := "ytpaeihifcmohkaa", sum := "07694219e391cce664176e0d405a6bc8d8c0b796077819df5a2124fb6c1a2370", func := "graftwork/graftworklaw.TreeOrders", spec := "treeOrders", unfollowed := true, recurses := true, loops := true, apart := false }
def TreeOrdersSaid : Prop := treeOrdersRow.holds Try.pinned (OpenSpec.ofChange treeOrdersSpec)

/-- ITS FALSE NEIGHBOUR: 'it returns false'. Refute it at one input. -/
def treeOrdersWrong : ChangeSpec := { name := "treeOrders", fn := fun _ => fun
  | [d1, d2, d3] => { results := [.lit (.bool false)], args := [d1, d2, d3] }
  | _ => none }
def TreeOrdersWrongFalsely : Prop := treeOrdersRow.holds Try.pinned (OpenSpec.ofChange treeOrdersWrong)

/-- 'graftworklaw.TreeDoes': WHATEVER THE INPUT: true; the input reads as it did. -/
def treeDoesSpec : ChangeSpec := { name := "treeDoes", fn := fun _ => fun
  | [d1, d2, d3, d4] => { results := [.lit (.bool true)], args := [d1, d2, d3, d4] }
  | _ => none }
def treeDoesRow : OpenClaim := { program := "ytpaeihifcmohkaa", sum := "07694219e391cce664176e0d405a6bc8d8c0b796077819df5a2124fb6c1a2370", func := "graftwork/graftworklaw.TreeDoes", spec := "treeDoes", unfollowed := true, recurses := true, loops := true, apart := false }
def TreeDoesSaid : Prop := treeDoesRow.holds Try.pinned (OpenSpec.ofChange treeDoesSpec)

/-- ITS FALSE NEIGHBOUR: 'it returns false'. Refute it at one input. -/
def treeDoesWrong : ChangeSpec := { name := "treeDoes", fn := fun _ => fun
  | [d1, d2, d3, d4] => { results := [.lit (.bool false)], args := [d1, d2, d3, d4] }
  | _ => none }
def TreeDoesWrongFalsely : Prop := treeDoesRow.holds Try.pinned (OpenSpec.ofChange treeDoesWrong)

/-- 'graftworklaw.TrimMakes': WHATEVER THE INPUT: true; the input reads as it did. -/
def trimMakesSpec : ChangeSpec := { name := "trimMakes", fn := fun _ => fun
  | [d] => { results := [.lit (.bool true)], args := [d] }
  | _ => none }
def trimMakesRow : OpenClaim := { program := "ytpaeihifcmohkaa", sum := "07694219e391cce664176e0d405a6bc8d8c0b796077819df5a2124fb6c1a2370", func := "graftwork/graftworklaw.TrimMakes", spec := "trimMakes", unfollowed := true, recurses := true, apart := false }
def TrimMakesSaid : Prop := trimMakesRow.holds Try.pinned (OpenSpec.ofChange trimMakesSpec)

/-- ITS FALSE NEIGHBOUR: 'it returns false'. Refute it at one input. -/
def trimMakesWrong : ChangeSpec := { name := "trimMakes", fn := fun _ => fun
  | [d] => { results := [.lit (.bool false)], args := [d] }
  | _ => none }
def TrimMakesWrongFalsely : Prop := trimMakesRow.holds Try.pinned (OpenSpec.ofChange trimMakesWrong)

/-- 'graftworklaw.TrimTrims': WHATEVER THE INPUT: true; the input reads as it did. -/
def trimTrimsSpec : ChangeSpec := { name := "trimTrims", fn := fun _ => fun
  | [d] => { results := [.lit (.bool true)], args := [d] }
  | _ => none }
def trimTrimsRow : OpenClaim := { program := "ytpaeihifcmohkaa", sum := "07694219e391cce664176e0d405a6bc8d8c0b796077819df5a2124fb6c1a2370", func := "graftwork/graftworklaw.TrimTrims", spec := "trimTrims", unfollowed := true, recurses := true, apart := false }
def TrimTrimsSaid : Prop := trimTrimsRow.holds Try.pinned (OpenSpec.ofChange trimTrimsSpec)

/-- ITS FALSE NEIGHBOUR: 'it returns false'. Refute it at one input. -/
def trimTrimsWrong : ChangeSpec := { name := "trimTrims", fn := fun _ => fun
  | [d] => { results := [.lit (.bool false)], args := [d] }
  | _ => none }
def TrimTrimsWrongFalsely : Prop := trimTrimsRow.holds Try.pinned (OpenSpec.ofChange trimTrimsWrong)

/-- 'graftworklaw.FactsDoes': WHATEVER THE INPUT: true; the input reads as it did. -/
def factsDoesSpec : ChangeSpec := { name := "factsDoes", fn := fun _ => fun
  | [d] => { results := [.lit (.bool true)], args := [d] }
  | _ => none }
def factsDoesRow : OpenClaim := { program := "ytpaeihifcmohkaa", sum := "07694219e391cce664176e0d405a6bc8d8c0b796077819df5a2124fb6c1a2370", func := "graftwork/graftworklaw.FactsDoes", spec := "factsDoes", unfollowed := true, recurses := true, apart := false }
def FactsDoesSaid : Prop := factsDoesRow.holds Try.pinned (OpenSpec.ofChange factsDoesSpec)

/-- ITS FALSE NEIGHBOUR: 'it returns false'. Refute it at one input. -/
def factsDoesWrong : ChangeSpec := { name := "factsDoes", fn := fun _ => fun
  | [d] => { results := [.lit (.bool false)], args := [d] }
  | _ => none }
def FactsDoesWrongFalsely : Prop := factsDoesRow.holds Try.pinned (OpenSpec.ofChange factsDoesWrong)

/-- 'graftworklaw.FactsMore': WHATEVER THE INPUT: true; the input reads as it did. -/
def factsMoreSpec : ChangeSpec := { name := "factsMore", fn := fun _ => fun
  | [d1, d2] => { results := [.lit (.bool true)], args := [d1, d2] }
  | _ => none }
def factsMoreRow : OpenClaim := { program := "ytpaeihifcmohkaa", sum := "07694219e391cce664176e0d405a6bc8d8c0b796077819df5a2124fb6c1a2370", func := "graftwork/graftworklaw.FactsMore", spec := "factsMore", unfollowed := true, recurses := true, apart := false }
def FactsMoreSaid : Prop := factsMoreRow.holds Try.pinned (OpenSpec.ofChange factsMoreSpec)

/-- ITS FALSE NEIGHBOUR: 'it returns false'. Refute it at one input. -/
def factsMoreWrong : ChangeSpec := { name := "factsMore", fn := fun _ => fun
  | [d1, d2] => { results := [.lit (.bool false)], args := [d1, d2] }
  | _ => none }
def FactsMoreWrongFalsely : Prop := factsMoreRow.holds Try.pinned (OpenSpec.ofChange factsMoreWrong)

/- THE SECOND FORM. 'bulk': how many values and letters a reading holds, each counted each time it is reached (what is shared counts as often as it is met; a slice's spare places count too). A statement '..UptoSaid' is the law's where the arguments, and the package variables that the reading takes, are together of bulk at most 1048576: NARROWER than '..Said'. Prove '..Said' where nothing that the law and all that it calls make is longer than what came in: it says more and counts as full. Else prove '..UptoSaid'. A law counts once. -/
mutual
def uptoBulk {H : Type} : DataW H → Nat
  | .lit (.string bytes) => bytes.length + 1
  | .lit _ => 1
  | .nil => 1
  | .ptr d => uptoBulk d + 1
  | .slice elems spare => uptoBulkAll elems + uptoBulkAll spare + 1
  | .agg parts => uptoBulkAll parts + 1
  | .iface _ d => uptoBulk d + 1
  | .map entries => uptoBulkEntries entries + 1
  | .held _ => 1
def uptoBulkAll {H : Type} : List (DataW H) → Nat
  | [] => 0
  | d :: r => uptoBulk d + uptoBulkAll r
def uptoBulkEntries {H : Type} : List (Lit × DataW H) → Nat
  | [] => 0
  | x :: r => uptoBulkEntry x + uptoBulkEntries r
def uptoBulkEntry {H : Type} : Lit × DataW H → Nat
  | (.string bytes, d) => bytes.length + uptoBulk d + 1
  | (_, d) => uptoBulk d + 1
 end
def uptoSmall : (H : Type) → List (DataW H) → Bool := fun _ ds => decide (uptoBulkAll ds ≤ 1048576)
def OpenSpec.upto (s : _root_.Go.ChangeSpec) : _root_.Go.OpenSpec := { _root_.Go.OpenSpec.ofChange s with cond := some uptoSmall }

/-- 'graftworklaw.TokenScans', WHERE WHAT IT READS IS OF BULK AT MOST 1048576: true; the input reads as it did. -/
def tokenScansUptoRow : OpenClaim := { program := "ytpaeihifcmohkaa", sum := "07694219e391cce664176e0d405a6bc8d8c0b796077819df5a2124fb6c1a2370", func := "graftwork/graftworklaw.TokenScans", spec := "tokenScans", inPlace := ["internal/bytealg.IndexByteString"], unfollowed := true, recurses := true, apart := false, narrowed := true }
def TokenScansUptoSaid : Prop := tokenScansUptoRow.holds Try.pinned (OpenSpec.upto tokenScansSpec)

/-- 'graftworklaw.TokenBack', WHERE WHAT IT READS IS OF BULK AT MOST 1048576: true; the input reads as it did. -/
def tokenBackUptoRow : OpenClaim := { program := "ytpaeihifcmohkaa", sum := "07694219e391cce664176e0d405a6bc8d8c0b796077819df5a2124fb6c1a2370", func := "graftwork/graftworklaw.TokenBack", spec := "tokenBack", inPlace := ["internal/bytealg.IndexByteString"], unfollowed := true, recurses := true, apart := false, narrowed := true }
def TokenBackUptoSaid : Prop := tokenBackUptoRow.holds Try.pinned (OpenSpec.upto tokenBackSpec)

/-- 'graftworklaw.GramDoes', WHERE WHAT IT READS IS OF BULK AT MOST 1048576: true; the input reads as it did. -/
def gramDoesUptoRow : OpenClaim := { program := "ytpaeihifcmohkaa", sum := "07694219e391cce664176e0d405a6bc8d8c0b796077819df5a2124fb6c1a2370", func := "graftwork/graftworklaw.GramDoes", spec := "gramDoes", unfollowed := true, recurses := true, apart := false, narrowed := true }
def GramDoesUptoSaid : Prop := gramDoesUptoRow.holds Try.pinned (OpenSpec.upto gramDoesSpec)

/-- 'graftworklaw.SplitMakes', WHERE WHAT IT READS IS OF BULK AT MOST 1048576: true; the input reads as it did. -/
def splitMakesUptoRow : OpenClaim := { program := "ytpaeihifcmohkaa", sum := "07694219e391cce664176e0d405a6bc8d8c0b796077819df5a2124fb6c1a2370", func := "graftwork/graftworklaw.SplitMakes", spec := "splitMakes", unfollowed := true, recurses := true, apart := false, narrowed := true }
def SplitMakesUptoSaid : Prop := splitMakesUptoRow.holds Try.pinned (OpenSpec.upto splitMakesSpec)

/-- 'graftworklaw.SplitSplits', WHERE WHAT IT READS IS OF BULK AT MOST 1048576: true; the input reads as it did. -/
def splitSplitsUptoRow : OpenClaim := { program := "ytpaeihifcmohkaa", sum := "07694219e391cce664176e0d405a6bc8d8c0b796077819df5a2124fb6c1a2370", func := "graftwork/graftworklaw.SplitSplits", spec := "splitSplits", unfollowed := true, recurses := true, apart := false, narrowed := true }
def SplitSplitsUptoSaid : Prop := splitSplitsUptoRow.holds Try.pinned (OpenSpec.upto splitSplitsSpec)

/-- 'graftworklaw.FactsSets', WHERE WHAT IT READS IS OF BULK AT MOST 1048576: true; the input reads as it did. -/
def factsSetsUptoRow : OpenClaim := { program := "ytpaeihifcmohkaa", sum := "07694219e391cce664176e0d405a6bc8d8c0b796077819df5a2124fb6c1a2370", func := "graftwork/graftworklaw.FactsSets", spec := "factsSets", unfollowed := true, recurses := true, apart := false, narrowed := true }
def FactsSetsUptoSaid : Prop := factsSetsUptoRow.holds Try.pinned (OpenSpec.upto factsSetsSpec)

/-- 'graftworklaw.TreeOrders', WHERE WHAT IT READS IS OF BULK AT MOST 1048576: true; the input reads as it did. -/
def treeOrdersUptoRow : OpenClaim := { program := "ytpaeihifcmohkaa", sum := "07694219e391cce664176e0d405a6bc8d8c0b796077819df5a2124fb6c1a2370", func := "graftwork/graftworklaw.TreeOrders", spec := "treeOrders", unfollowed := true, recurses := true, loops := true, apart := false, narrowed := true }
def TreeOrdersUptoSaid : Prop := treeOrdersUptoRow.holds Try.pinned (OpenSpec.upto treeOrdersSpec)

/-- 'graftworklaw.TreeDoes', WHERE WHAT IT READS IS OF BULK AT MOST 1048576: true; the input reads as it did. -/
def treeDoesUptoRow : OpenClaim := { program := "ytpaeihifcmohkaa", sum := "07694219e391cce664176e0d405a6bc8d8c0b796077819df5a2124fb6c1a2370", func := "graftwork/graftworklaw.TreeDoes", spec := "treeDoes", unfollowed := true, recurses := true, loops := true, apart := false, narrowed := true }
def TreeDoesUptoSaid : Prop := treeDoesUptoRow.holds Try.pinned (OpenSpec.upto treeDoesSpec)

/-- 'graftworklaw.TrimMakes', WHERE WHAT IT READS IS OF BULK AT MOST 1048576: true; the input reads as it did. -/
def trimMakesUptoRow : OpenClaim := { program := "ytpaeihifcmohkaa", sum := "07694219e391cce664176e0d405a6bc8d8c0b796077819df5a2124fb6c1a2370", func := "graftwork/graftworklaw.TrimMakes", spec := "trimMakes", unfollowed := true, recurses := true, apart := false, narrowed := true }
def TrimMakesUptoSaid : Prop := trimMakesUptoRow.holds Try.pinned (OpenSpec.upto trimMakesSpec)

/-- 'graftworklaw.TrimTrims', WHERE WHAT IT READS IS OF BULK AT MOST 1048576: true; the input reads as it did. -/
def trimTrimsUptoRow : OpenClaim := { program := "ytpaeihifcmohkaa", sum := "07694219e391cce664176e0d405a6bc8d8c0b796077819df5a2124fb6c1a2370", func := "graftwork/graftworklaw.TrimTrims", spec := "trimTrims", unfollowed := true, recurses := true, apart := false, narrowed := true }
def TrimTrimsUptoSaid : Prop := trimTrimsUptoRow.holds Try.pinned (OpenSpec.upto trimTrimsSpec)

/-- 'graftworklaw.FactsDoes', WHERE WHAT IT READS IS OF BULK AT MOST 1048576: true; the input reads as it did. -/
def factsDoesUptoRow : OpenClaim := { program := "ytpaeihifcmohkaa", sum := "07694219e391cce664176e0d405a6bc8d8c0b796077819df5a2124fb6c1a2370", func := "graftwork/graftworklaw.FactsDoes", spec := "factsDoes", unfollowed := true, recurses := true, apart := false, narrowed := true }
def FactsDoesUptoSaid : Prop := factsDoesUptoRow.holds Try.pinned (OpenSpec.upto factsDoesSpec)

/-- 'graftworklaw.FactsMore', WHERE WHAT IT READS IS OF BULK AT MOST 1048576: true; the input reads as it did. -/
def factsMoreUptoRow : OpenClaim := { program := "ytpaeihifcmohkaa", sum := "07694219e391cce664176e0d405a6bc8d8c0b796077819df5a2124fb6c1a2370", func := "graftwork/graftworklaw.FactsMore", spec := "factsMore", unfollowed := true, recurses := true, apart := false, narrowed := true }
def FactsMoreUptoSaid : Prop := factsMoreUptoRow.holds Try.pinned (OpenSpec.upto factsMoreSpec)

end Rows
end Go.Proofs.Ytpaeihifcmohkaa
