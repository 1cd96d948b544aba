/-
  NARROWER THAN 'FOR EVERY INPUT', by the rows' own cells (each row's printed sentence says how): ChainChecks: loops.
  DERIVED. THE GIVEN ROWS OF THIS SEAT. 5 by the template 'for every input the law returns true; each argument reads behind the call as it read before'; 0 by the template 'total and deterministic' (their statements: YtbpmepgnjanhnaaGreatTotals.lean).
  GIVEN WITH THE SEED: the statements are not yours to turn. If you find one false, say at which input.
  Laid BY PROGRAM, IN A SANDBOX (cutbox-rows.mjs): the forced cells as the released guide's own fill.sh prints them over the translation 077c5d70426a9bab… (all of the seat's roots in one cut). By AI agents, Wed Nov 11 2026. No macro, syntax, notation, axiom, sorry.
-/
import Derived.Test.YtbpmepgnjanhnaaGreatChecked
import GoSem.Claim
import GoSem.ClaimJoined
import GoSem.ClaimMapViews
import Derived.JoinedTies
import Derived.KernelRfl
namespace Go.Proofs.YtbpmepgnjanhnaaGreat
/- THE CELL 'sum', in the pinned program and in every row, IS THE sha256 OF THE DUMP (.gsa) THAT YtbpmepgnjanhnaaGreatProg.lean LOADS. Nothing in Lean hashes anything: it is a label: what it is worth is what the hold of that sum in a sandbox is worth. -/
noncomputable def Tryz.pinned : Pinned := { name := "ytbpmepgnjanhnaagreat", sum := "077c5d70426a9bab8a8847b82e00c0d8f881e8a79925148d0a59d793bb42071d", checked := Tryz.checked }
namespace Rows
def none {H : Type} : Left H := { results := [], args := [] }

/-- 'graftworklaw.ChainMakes': WHATEVER THE INPUT: true; the input reads as it did. -/
def chainMakesSpec : ChangeSpec := { name := "chainMakes", fn := fun _ => fun
  | [d1, d2] => { results := [.lit (.bool true)], args := [d1, d2] }
  | _ => none }
def chainMakesRow : OpenClaim := { program := "ytbpmepgnjanhnaagreat", sum := "077c5d70426a9bab8a8847b82e00c0d8f881e8a79925148d0a59d793bb42071d", func := "graftwork/graftworklaw.ChainMakes", spec := "chainMakes", unfollowed := true, recurses := true, plainKeys := false, apart := false }
def ChainMakesSaid : Prop := chainMakesRow.holds Tryz.pinned (OpenSpec.ofChange chainMakesSpec)

/-- ITS FALSE NEIGHBOUR: 'it returns false'. Refute it at one input. -/
def chainMakesWrong : ChangeSpec := { name := "chainMakes", fn := fun _ => fun
  | [d1, d2] => { results := [.lit (.bool false)], args := [d1, d2] }
  | _ => none }
def ChainMakesWrongFalsely : Prop := chainMakesRow.holds Tryz.pinned (OpenSpec.ofChange chainMakesWrong)

/-- 'graftworklaw.ChainSame': WHATEVER THE INPUT: true; the input reads as it did. -/
def chainSameSpec : ChangeSpec := { name := "chainSame", fn := fun _ => fun
  | [d1, d2, d3] => { results := [.lit (.bool true)], args := [d1, d2, d3] }
  | _ => none }
def chainSameRow : OpenClaim := { program := "ytbpmepgnjanhnaagreat", sum := "077c5d70426a9bab8a8847b82e00c0d8f881e8a79925148d0a59d793bb42071d", func := "graftwork/graftworklaw.ChainSame", spec := "chainSame", unfollowed := true, recurses := true, plainKeys := false, apart := false }
def ChainSameSaid : Prop := chainSameRow.holds Tryz.pinned (OpenSpec.ofChange chainSameSpec)

/-- ITS FALSE NEIGHBOUR: 'it returns false'. Refute it at one input. -/
def chainSameWrong : ChangeSpec := { name := "chainSame", fn := fun _ => fun
  | [d1, d2, d3] => { results := [.lit (.bool false)], args := [d1, d2, d3] }
  | _ => none }
def ChainSameWrongFalsely : Prop := chainSameRow.holds Tryz.pinned (OpenSpec.ofChange chainSameWrong)

/-- 'graftworklaw.ChainWords': WHATEVER THE INPUT: true; the input reads as it did. -/
def chainWordsSpec : ChangeSpec := { name := "chainWords", fn := fun _ => fun
  | [d1, d2, d3] => { results := [.lit (.bool true)], args := [d1, d2, d3] }
  | _ => none }
def chainWordsRow : OpenClaim := { program := "ytbpmepgnjanhnaagreat", sum := "077c5d70426a9bab8a8847b82e00c0d8f881e8a79925148d0a59d793bb42071d", func := "graftwork/graftworklaw.ChainWords", spec := "chainWords", unfollowed := true, recurses := true, plainKeys := false, apart := false }
def ChainWordsSaid : Prop := chainWordsRow.holds Tryz.pinned (OpenSpec.ofChange chainWordsSpec)

/-- ITS FALSE NEIGHBOUR: 'it returns false'. Refute it at one input. -/
def chainWordsWrong : ChangeSpec := { name := "chainWords", fn := fun _ => fun
  | [d1, d2, d3] => { results := [.lit (.bool false)], args := [d1, d2, d3] }
  | _ => none }
def ChainWordsWrongFalsely : Prop := chainWordsRow.holds Tryz.pinned (OpenSpec.ofChange chainWordsWrong)

/-- 'graftworklaw.ChainParts': WHATEVER THE INPUT: true; the input reads as it did. -/
def chainPartsSpec : ChangeSpec := { name := "chainParts", fn := fun _ => fun
  | [d1, d2, d3] => { results := [.lit (.bool true)], args := [d1, d2, d3] }
  | _ => none }
def chainPartsRow : OpenClaim := { program := "ytbpmepgnjanhnaagreat", sum := "077c5d70426a9bab8a8847b82e00c0d8f881e8a79925148d0a59d793bb42071d", func := "graftwork/graftworklaw.ChainParts", spec := "chainParts", unfollowed := true, recurses := true, plainKeys := false, apart := false }
def ChainPartsSaid : Prop := chainPartsRow.holds Tryz.pinned (OpenSpec.ofChange chainPartsSpec)

/-- ITS FALSE NEIGHBOUR: 'it returns false'. Refute it at one input. -/
def chainPartsWrong : ChangeSpec := { name := "chainParts", fn := fun _ => fun
  | [d1, d2, d3] => { results := [.lit (.bool false)], args := [d1, d2, d3] }
  | _ => none }
def ChainPartsWrongFalsely : Prop := chainPartsRow.holds Tryz.pinned (OpenSpec.ofChange chainPartsWrong)

/-- 'graftworklaw.ChainChecks': WHATEVER THE INPUT: true; the input reads as it did. -/
def chainChecksSpec : ChangeSpec := { name := "chainChecks", fn := fun _ => fun
  | [d1, d2, d3, d4] => { results := [.lit (.bool true)], args := [d1, d2, d3, d4] }
  | _ => none }
def chainChecksRow : OpenClaim := { program := "ytbpmepgnjanhnaagreat", sum := "077c5d70426a9bab8a8847b82e00c0d8f881e8a79925148d0a59d793bb42071d", func := "graftwork/graftworklaw.ChainChecks", spec := "chainChecks", unfollowed := true, recurses := true, loops := true, plainKeys := false, apart := false }
def ChainChecksSaid : Prop := chainChecksRow.holds Tryz.pinned (OpenSpec.ofChange chainChecksSpec)

/-- ITS FALSE NEIGHBOUR: 'it returns false'. Refute it at one input. -/
def chainChecksWrong : ChangeSpec := { name := "chainChecks", fn := fun _ => fun
  | [d1, d2, d3, d4] => { results := [.lit (.bool false)], args := [d1, d2, d3, d4] }
  | _ => none }
def ChainChecksWrongFalsely : Prop := chainChecksRow.holds Tryz.pinned (OpenSpec.ofChange chainChecksWrong)

/- THE SECOND FORM. 'bulk': how many values and letters a reading holds, each counted each time it is reached (what is shared counts as often as it is met; a slice's spare places count too). A statement '..UptoSaid' is the law's where the arguments, and the package variables that the reading takes, are together of bulk at most 1048576: NARROWER than '..Said'. Prove '..Said' where nothing that the law and all that it calls make is longer than what came in: it says more and counts as full. Else prove '..UptoSaid'. A law counts once. -/
mutual
def uptoBulk {H : Type} : DataW H → Nat
  | .lit (.string bytes) => bytes.length + 1
  | .lit _ => 1
  | .nil => 1
  | .ptr d => uptoBulk d + 1
  | .slice elems spare => uptoBulkAll elems + uptoBulkAll spare + 1
  | .agg parts => uptoBulkAll parts + 1
  | .iface _ d => uptoBulk d + 1
  | .map entries => uptoBulkEntries entries + 1
  | .held _ => 1
def uptoBulkAll {H : Type} : List (DataW H) → Nat
  | [] => 0
  | d :: r => uptoBulk d + uptoBulkAll r
def uptoBulkEntries {H : Type} : List (Lit × DataW H) → Nat
  | [] => 0
  | x :: r => uptoBulkEntry x + uptoBulkEntries r
def uptoBulkEntry {H : Type} : Lit × DataW H → Nat
  | (.string bytes, d) => bytes.length + uptoBulk d + 1
  | (_, d) => uptoBulk d + 1
 end
def uptoSmall : (H : Type) → List (DataW H) → Bool := fun _ ds => decide (uptoBulkAll ds ≤ 1048576)
def OpenSpec.upto (s : _root_.Go.ChangeSpec) : _root_.Go.OpenSpec := { _root_.Go.OpenSpec.ofChange s with cond := some uptoSmall }

/-- 'graftworklaw.ChainMakes', WHERE WHAT IT READS IS OF BULK AT MOST 1048576: true; the input reads as it did. -/
def chainMakesUptoRow : OpenClaim := { program := "ytbpmepgnjanhnaagreat", sum := "077c5d70426a9bab8a8847b82e00c0d8f881e8a79925148d0a59d793bb42071d", func := "graftwork/graftworklaw.ChainMakes", spec := "chainMakes", unfollowed := true, recurses := true, plainKeys := false, apart := false, narrowed := true }
def ChainMakesUptoSaid : Prop := chainMakesUptoRow.holds Tryz.pinned (OpenSpec.upto chainMakesSpec)

/-- 'graftworklaw.ChainSame', WHERE WHAT IT READS IS OF BULK AT MOST 1048576: true; the input reads as it did. -/
def chainSameUptoRow : OpenClaim := { program := "ytbpmepgnjanhnaagreat", sum := "077c5d70426a9bab8a8847b82e00c0d8f881e8a79925148d0a59d793bb42071d", func := "graftwork/graftworklaw.ChainSame", spec := "chainSame", unfollowed := true, recurses := true, plainKeys := false, apart := false, narrowed := true }
def ChainSameUptoSaid : Prop := chainSameUptoRow.holds Tryz.pinned (OpenSpec.upto chainSameSpec)

/-- 'graftworklaw.ChainWords', WHERE WHAT IT READS IS OF BULK AT MOST 1048576: true; the input reads as it did. -/
def chainWordsUptoRow : OpenClaim := { program := "ytbpmepgnjanhnaagreat", sum := "077c5d70426a9bab8a8847b82e00c0d8f881e8a79925148d0a59d793bb42071d", func := "graftwork/graftworklaw.ChainWords", spec := "chainWords", unfollowed := true, recurses := true, plainKeys := false, apart := false, narrowed := true }
def ChainWordsUptoSaid : Prop := chainWordsUptoRow.holds Tryz.pinned (OpenSpec.upto chainWordsSpec)

/-- 'graftworklaw.ChainParts', WHERE WHAT IT READS IS OF BULK AT MOST 1048576: true; the input reads as it did. -/
def chainPartsUptoRow : OpenClaim := { program := "ytbpmepgnjanhnaagreat", sum := "077c5d70426a9bab8a8847b82e00c0d8f881e8a79925148d0a59d793bb42071d", func := "graftwork/graftworklaw.ChainParts", spec := "chainParts", unfollowed := true, recurses := true, plainKeys := false, apart := false, narrowed := true }
def ChainPartsUptoSaid : Prop := chainPartsUptoRow.holds Tryz.pinned (OpenSpec.upto chainPartsSpec)

/-- 'graftworklaw.ChainChecks', WHERE WHAT IT READS IS OF BULK AT MOST 1048576: true; the input reads as it did. -/
def chainChecksUptoRow : OpenClaim := { program := "ytbpmepgnjanhnaagreat", sum := "077c5d70426a9bab8a8847b82e00c0d8f881e8a79925148d0a59d793bb42071d", func := "graftwork/graftworklaw.ChainChecks", spec := "chainChecks", unfollowed := true, recurses := true, loops := true, plainKeys := false, apart := false, narrowed := true }
def ChainChecksUptoSaid : Prop := chainChecksUptoRow.holds Tryz.pinned (OpenSpec.upto chainChecksSpec)

end Rows
end Go.Proofs.YtbpmepgnjanhnaaGreat
