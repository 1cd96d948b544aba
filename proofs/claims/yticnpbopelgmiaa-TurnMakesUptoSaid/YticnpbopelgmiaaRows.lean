/-
  No cell of these rows narrows 'for every input' (looked for: loops, veiled, ifaces, maps, wideKeys, modest, calm, conditions, laid).
  DERIVED. THE GIVEN ROWS OF THIS SEAT. 10 by the template 'for every input the law returns true; each argument reads behind the call as it read before'; 0 by the template 'total and deterministic' (their statements: YticnpbopelgmiaaTotals.lean).
  GIVEN WITH THE SEED: the statements are not yours to turn. If you find one false, say at which input.
  Laid BY PROGRAM, IN A SANDBOX (cutbox-rows.mjs): the forced cells as the released guide's own fill.sh prints them over the translation b774a5fb63879481… (all of the seat's roots in one cut). By AI agents, Wed Nov 11 2026. No macro, syntax, notation, axiom, sorry.
-/
import Derived.Test.YticnpbopelgmiaaChecked
import GoSem.Claim
import GoSem.ClaimJoined
import GoSem.ClaimMapViews
import Derived.JoinedTies
import Derived.KernelRfl
namespace Go.Proofs.Yticnpbopelgmiaa
/- THE CELL 'sum', in the pinned program and in every row, IS THE sha256 OF THE DUMP (.gsa) THAT YticnpbopelgmiaaProg.lean LOADS. Nothing in Lean hashes anything: it is a label: what it is worth is what the hold of that sum in a sandbox is worth. -/
noncomputable def Try.pinned : Pinned := { name := "yticnpbopelgmiaa", sum := "b774a5fb638794814839be07ccf0561f11838c10a5606d9fa88a02446dd8c949", checked := Try.checked }
namespace Rows
def none {H : Type} : Left H := { results := [], args := [] }

/-- 'graftworklaw.ThinMakes': WHATEVER THE INPUT: true; the input reads as it did. -/
def thinMakesSpec : ChangeSpec := { name := "thinMakes", fn := fun _ => fun
  | [d] => { results := [.lit (.bool true)], args := [d] }
  | _ => none }
def thinMakesRow : OpenClaim := { program := "yticnpbopelgmiaa", sum := "b774a5fb638794814839be07ccf0561f11838c10a5606d9fa88a02446dd8c949", func := "graftwork/graftworklaw.ThinMakes", spec := "thinMakes", unfollowed := true, recurses := true, plainKeys := false, apart := false }
def ThinMakesSaid : Prop := thinMakesRow.holds Try.pinned (OpenSpec.ofChange thinMakesSpec)

/-- ITS FALSE NEIGHBOUR: 'it returns false'. Refute it at one input. -/
def thinMakesWrong : ChangeSpec := { name := "thinMakes", fn := fun _ => fun
  | [d] => { results := [.lit (.bool false)], args := [d] }
  | _ => none }
def ThinMakesWrongFalsely : Prop := thinMakesRow.holds Try.pinned (OpenSpec.ofChange thinMakesWrong)

/-- 'graftworklaw.ThinThins': WHATEVER THE INPUT: true; the input reads as it did. -/
def thinThinsSpec : ChangeSpec := { name := "thinThins", fn := fun _ => fun
  | [d] => { results := [.lit (.bool true)], args := [d] }
  | _ => none }
def thinThinsRow : OpenClaim := { program := "yticnpbopelgmiaa", sum := "b774a5fb638794814839be07ccf0561f11838c10a5606d9fa88a02446dd8c949", func := "graftwork/graftworklaw.ThinThins", spec := "thinThins", unfollowed := true, recurses := true, plainKeys := false, apart := false }
def ThinThinsSaid : Prop := thinThinsRow.holds Try.pinned (OpenSpec.ofChange thinThinsSpec)

/-- ITS FALSE NEIGHBOUR: 'it returns false'. Refute it at one input. -/
def thinThinsWrong : ChangeSpec := { name := "thinThins", fn := fun _ => fun
  | [d] => { results := [.lit (.bool false)], args := [d] }
  | _ => none }
def ThinThinsWrongFalsely : Prop := thinThinsRow.holds Try.pinned (OpenSpec.ofChange thinThinsWrong)

/-- 'graftworklaw.TurnMakes': WHATEVER THE INPUT: true; the input reads as it did. -/
def turnMakesSpec : ChangeSpec := { name := "turnMakes", fn := fun _ => fun
  | [d] => { results := [.lit (.bool true)], args := [d] }
  | _ => none }
def turnMakesRow : OpenClaim := { program := "yticnpbopelgmiaa", sum := "b774a5fb638794814839be07ccf0561f11838c10a5606d9fa88a02446dd8c949", func := "graftwork/graftworklaw.TurnMakes", spec := "turnMakes", unfollowed := true, recurses := true, plainKeys := false, apart := false }
def TurnMakesSaid : Prop := turnMakesRow.holds Try.pinned (OpenSpec.ofChange turnMakesSpec)

/-- ITS FALSE NEIGHBOUR: 'it returns false'. Refute it at one input. -/
def turnMakesWrong : ChangeSpec := { name := "turnMakes", fn := fun _ => fun
  | [d] => { results := [.lit (.bool false)], args := [d] }
  | _ => none }
def TurnMakesWrongFalsely : Prop := turnMakesRow.holds Try.pinned (OpenSpec.ofChange turnMakesWrong)

/-- 'graftworklaw.TurnTurns': WHATEVER THE INPUT: true; the input reads as it did. -/
def turnTurnsSpec : ChangeSpec := { name := "turnTurns", fn := fun _ => fun
  | [d] => { results := [.lit (.bool true)], args := [d] }
  | _ => none }
def turnTurnsRow : OpenClaim := { program := "yticnpbopelgmiaa", sum := "b774a5fb638794814839be07ccf0561f11838c10a5606d9fa88a02446dd8c949", func := "graftwork/graftworklaw.TurnTurns", spec := "turnTurns", unfollowed := true, recurses := true, plainKeys := false, apart := false }
def TurnTurnsSaid : Prop := turnTurnsRow.holds Try.pinned (OpenSpec.ofChange turnTurnsSpec)

/-- ITS FALSE NEIGHBOUR: 'it returns false'. Refute it at one input. -/
def turnTurnsWrong : ChangeSpec := { name := "turnTurns", fn := fun _ => fun
  | [d] => { results := [.lit (.bool false)], args := [d] }
  | _ => none }
def TurnTurnsWrongFalsely : Prop := turnTurnsRow.holds Try.pinned (OpenSpec.ofChange turnTurnsWrong)

/-- 'graftworklaw.TrimSame': WHATEVER THE INPUT: true; the input reads as it did. -/
def trimSameSpec : ChangeSpec := { name := "trimSame", fn := fun _ => fun
  | [d1, d2] => { results := [.lit (.bool true)], args := [d1, d2] }
  | _ => none }
def trimSameRow : OpenClaim := { program := "yticnpbopelgmiaa", sum := "b774a5fb638794814839be07ccf0561f11838c10a5606d9fa88a02446dd8c949", func := "graftwork/graftworklaw.TrimSame", spec := "trimSame", unfollowed := true, recurses := true, plainKeys := false, apart := false }
def TrimSameSaid : Prop := trimSameRow.holds Try.pinned (OpenSpec.ofChange trimSameSpec)

/-- ITS FALSE NEIGHBOUR: 'it returns false'. Refute it at one input. -/
def trimSameWrong : ChangeSpec := { name := "trimSame", fn := fun _ => fun
  | [d1, d2] => { results := [.lit (.bool false)], args := [d1, d2] }
  | _ => none }
def TrimSameWrongFalsely : Prop := trimSameRow.holds Try.pinned (OpenSpec.ofChange trimSameWrong)

/-- 'graftworklaw.SplitSame': WHATEVER THE INPUT: true; the input reads as it did. -/
def splitSameSpec : ChangeSpec := { name := "splitSame", fn := fun _ => fun
  | [d1, d2] => { results := [.lit (.bool true)], args := [d1, d2] }
  | _ => none }
def splitSameRow : OpenClaim := { program := "yticnpbopelgmiaa", sum := "b774a5fb638794814839be07ccf0561f11838c10a5606d9fa88a02446dd8c949", func := "graftwork/graftworklaw.SplitSame", spec := "splitSame", unfollowed := true, recurses := true, plainKeys := false, apart := false }
def SplitSameSaid : Prop := splitSameRow.holds Try.pinned (OpenSpec.ofChange splitSameSpec)

/-- ITS FALSE NEIGHBOUR: 'it returns false'. Refute it at one input. -/
def splitSameWrong : ChangeSpec := { name := "splitSame", fn := fun _ => fun
  | [d1, d2] => { results := [.lit (.bool false)], args := [d1, d2] }
  | _ => none }
def SplitSameWrongFalsely : Prop := splitSameRow.holds Try.pinned (OpenSpec.ofChange splitSameWrong)

/-- 'graftworklaw.ShortSame': WHATEVER THE INPUT: true; the input reads as it did. -/
def shortSameSpec : ChangeSpec := { name := "shortSame", fn := fun _ => fun
  | [d1, d2] => { results := [.lit (.bool true)], args := [d1, d2] }
  | _ => none }
def shortSameRow : OpenClaim := { program := "yticnpbopelgmiaa", sum := "b774a5fb638794814839be07ccf0561f11838c10a5606d9fa88a02446dd8c949", func := "graftwork/graftworklaw.ShortSame", spec := "shortSame", unfollowed := true, recurses := true, plainKeys := false, apart := false }
def ShortSameSaid : Prop := shortSameRow.holds Try.pinned (OpenSpec.ofChange shortSameSpec)

/-- ITS FALSE NEIGHBOUR: 'it returns false'. Refute it at one input. -/
def shortSameWrong : ChangeSpec := { name := "shortSame", fn := fun _ => fun
  | [d1, d2] => { results := [.lit (.bool false)], args := [d1, d2] }
  | _ => none }
def ShortSameWrongFalsely : Prop := shortSameRow.holds Try.pinned (OpenSpec.ofChange shortSameWrong)

/-- 'graftworklaw.ThinSame': WHATEVER THE INPUT: true; the input reads as it did. -/
def thinSameSpec : ChangeSpec := { name := "thinSame", fn := fun _ => fun
  | [d1, d2] => { results := [.lit (.bool true)], args := [d1, d2] }
  | _ => none }
def thinSameRow : OpenClaim := { program := "yticnpbopelgmiaa", sum := "b774a5fb638794814839be07ccf0561f11838c10a5606d9fa88a02446dd8c949", func := "graftwork/graftworklaw.ThinSame", spec := "thinSame", unfollowed := true, recurses := true, plainKeys := false, apart := false }
def ThinSameSaid : Prop := thinSameRow.holds Try.pinned (OpenSpec.ofChange thinSameSpec)

/-- ITS FALSE NEIGHBOUR: 'it returns false'. Refute it at one input. -/
def thinSameWrong : ChangeSpec := { name := "thinSame", fn := fun _ => fun
  | [d1, d2] => { results := [.lit (.bool false)], args := [d1, d2] }
  | _ => none }
def ThinSameWrongFalsely : Prop := thinSameRow.holds Try.pinned (OpenSpec.ofChange thinSameWrong)

/-- 'graftworklaw.FactorSame': WHATEVER THE INPUT: true; the input reads as it did. -/
def factorSameSpec : ChangeSpec := { name := "factorSame", fn := fun _ => fun
  | [d1, d2] => { results := [.lit (.bool true)], args := [d1, d2] }
  | _ => none }
def factorSameRow : OpenClaim := { program := "yticnpbopelgmiaa", sum := "b774a5fb638794814839be07ccf0561f11838c10a5606d9fa88a02446dd8c949", func := "graftwork/graftworklaw.FactorSame", spec := "factorSame", unfollowed := true, recurses := true, plainKeys := false, apart := false }
def FactorSameSaid : Prop := factorSameRow.holds Try.pinned (OpenSpec.ofChange factorSameSpec)

/-- ITS FALSE NEIGHBOUR: 'it returns false'. Refute it at one input. -/
def factorSameWrong : ChangeSpec := { name := "factorSame", fn := fun _ => fun
  | [d1, d2] => { results := [.lit (.bool false)], args := [d1, d2] }
  | _ => none }
def FactorSameWrongFalsely : Prop := factorSameRow.holds Try.pinned (OpenSpec.ofChange factorSameWrong)

/-- 'graftworklaw.TurnSame': WHATEVER THE INPUT: true; the input reads as it did. -/
def turnSameSpec : ChangeSpec := { name := "turnSame", fn := fun _ => fun
  | [d1, d2] => { results := [.lit (.bool true)], args := [d1, d2] }
  | _ => none }
def turnSameRow : OpenClaim := { program := "yticnpbopelgmiaa", sum := "b774a5fb638794814839be07ccf0561f11838c10a5606d9fa88a02446dd8c949", func := "graftwork/graftworklaw.TurnSame", spec := "turnSame", unfollowed := true, recurses := true, plainKeys := false, apart := false }
def TurnSameSaid : Prop := turnSameRow.holds Try.pinned (OpenSpec.ofChange turnSameSpec)

/-- ITS FALSE NEIGHBOUR: 'it returns false'. Refute it at one input. -/
def turnSameWrong : ChangeSpec := { name := "turnSame", fn := fun _ => fun
  | [d1, d2] => { results := [.lit (.bool false)], args := [d1, d2] }
  | _ => none }
def TurnSameWrongFalsely : Prop := turnSameRow.holds Try.pinned (OpenSpec.ofChange turnSameWrong)

/- THE SECOND FORM. 'bulk': how many values and letters a reading holds, each counted each time it is reached (what is shared counts as often as it is met; a slice's spare places count too). A statement '..UptoSaid' is the law's where the arguments, and the package variables that the reading takes, are together of bulk at most 1048576: NARROWER than '..Said'. Prove '..Said' where nothing that the law and all that it calls make is longer than what came in: it says more and counts as full. Else prove '..UptoSaid'. A law counts once. -/
mutual
def uptoBulk {H : Type} : DataW H → Nat
  | .lit (.string bytes) => bytes.length + 1
  | .lit _ => 1
  | .nil => 1
  | .ptr d => uptoBulk d + 1
  | .slice elems spare => uptoBulkAll elems + uptoBulkAll spare + 1
  | .agg parts => uptoBulkAll parts + 1
  | .iface _ d => uptoBulk d + 1
  | .map entries => uptoBulkEntries entries + 1
  | .held _ => 1
def uptoBulkAll {H : Type} : List (DataW H) → Nat
  | [] => 0
  | d :: r => uptoBulk d + uptoBulkAll r
def uptoBulkEntries {H : Type} : List (Lit × DataW H) → Nat
  | [] => 0
  | x :: r => uptoBulkEntry x + uptoBulkEntries r
def uptoBulkEntry {H : Type} : Lit × DataW H → Nat
  | (.string bytes, d) => bytes.length + uptoBulk d + 1
  | (_, d) => uptoBulk d + 1
 end
def uptoSmall : (H : Type) → List (DataW H) → Bool := fun _ ds => decide (uptoBulkAll ds ≤ 1048576)
def OpenSpec.upto (s : _root_.Go.ChangeSpec) : _root_.Go.OpenSpec := { _root_.Go.OpenSpec.ofChange s with cond := some uptoSmall }

/-- 'graftworklaw.ThinMakes', WHERE WHAT IT READS IS OF BULK AT MOST 1048576: true; the input reads as it did. -/
def thinMakesUptoRow : OpenClaim := { program := "yticnpbopelgmiaa", sum := "b774a5fb638794814839be07ccf0561f11838c10a5606d9fa88a02446dd8c949", func := "graftwork/graftworklaw.ThinMakes", spec := "thinMakes", unfollowed := true, recurses := true, plainKeys := false, apart := false, narrowed := true }
def ThinMakesUptoSaid : Prop := thinMakesUptoRow.holds Try.pinned (OpenSpec.upto thinMakesSpec)

/-- 'graftworklaw.ThinThins', WHERE WHAT IT READS IS OF BULK AT MOST 1048576: true; the input reads as it did. -/
def thinThinsUptoRow : OpenClaim := { program := "yticnpbopelgmiaa", sum := "b774a5fb638794814839be07ccf0561f11838c10a5606d9fa88a02446dd8c949", func := "graftwork/graftworklaw.ThinThins", spec := "thinThins", unfollowed := true, recurses := true, plainKeys := false, apart := false, narrowed := true }
def ThinThinsUptoSaid : Prop := thinThinsUptoRow.holds Try.pinned (OpenSpec.upto thinThinsSpec)

/-- 'graftworklaw.TurnMakes', WHERE WHAT IT READS IS OF BULK AT MOST 1048576: true; the input reads as it did. -/
def turnMakesUptoRow : OpenClaim := { program := "yticnpbopelgmiaa", sum := "b774a5fb638794814839be07ccf0561f11838c10a5606d9fa88a02446dd8c949", func := "graftwork/graftworklaw.TurnMakes", spec := "turnMakes", unfollowed := true, recurses := true, plainKeys := false, apart := false, narrowed := true }
def TurnMakesUptoSaid : Prop := turnMakesUptoRow.holds Try.pinned (OpenSpec.upto turnMakesSpec)

/-- 'graftworklaw.TurnTurns', WHERE WHAT IT READS IS OF BULK AT MOST 1048576: true; the input reads as it did. -/
def turnTurnsUptoRow : OpenClaim := { program := "yticnpbopelgmiaa", sum := "b774a5fb638794814839be07ccf0561f11838c10a5606d9fa88a02446dd8c949", func := "graftwork/graftworklaw.TurnTurns", spec := "turnTurns", unfollowed := true, recurses := true, plainKeys := false, apart := false, narrowed := true }
def TurnTurnsUptoSaid : Prop := turnTurnsUptoRow.holds Try.pinned (OpenSpec.upto turnTurnsSpec)

/-- 'graftworklaw.TrimSame', WHERE WHAT IT READS IS OF BULK AT MOST 1048576: true; the input reads as it did. -/
def trimSameUptoRow : OpenClaim := { program := "yticnpbopelgmiaa", sum := "b774a5fb638794814839be07ccf0561f11838c10a5606d9fa88a02446dd8c949", func := "graftwork/graftworklaw.TrimSame", spec := "trimSame", unfollowed := true, recurses := true, plainKeys := false, apart := false, narrowed := true }
def TrimSameUptoSaid : Prop := trimSameUptoRow.holds Try.pinned (OpenSpec.upto trimSameSpec)

/-- 'graftworklaw.SplitSame', WHERE WHAT IT READS IS OF BULK AT MOST 1048576: true; the input reads as it did. -/
def splitSameUptoRow : OpenClaim := { program := "yticnpbopelgmiaa", sum := "b774a5fb638794814839be07ccf0561f11838c10a5606d9fa88a02446dd8c949", func := "graftwork/graftworklaw.SplitSame", spec := "splitSame", unfollowed := true, recurses := true, plainKeys := false, apart := false, narrowed := true }
def SplitSameUptoSaid : Prop := splitSameUptoRow.holds Try.pinned (OpenSpec.upto splitSameSpec)

/-- 'graftworklaw.ShortSame', WHERE WHAT IT READS IS OF BULK AT MOST 1048576: true; the input reads as it did. -/
def shortSameUptoRow : OpenClaim := { program := "yticnpbopelgmiaa", sum := "b774a5fb638794814839be07ccf0561f11838c10a5606d9fa88a02446dd8c949", func := "graftwork/graftworklaw.ShortSame", spec := "shortSame", unfollowed := true, recurses := true, plainKeys := false, apart := false, narrowed := true }
def ShortSameUptoSaid : Prop := shortSameUptoRow.holds Try.pinned (OpenSpec.upto shortSameSpec)

/-- 'graftworklaw.ThinSame', WHERE WHAT IT READS IS OF BULK AT MOST 1048576: true; the input reads as it did. -/
def thinSameUptoRow : OpenClaim := { program := "yticnpbopelgmiaa", sum := "b774a5fb638794814839be07ccf0561f11838c10a5606d9fa88a02446dd8c949", func := "graftwork/graftworklaw.ThinSame", spec := "thinSame", unfollowed := true, recurses := true, plainKeys := false, apart := false, narrowed := true }
def ThinSameUptoSaid : Prop := thinSameUptoRow.holds Try.pinned (OpenSpec.upto thinSameSpec)

/-- 'graftworklaw.FactorSame', WHERE WHAT IT READS IS OF BULK AT MOST 1048576: true; the input reads as it did. -/
def factorSameUptoRow : OpenClaim := { program := "yticnpbopelgmiaa", sum := "b774a5fb638794814839be07ccf0561f11838c10a5606d9fa88a02446dd8c949", func := "graftwork/graftworklaw.FactorSame", spec := "factorSame", unfollowed := true, recurses := true, plainKeys := false, apart := false, narrowed := true }
def FactorSameUptoSaid : Prop := factorSameUptoRow.holds Try.pinned (OpenSpec.upto factorSameSpec)

/-- 'graftworklaw.TurnSame', WHERE WHAT IT READS IS OF BULK AT MOST 1048576: true; the input reads as it did. -/
def turnSameUptoRow : OpenClaim := { program := "yticnpbopelgmiaa", sum := "b774a5fb638794814839be07ccf0561f11838c10a5606d9fa88a02446dd8c949", func := "graftwork/graftworklaw.TurnSame", spec := "turnSame", unfollowed := true, recurses := true, plainKeys := false, apart := false, narrowed := true }
def TurnSameUptoSaid : Prop := turnSameUptoRow.holds Try.pinned (OpenSpec.upto turnSameSpec)

end Rows
end Go.Proofs.Yticnpbopelgmiaa
