/-
  Sim: a field of a struct value.
-/
import Derived.Test.YtpaeihifcmohkaaSimT
set_option linter.unusedVariables false
set_option linter.unusedSimpArgs false
namespace Go.Proofs.Ytpaeihifcmohkaa
open Go.RowKit

/-- The field f of type st is the cell fo of m. -/
def FieldRun (P : Program) (st f m fo : Nat) : Prop := ∀ (l : List Value) (u : Value) (w : World), l.length = m → l[fo]? = some u → (Instr.field st (.agg l.toArray) f).run P w = .ok u w
theorem fieldRun {P : Program} {st f m fo ft : Nat} {fs : Array Field} {fd : Field} {d : TypeDesc} (hu : P.underlying st = some (.struct fs)) (hf : fs[f]? = some fd) (ho : fd.offset = fo) (hft : fd.type = ft) (hd : P.underlying ft = some d) (hr : d.isRow = false) : FieldRun P st f m fo := by
  intro l u w hl hg
  subst ho; subst hft
  have hagg : (isAgg fd.type).run P w = .ok false w := by
    unfold isAgg
    rw [Sem.run_bind, run_underlying hd w]
    cases d <;> simp_all [TypeDesc.isRow]
  simp only [Instr.field, Sem.run_bind, run_underlying hu, Result.andThen_ok, hf]
  simp [part, asAgg, Sem.run_bind, hagg, hg]
section
variable {P : Program} {n : Nat} {dr : Bool} {ops : Array Oper} {rest : List Oper} {log : List Rec} {K : Fr → Hp → Prop} {fr : Fr} {h : Hp}
variable {d : Nat} {ty : TypeId} {pos : String} {after : Array Edge} {g : Option (Nat × Bool)}
def isAggV : V → Bool
  | .d (.agg _) => true
  | .agg _ => true
  | _ => false
theorem d_field {x : Operand} {st f m fo : Nat} {v c : V} {cs : List V} (hdn : Nat.blt d n = true) (hg : gOk ops fr g) (hF : FieldRun P st f m fo) (hx : oev fr x = v) (h1 : oneOpd x = true) (hv : isAggV v = true) (hcs : v.cellsOf = some cs) (hm : cs.length = m) (hc : cs[fo]? = some c)
    (hr : dops P n dr ops rest (⟨(gIns ops g ++ insOf x v).map Prod.fst, [d], [], []⟩ :: log) K ((d, c) :: fr) h) : dops P n dr ops (⟨some d, .field st x f, ty, pos, after, g⟩ :: rest) log K fr h := by
  refine dops_cons (ins := gIns ops g ++ insOf x v) (objs := []) (v := c) (upd := []) (LStep.pure rfl hdn rfl hg (insOf x v) [] c fun G E fr' h' a w C hi _ => ?_) (fun p hp => ?_) (by simp) hr
  · obtain ⟨r1, r2⟩ := C.oev (oev_of hx hi) (oneOpd_spec h1)
    obtain ⟨c1, _⟩ := V.cells_rep hcs r1
    obtain ⟨u, hu, hur⟩ := c1.get hc
    have hagg : ∃ us : List Value, a.eval x = .agg us.toArray := by
      unfold isAggV at hv
      split at hv
      · simp only [V.Rep, D.RepV] at r1; obtain ⟨us, h1, _⟩ := r1; exact ⟨us, h1⟩
      · simp only [V.Rep] at r1; obtain ⟨us, h1, _⟩ := r1; exact ⟨us, h1⟩
      · cases hv
    obtain ⟨us, hus⟩ := hagg
    rw [hus] at hu c1
    have hl := c1.length
    simp only [Value.cells] at hu hl
    refine ⟨u, ?_, hur, fun k hk => r2 k ?_⟩
    · simp only [execOp, hus, Sem.run_bind, hF us u w (by simpa [hm] using hl) (by simpa using hu), Result.andThen_ok, Sem.run_pure]
    · exact keyss_cellsOf hcs k (V.keyss_mem.2 ⟨c, List.mem_of_getElem? hc, hk⟩)
  · rcases List.mem_append.1 hp with hp | hp
    · exact gOk_ins hg p hp
    · exact oev_ins hx p hp
end
end Go.Proofs.Ytpaeihifcmohkaa
