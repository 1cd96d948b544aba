/-
  Sim: the length of a row of the call's own, that operations of the same region may write in any order, as long as its length stays.
-/
import Derived.Test.YtkfeccbahpmadaaS5
set_option linter.unusedVariables false
set_option linter.unusedSimpArgs false
set_option linter.unusedSectionVars false
namespace Go.Proofs.Ytkfeccbahpmadaa
open Go.RowKit

def RowIs (sz m : Nat) (ob : Ob) : Prop := ∃ e xs, ob = .row e sz xs ∧ xs.length = m
section
variable {P : Program} {n : Nat} {ops : Array Oper} {K : Exit → Fr → Hp → Prop} {dr : Bool} {rest : List Oper} {log : List Rec} {fr : Fr} {h : Hp} {d : Nat} {ty : TypeId} {pos : String} {after : Array Edge} {g : Option (Nat × Bool)}
variable (T : TT P)
theorem d_lenW {x : Operand} {t e sz k m : Nat} {et : TypeId} {ys : List D} {y : Ty} (hdn : Nat.blt d n = true) (hg : gOk ops fr g) (hx : oev fr x = .own k m) (hk : hget h k = some (.row et sz ys)) (hm : ys.length = m) (ht : T.rows[t]? = some y) (hel : y.elem = some e) (hlog : (log.all fun r => r.wk.all fun j => !Nat.beq j k) = true)
    (hr : dops P n dr ops rest (⟨(gIns ops g ++ insOf x (.own k m)).map Prod.fst, [d], [], []⟩ :: log) (fun e fr' h' => K e fr' h' ∧ (e = .normal → ∃ u, h' = u ++ h ∧ ∀ q ∈ u, q.1 = k → RowIs sz m q.2)) ((d, I m) :: fr) h) : dops P n dr ops (⟨some d, .call { callee := .builtin .len, args := #[x], argTypes := #[t] }, ty, pos, after, g⟩ :: rest) log K fr h := by
  refine .inr ⟨gIns ops g ++ insOf x (.own k m), k, RowIs sz m, I m, ?_, fun p hp => ?_, ⟨_, hk, et, ys, rfl, hm⟩, fun r hr hm' => ?_, hr⟩
  · intro G E fr' h' a w K Q hPan hn C hi ho hK
    obtain ⟨ob, hk', et', ys', rfl, hm'⟩ := ho
    have hgo : gOk ops fr' g := gOk_of hg (fun p hp => hi p (List.mem_append.2 (.inl hp)))
    obtain ⟨r, _⟩ := C.oev (oev_of hx (fun p hp => hi p (List.mem_append.2 (.inr hp)))) (oneOpd_spec (oneOpd_of hx rfl))
    have ha : ArgIs h' sz (.own k m) ys' [(k, some (.row et' sz ys'))] := .own hk' hm'
    obtain ⟨ad, c, news, h1, _⟩ := ha.slArg C r
    obtain ⟨_, ds, _, k2, _, _, _, _, k7, _⟩ := tyOf_spec (T.at ht)
    have hds := k7 e hel
    subst hds
    have he : (execOp a.eval ⟨some d, .call { callee := .builtin .len, args := #[x], argTypes := #[t] }, ty, pos, after, g⟩).run P w = .ok (.value (.int .i64 ys'.length)) w := by
      refine run_lenCall ?_
      rw [h1]
      simp [Builtin.len_, run_underlying k2, goInt]
    unfold wpS
    rw [if_pos (gOk_wanted C hgo)]
    refine .inl ?_
    unfold Oper.wp
    rw [he]
    simp only [Oper.upon]
    refine hK E _ w ?_
    refine C.put (by rw [hn]; simpa [Nat.blt_eq] using hdn) ?_ (fun j hj => by simp [V.keys] at hj)
    rw [hm']
    simp [V.Rep, D.RepV, D.Rep, Value.oneCell']
  · rcases List.mem_append.1 hp with hp | hp
    · exact gOk_ins hg p hp
    · exact oev_ins hx p hp
  · rw [List.all_eq_true] at hlog
    have h1 := hlog r hr
    rw [List.all_eq_true] at h1
    have h2 := h1 k hm'
    rw [Nat.beq_refl] at h2; cases h2
end
/-- The end of such a region. -/
theorem keepsRow {K : Exit → Fr → Hp → Prop} {k sz m : Nat} {fr : Fr} {h h' u : Hp} (hK : K .normal fr h') (hu : h' = u ++ h) (hq : ∀ q ∈ u, q.1 = k → RowIs sz m q.2) : (fun e fr' h' => K e fr' h' ∧ (e = .normal → ∃ u, h' = u ++ h ∧ ∀ q ∈ u, q.1 = k → RowIs sz m q.2)) .normal fr h' := ⟨hK, fun _ => ⟨u, hu, hq⟩⟩
end Go.Proofs.Ytkfeccbahpmadaa
