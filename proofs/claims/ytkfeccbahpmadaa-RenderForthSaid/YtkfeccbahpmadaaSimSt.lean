/-
  Sim: parts of texts, bytes of texts.
-/
import Derived.Test.YtkfeccbahpmadaaS5
set_option linter.unusedVariables false
set_option linter.unusedSimpArgs false
set_option linter.unusedSectionVars false
namespace Go.Proofs.Ytkfeccbahpmadaa
open Go.RowKit

section
variable {P : Program} (T : TT P)
theorem run_sliceStr {t : TypeId} {y : Ty} (ht : T.rows[t]? = some y) (hs : y.str = true) {s : ByteArray} {lo hi : Nat} {kl kh : IntKind} (vl vh : Option Value) (hl : (vl = none ∧ lo = 0) ∨ vl = some (.int kl lo)) (hh : (vh = none ∧ hi = s.size) ∨ vh = some (.int kh hi)) (h1 : lo ≤ hi) (h2 : hi ≤ s.size) (w : World) :
    (Instr.sliceAt t (.string s) vl vh none).run P w = .ok (.string (s.extract lo hi)) w := by
  obtain ⟨_, ds, _, k2, _, _, _, _, _, k8, _⟩ := tyOf_spec (T.at ht)
  have hds := k8 hs
  subst hds
  have e1 : (0 : Int) ≤ (hi : Int) ∧ (hi : Int) ≤ (s.size : Int) := by omega
  have e2 : (0 : Int) ≤ (lo : Int) ∧ (lo : Int) ≤ (hi : Int) := by omega
  rcases hl with ⟨rfl, rfl⟩ | rfl <;> rcases hh with ⟨rfl, rfl⟩ | rfl <;>
    simp [Instr.sliceAt, run_underlying k2, Instr.slice, Instr.sliceBounds, Instr.sliceBound, asIntOf, h1, h2]
variable {n : Nat} {dr : Bool} {ops : Array Oper} {rest : List Oper} {log : List Rec} {K : Exit → Fr → Hp → Prop} {fr : Fr} {h : Hp}
variable {d : Nat} {ty : TypeId} {pos : String} {after : Array Edge} {g : Option (Nat × Bool)}
theorem d_sliceStr {x : Operand} {xl xh : Option Operand} {t lo hi : Nat} {s : ByteArray} {y : Ty} (hdn : Nat.blt d n = true) (hg : gOk ops fr g) (hx : oev fr x = Str s) (hl : bndIs fr xl 0 lo) (hh : bndIs fr xh s.size hi) (h1 : lo ≤ hi) (h2 : hi ≤ s.size)
    (ht : T.rows[t]? = some y) (hs : y.str = true)
    (hr : dops P n dr ops rest (⟨(gIns ops g ++ (insOf x (Str s) ++ (bndIns xl lo ++ bndIns xh hi))).map Prod.fst, [d], [], []⟩ :: log) K ((d, Str (s.extract lo hi)) :: fr) h) : dops P n dr ops (⟨some d, .slice t x xl xh none, ty, pos, after, g⟩ :: rest) log K fr h := by
  refine dops_cons (ins := gIns ops g ++ (insOf x (Str s) ++ (bndIns xl lo ++ bndIns xh hi))) (objs := []) (v := Str (s.extract lo hi)) (upd := []) (LStep.pure rfl hdn rfl hg _ [] _ fun G E fr' h' a w C hi' _ => ?_) (ins_of hg (fun p hp => ?_)) (by simp) hr
  · simp only [List.mem_append] at hi'
    obtain ⟨r, _⟩ := C.oev (oev_of hx (fun p hp => hi' p (.inl hp))) (oneOpd_spec (oneOpd_of hx rfl))
    have b1 := bnd_val C hl (fun p hp => hi' p (.inr (.inl hp)))
    have b2 := bnd_val C hh (fun p hp => hi' p (.inr (.inr hp)))
    simp only [V.Rep, D.RepV, D.Rep, List.cons.injEq, and_true] at r
    have hrun := run_sliceStr T ht hs (s := s) (lo := lo) (hi := hi) (kl := .i64) (kh := .i64) (xl.map a.eval) (xh.map a.eval) b1 b2 h1 h2 w
    refine ⟨_, ?_, by simp only [V.Rep, D.RepV, D.Rep]; exact ⟨rfl, rfl⟩, by simp [V.keys]⟩
    simp only [execOp, r.1, Option.map_none, Sem.run_bind, hrun, Result.andThen_ok, Sem.run_pure]
  · simp only [List.mem_append] at hp
    rcases hp with hp | hp | hp
    · exact oev_ins hx p hp
    · exact bndIns_ok hl p hp
    · exact bndIns_ok hh p hp
theorem s_sliceStr {x : Operand} {xl xh : Option Operand} {t : Nat} {s : ByteArray} {y : Ty} (lo hi : Nat) (hdn : Nat.blt d n = true := by exact rfl) (hg : gOk ops fr g := by first | exact gOk_none | exact gOk_some rfl rfl rfl | (apply gOk_some rfl rfl; (first | assumption | exact rfl | exact decide_eq_true rfl | exact congrArg not (decide_eq_true rfl) | ((try simp only [decide_eq_true_eq, decide_eq_false_iff_not, Bool.not_true, Bool.not_false, Bool.not_eq_true', Bool.not_eq_false', Bool.not_not, Int.not_lt, Int.not_le, Bool.and_eq_true, Bool.or_eq_true, Bool.and_eq_false_iff, Bool.or_eq_false_iff]); first | assumption | omega)))) (hx : oev fr x = Str s := by exact rfl) (hl : bndIs fr xl 0 lo := by exact rfl) (hh : bndIs fr xh s.size hi := by exact rfl) (h1 : lo ≤ hi := by omega) (h2 : hi ≤ s.size := by first | decide | omega)
    (ht : T.rows[t]? = some y := by exact rfl) (hs : y.str = true := by exact rfl)
    (hr : dops P n dr ops rest (⟨(gIns ops g ++ (insOf x (Str s) ++ (bndIns xl lo ++ bndIns xh hi))).map Prod.fst, [d], [], []⟩ :: log) K ((d, Str (s.extract lo hi)) :: fr) h) : dops P n dr ops (⟨some d, .slice t x xl xh none, ty, pos, after, g⟩ :: rest) log K fr h :=
  d_sliceStr T hdn hg hx hl hh h1 h2 ht hs hr
theorem s_indexStr {x ix : Operand} {t : Nat} {s : ByteArray} {ik : IntKind} {c : Int} {b : UInt8} {y : Ty} (i : Nat) (hb : s[i]? = some b) (hdn : Nat.blt d n = true := by exact rfl) (hg : gOk ops fr g := by first | exact gOk_none | exact gOk_some rfl rfl rfl | (apply gOk_some rfl rfl; (first | assumption | exact rfl | exact decide_eq_true rfl | exact congrArg not (decide_eq_true rfl) | ((try simp only [decide_eq_true_eq, decide_eq_false_iff_not, Bool.not_true, Bool.not_false, Bool.not_eq_true', Bool.not_eq_false', Bool.not_not, Int.not_lt, Int.not_le, Bool.and_eq_true, Bool.or_eq_true, Bool.and_eq_false_iff, Bool.or_eq_false_iff]); first | assumption | omega)))) (hx : oev fr x = Str s := by exact rfl) (hy : oev fr ix = .d (.raw (.int ik c)) := by exact rfl) (hc : c = (i : Int) := by first | exact rfl | omega) (ht : T.rows[t]? = some y := by exact rfl) (hs : y.str = true := by exact rfl)
    (hr : dops P n dr ops rest (⟨(gIns ops g ++ (insOf x (Str s) ++ insOf ix (.d (.raw (.int ik c))))).map Prod.fst, [d], [], []⟩ :: log) K ((d, U8 b.toNat) :: fr) h) : dops P n dr ops (⟨some d, .index t x ix, ty, pos, after, g⟩ :: rest) log K fr h :=
  d_indexS T i hdn hg hx hy hc hb ht hs hr
end
end Go.Proofs.Ytkfeccbahpmadaa
