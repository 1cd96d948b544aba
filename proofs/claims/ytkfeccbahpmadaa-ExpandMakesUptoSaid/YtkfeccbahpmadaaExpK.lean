/-
  Sim: expandBegun, ExpandMakes return true.
-/
import Derived.Test.YtkfeccbahpmadaaExJ
import Derived.Test.YtkfeccbahpmadaaGramC
import Derived.Test.YtkfeccbahpmadaaSynS
set_option linter.unusedVariables false
set_option linter.unusedSimpArgs false
set_option linter.unusedSectionVars false
namespace Go.Proofs.Ytkfeccbahpmadaa
open Go.RowKit
set_option maxRecDepth 100000
-- SimX

def dfsX : List Dfn := [⟨⟨#[83]⟩, 0, .mk 6 ⟨#[]⟩ [.mk 1 ⟨#[97]⟩ []]⟩]
theorem dfsX_fit : DefFit dfsX := (great_def (by kernel_rfl)).1
theorem expX_eq : expM dfsX = (⟨2, 1, [⟨1, []⟩, ⟨1, [-1, 1]⟩, ⟨0, [1]⟩], [⟨#[83]⟩], [⟨#[97]⟩]⟩, ⟨0, 0⟩) := by kernel_rfl
abbrev someD : D := .agg [.sl false 5 [.agg [sD ⟨#[83]⟩, iD 0, iD 6, sD ⟨#[]⟩, .sl false 3 [.agg [iD 1, sD ⟨#[97]⟩, nilL]]]]]
theorem some_le {f : FuncId} {r : V} {h' : Hp} (h : ACalls Try.prog f [.d (textD false dfsX)] [] r h') : ACalls Try.prog f [.d someD] [] r h' :=
  h.le ⟨.agg (.cons (.sl (.cons (.agg (.cons (.refl _) (.cons (.refl _) (.cons (.refl _) (.cons (.refl _) (.cons (.sl (.cons (.agg (.cons (.refl _) (.cons (.refl _) (.cons (.nil _ _) .nil)))) .nil)) .nil)))))) .nil)) .nil), trivial⟩
theorem some_sim : ACalls Try.prog 132 [] [] (.d someD) [] := by
  refine ACalls.intro (n := 9) Try.func132 rfl rfl (by simp) (by rfl) ?_
  simp only [argFr]
  repeat (first | refine aw_froz 7 rfl ?_ | refine wk1 ?_ | refine s_field (hr := ?_))
  exact fin
set_option maxHeartbeats 4000000 in
theorem expandBegun_sim : ACalls Try.prog 57 [] [] (B true) [] := by
  refine ACalls.intro (n := 43) Try.func57 rfl rfl (by simp) (by rfl) ?_
  simp only [argFr]
  have h1 := make_sim (t := false) dfsX_fit
  rw [expX_eq] at h1
  have k1 := some_le h1
  have s1 := sameInts_sim (t := false) (u := false) (xs := [-1, 1]) (ys := [-1, 1]) (by decide) (by decide)
  rw [decide_eq_true rfl] at s1
  repeat (first | refine wk ?_ | refine s_field (hr := ?_))
  refine s_call [] (hA := some_sim) (hr := ?_)
  repeat (first | refine wk ?_ | refine s_field (hr := ?_))
  refine s_call [] (hA := k1) (hr := ?_)
  repeat (first | refine wk ?_ | refine s_field (hr := ?_))
  refine s_callf [] (hA := s1) (hr := ?_)
  repeat (first | refine wk ?_ | refine s_field (hr := ?_))
  exact fin
set_option maxHeartbeats 8000000 in
theorem expandMakes_sim {t : Bool} {l : List Dfn} (hf : TextFit l) : ACalls Try.prog 16 [.d (textD t l)] [] (B true) [] := by
  refine ACalls.intro (n := 72) Try.func16 rfl rfl (by simp) (by rfl) ?_
  simp only [argFr]
  have hg := greatText_sim (t := t) hf
  cases h : greatT l with
  | true =>
    rw [h] at hg
    repeat (first | refine wk ?_ | refine s_field (hr := ?_))
    refine s_call [] (hA := expandBegun_sim) (hr := ?_)
    repeat (first | refine wk ?_ | refine s_field (hr := ?_))
    refine s_call [] (hA := hg) (hr := ?_)
    repeat (first | refine wk ?_ | refine s_field (hr := ?_))
    exact fin
  | false =>
    rw [h] at hg
    obtain ⟨hd, _⟩ := great_def h
    have ho := ownText_sim (t := t) hd.toChkFit
    have hm := make_sim (t := false) hd
    have he := expanded_sim (t := t) hd
    have hst := sameText_sim (t := false) (u := t) (pl := true) hf hf
    rw [sameT_refl] at hst
    have hn := namesOf_sim (t := t) (l := l) (by have := hd.l100; omega)
    have ht := termsOf_sim (t := t) hd.l100 hd.e5
    obtain ⟨p1, p2⟩ := exp_parts (l := l)
    have hfine := exp_fine (l := l)
    rw [exp_same] at he hfine
    generalize expM l = M at *
    obtain ⟨⟨v, nt, rs, names, terms⟩, F⟩ := M
    dsimp only at p1 p2 hfine hm he
    have q2 : decide (F = F) = true := decide_eq_true rfl
    by_cases hF : F.code = 0
    · obtain ⟨rfl, rfl⟩ := p1 hF
      obtain ⟨h1, h2, h3⟩ := hfine hF
      have hgf : (Gram.mk v nt 0 rs).fit := ⟨by show rs.length ≤ _; omega, fun r hr => by have := h3 r hr; omega⟩
      have hsg := sameGram_sim (t := false) (u := false) hgf hgf
      rw [decide_eq_true rfl] at hsg
      have hgr := gramFault_sim (t := false) (g := ⟨v, nt, 0, rs⟩) (by dsimp only; omega) (fun r hr => by have := h3 r hr; omega)
      rw [h1] at hgr
      have hnl : (nms l).length ≤ 100000000 := by have := hd.l100; simp [nms]; omega
      have htl := trms_small hd
      have s1 := sameStrings_sim (t := false) (u := false) (a := nms l) (b := nms l) hnl hnl
      have s2 := sameStrings_sim (t := false) (u := false) (a := trms l) (b := trms l) (by omega) (by omega)
      rw [decide_eq_true rfl] at s1 s2
      generalize nms l = nm at *
      generalize trms l = tm at *
      (repeat (first | refine wkz ?_ | refine s_field (hr := ?_)))
      refine s_call [] (hA := expandBegun_sim) (hr := ?_)
      (repeat (first | refine wkz ?_ | refine s_field (hr := ?_)))
      refine s_call [] (hA := hg) (hr := ?_)
      (repeat (first | refine wkz ?_ | refine s_field (hr := ?_)))
      refine s_call [] (hA := ho) (hr := ?_)
      (repeat (first | refine wkz ?_ | refine s_field (hr := ?_)))
      refine s_call [] (hA := hm) (hr := ?_)
      (repeat (first | refine wkz ?_ | refine s_field (hr := ?_)))
      refine s_call [] (hA := he) (hr := ?_)
      (repeat (first | refine wkz ?_ | refine s_field (hr := ?_)))
      refine s_call [] (hA := hsg) (hr := ?_)
      (repeat (first | refine wkz ?_ | refine s_field (hr := ?_)))
      refine s_call [] (hA := hst) (hr := ?_)
      (repeat (first | refine wkz ?_ | refine s_field (hr := ?_)))
      refine s_call [] (hA := hn) (hr := ?_)
      (repeat (first | refine wkz ?_ | refine s_field (hr := ?_)))
      refine s_call [] (hA := s1) (hr := ?_)
      (repeat (first | refine wkz ?_ | refine s_field (hr := ?_)))
      refine s_call [] (hA := ht) (hr := ?_)
      (repeat (first | refine wkz ?_ | refine s_field (hr := ?_)))
      refine s_call [] (hA := s2) (hr := ?_)
      (repeat (first | refine wkz ?_ | refine s_field (hr := ?_)))
      refine s_call [] (hA := hgr) (hr := ?_)
      (repeat (first | refine wkz ?_ | refine s_field (hr := ?_)))
      exact fin
    · have e := p2 hF
      unfold noMade at e
      obtain ⟨rfl, rfl, rfl, rfl, rfl⟩ : v = 0 ∧ nt = 0 ∧ rs = [] ∧ names = [] ∧ terms = [] := by cases e; exact ⟨rfl, rfl, rfl, rfl, rfl⟩
      have hgf : (Gram.mk 0 0 0 []).fit := ⟨by simp, fun r hr => by simp at hr⟩
      have hsg := sameGram_sim (t := false) (u := false) hgf hgf
      rw [decide_eq_true rfl] at hsg
      (repeat (first | refine wkz ?_ | refine s_field (hr := ?_)))
      refine s_call [] (hA := expandBegun_sim) (hr := ?_)
      (repeat (first | refine wkz ?_ | refine s_field (hr := ?_)))
      refine s_call [] (hA := hg) (hr := ?_)
      (repeat (first | refine wkz ?_ | refine s_field (hr := ?_)))
      refine s_call [] (hA := ho) (hr := ?_)
      (repeat (first | refine wkz ?_ | refine s_field (hr := ?_)))
      refine s_call [] (hA := hm) (hr := ?_)
      (repeat (first | refine wkz ?_ | refine s_field (hr := ?_)))
      refine s_call [] (hA := he) (hr := ?_)
      (repeat (first | refine wkz ?_ | refine s_field (hr := ?_)))
      refine s_call [] (hA := hsg) (hr := ?_)
      (repeat (first | refine wkz ?_ | refine s_field (hr := ?_)))
      refine s_call [] (hA := hst) (hr := ?_)
      (repeat (first | refine wkz ?_ | refine s_field (hr := ?_)))
      exact fin
end Go.Proofs.Ytkfeccbahpmadaa
