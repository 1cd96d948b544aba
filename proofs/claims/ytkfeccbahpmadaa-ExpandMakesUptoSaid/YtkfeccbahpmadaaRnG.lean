/-
  Sim: render.Check, the reference's RenderFault, render.Print. Sim: texts of memory of their own (OwnText); renderBegun, RenderChecks, RenderPrints return true.
-/
import Derived.Test.YtkfeccbahpmadaaBldB
import Derived.Test.YtkfeccbahpmadaaRnC
import Derived.Test.YtkfeccbahpmadaaSynS
import Derived.Test.YtkfeccbahpmadaaS5
set_option linter.unusedVariables false
set_option linter.unusedSimpArgs false
set_option linter.unusedSectionVars false
namespace Go.Proofs.Ytkfeccbahpmadaa
open Go.RowKit
set_option maxRecDepth 100000
-- SimX

theorem find_first {p : Nat → Bool} {n v : Nat} (hv : v < n) (hb : ∀ u, u < v → p u = false) (hv2 : p v = true) : (List.range n).find? p = some v := by
  rw [List.find?_eq_some_iff_append]
  refine ⟨hv2, List.range v, (List.range n).drop (v + 1), ?_, fun u hu => by rw [hb u (List.mem_range.1 hu)]; rfl⟩
  have h1 : v < (List.range n).length := by simpa using hv
  have h2 := (List.take_append_drop v (List.range n)).symm
  rw [List.drop_eq_getElem_cons h1, List.getElem_range, List.take_range, Nat.min_eq_left (by omega)] at h2
  exact h2
theorem find_not {p : Nat → Bool} {n : Nat} (hb : ∀ u, u < n → p u = false) : (List.range n).find? p = none := by
  rw [List.find?_eq_none]
  intro u hu
  rw [hb u (List.mem_range.1 hu)]; simp
theorem getD_at {α : Type} {l : List α} {i : Nat} {x : α} (h : i < l.length) : l.getD i x = l[i] := by rw [List.getD_eq_getElem?_getD, List.getElem?_eq_getElem h]; rfl
theorem renF_at {l : List Dfn} {i : Nat} (h1 : i < l.length) (h2 : l.length ≤ 16) (h3 : ∀ j, j < i → ∀ (h : j < l.length), defF l[j] = 0) (h4 : defF l[i] ≠ 0) : renF l = ⟨defF l[i], i⟩ := by
  unfold renF
  rw [if_neg (by omega), if_neg (by omega), find_first h1 (fun u hu => by rw [getD_at (by omega), h3 u hu (by omega)]; rfl) (by rw [getD_at h1, decide_eq_false h4]; rfl)]
  simp only [getD_at h1]
theorem renF_ok {l : List Dfn} (h1 : 0 < l.length) (h2 : l.length ≤ 16) (h3 : ∀ j, (h : j < l.length) → defF l[j] = 0) : renF l = if 6000 < (txT l).size then ⟨6, -1⟩ else ⟨0, 0⟩ := by
  unfold renF
  rw [if_neg (by omega), if_neg (by omega), find_not (fun u hu => by rw [getD_at hu, h3 u hu]; rfl)]
theorem defF_zero {d : Dfn} (h : defF d = 0) : Old.nameB d.name = true ∧ prt d.e ≤ 60 ∧ opn d.e ≤ 40 ∧ xF d.e = 0 := by
  unfold defF at h
  split at h
  · cases h
  · rename_i h1
    split at h
    · cases h
    · split at h
      · cases h
      · exact ⟨by simpa using h1, by omega, by omega, h⟩
structure ChkFit (l : List Dfn) : Prop where
  len : l.length ≤ 100000000
  ex : ∀ d ∈ l, esz d.e ≤ 10000000
  nm : ∀ d ∈ l, d.name.size ≤ 5000
  lng : ∀ d ∈ l, longE d.e = false
theorem ChkFit.tx {l : List Dfn} (h : ChkFit l) (hl : l.length ≤ 16) (h3 : ∀ j, (h : j < l.length) → defF l[j] = 0) : TxFit l := ⟨by omega, h.ex, h.nm, fun d hd => by
  obtain ⟨j, hj, rfl⟩ := List.getElem_of_mem hd
  exact (defF_zero (h3 j hj)).2.2.2⟩
theorem fail_def {d : Dfn} {i : Int} : wkE d.e (failW (failW (failW ⟨0, 0⟩ i (!Old.nameB d.name) 2) i (decide (pgE d.e 60 < 0)) 6) i (decide (dpE d.e 40 < 0)) 5) i = if defF d = 0 then ⟨0, 0⟩ else ⟨defF d, i⟩ := by
  have h1 := pgE_neg d.e 60
  have h2 := dpE_spec d.e 40 (by decide)
  have hb1 : decide (pgE d.e 60 < 0) = decide ((60 : Int) < (prt d.e : Int)) := decide_eq_decide.2 h1
  have hb2 : decide (dpE d.e 40 < 0) = decide ((40 : Int) < (opn d.e : Int)) := decide_eq_decide.2 h2
  rw [hb1, hb2]
  unfold defF wkE failW
  cases Old.nameB d.name with
  | false => simp
  | true =>
    by_cases h3 : 60 < prt d.e
    · have h3' : (60 : Int) < (prt d.e : Int) := by omega
      simp [h3, h3']
    · have h3' : ¬ (60 : Int) < (prt d.e : Int) := by omega
      by_cases h4 : 40 < opn d.e
      · have h4' : (40 : Int) < (opn d.e : Int) := by omega
        simp [h3, h3', h4, h4']
      · have h4' : ¬ (40 : Int) < (opn d.e : Int) := by omega
        simp [h3, h3', h4, h4']
abbrev wkC (c ca a : Int) : Ob := .box 127 [I c, I ca, I a]
def CkInv (l : List Dfn) (i : Nat) (c ca : Int) : Prop := (0 < l.length ∧ l.length ≤ 16 ∧ c = 0 ∧ ca = 0 ∧ ∀ j, j < i → ∀ (h : j < l.length), defF l[j] = 0) ∨ (c ≠ 0 ∧ renF l = ⟨c, ca⟩)
theorem ck_start {l : List Dfn} {c1 ca1 c2 ca2 : Int} (h1 : failW ⟨0, 0⟩ (-1) (decide ((l.length : Int) = 0)) 8 = ⟨c1, ca1⟩) (h2 : failW ⟨c1, ca1⟩ (-1) (decide (16 < (l.length : Int))) 6 = ⟨c2, ca2⟩) : CkInv l 0 c2 ca2 := by
  by_cases h0 : l.length = 0
  · rw [decide_eq_true (by omega)] at h1
    obtain ⟨rfl, rfl⟩ : 8 = c1 ∧ -1 = ca1 := by simpa [failW] using h1
    obtain ⟨rfl, rfl⟩ : 8 = c2 ∧ -1 = ca2 := by simpa [failW] using h2
    exact .inr ⟨by decide, by unfold renF; rw [if_pos h0]⟩
  · rw [decide_eq_false (by omega)] at h1
    obtain ⟨rfl, rfl⟩ : 0 = c1 ∧ 0 = ca1 := by simpa [failW] using h1
    by_cases h16 : 16 < l.length
    · rw [decide_eq_true (by omega)] at h2
      obtain ⟨rfl, rfl⟩ : 6 = c2 ∧ -1 = ca2 := by simpa [failW] using h2
      exact .inr ⟨by decide, by unfold renF; rw [if_neg h0, if_pos h16]⟩
    · rw [decide_eq_false (by omega)] at h2
      obtain ⟨rfl, rfl⟩ : 0 = c2 ∧ 0 = ca2 := by simpa [failW] using h2
      exact .inl ⟨by omega, by omega, rfl, rfl, fun j h => by omega⟩
set_option maxHeartbeats 8000000 in
theorem check_sim {t : Bool} {l : List Dfn} (hf : ChkFit l) : ACalls Try.prog 37 [.d (textD t l)] [] (.d (faultD (renF l))) [] := by
  refine ACalls.intro (n := 85) Try.func37 rfl rfl (by simp) (by rfl) ?_
  simp only [argFr]
  have hl := hf.len
  have hfl := fun c ca a b code => wFail_sim (f := ⟨c, ca⟩) (a := a) (b := b) (code := code)
  simp only [wkG, wkB] at hfl
  have hc1 := hfl 0 0 (-1) (decide ((l.length : Int) = 0)) 8
  generalize hq1 : failW ⟨0, 0⟩ (-1) (decide ((l.length : Int) = 0)) 8 = f1 at *
  obtain ⟨c1, ca1⟩ := f1
  have hc2 := hfl c1 ca1 (-1) (decide (16 < (l.length : Int))) 6
  generalize hq2 : failW ⟨c1, ca1⟩ (-1) (decide (16 < (l.length : Int))) 6 = f2 at *
  obtain ⟨c2, ca2⟩ := f2
  have hst := ck_start hq1 hq2
  repeat (first | refine wk ?_ | refine s_field (hr := ?_))
  refine s_call [(1000, 7)] (hA := hc1) (hr := ?_)
  repeat (first | refine wk ?_ | refine s_field (hr := ?_))
  refine s_call [(1000, 7)] (hA := hc2) (hr := ?_)
  repeat (first | refine wk ?_ | refine s_field (hr := ?_))
  refine t_loop (X := Nat × Int × Int × Int) (fun s => s.1 ≤ l.length ∧ CkInv l s.1 s.2.1 s.2.2.1) (fun s => [(4, I s.1), (3, .ptr 7 0), (2, .ptr 2 0), (1, .ptr 1 0)]) (fun s => [(1, .box 44 [.d (dfnsD t l)]), (2, .box 33 [.d (iD 0), .d (iD 0)]), (7, wkC s.2.1 s.2.2.1 s.2.2.2)]) (fun s => l.length - s.1) (0, c2, ca2, -1) ⟨Nat.zero_le _, hst⟩ ?_
  rintro ⟨i, c, ca, a⟩ ⟨h1, h2⟩
  dsimp only at h1 h2 ⊢
  rcases h2 with ⟨g1, g2, rfl, rfl, g3⟩ | ⟨g1, g2⟩
  · by_cases hlt : i < l.length
    · have hd := List.getElem_mem hlt
      have hnm := name_sim l[i].name (by have := hf.nm _ hd; unfold maxLen; omega)
      have hex := hf.ex _ hd
      have hpt := parts_gen _ (t := t) (x := l[i].e) (k := 60) (Nat.lt_succ_self _) (by omega) (by omega) (by omega)
      have hdp := deep_gen _ (t := t) (x := l[i].e) (k := 40) (Nat.lt_succ_self _) (by omega) (by omega) (by omega)
      have hw := fun f => wExpr_gen _ (t := t) (x := l[i].e) (f := f) (a := (i : Int)) (Nat.lt_succ_self _) (by omega) (hf.lng _ hd)
      have hfd := fail_def (d := l[i]) (i := (i : Int))
      have hk1 := hfl 0 0 (i : Int) (!Old.nameB l[i].name) 2
      generalize failW ⟨0, 0⟩ (i : Int) (!Old.nameB l[i].name) 2 = f3 at *
      obtain ⟨c3, ca3⟩ := f3
      have hk2 := hfl c3 ca3 (i : Int) (decide (pgE l[i].e 60 < 0)) 6
      generalize failW ⟨c3, ca3⟩ (i : Int) (decide (pgE l[i].e 60 < 0)) 6 = f4 at *
      obtain ⟨c4, ca4⟩ := f4
      have hk3 := hfl c4 ca4 (i : Int) (decide (dpE l[i].e 40 < 0)) 5
      generalize failW ⟨c4, ca4⟩ (i : Int) (decide (dpE l[i].e 40 < 0)) 5 = f5 at *
      obtain ⟨c5, ca5⟩ := f5
      have hk4 := hw ⟨c5, ca5⟩
      generalize wkE l[i].e ⟨c5, ca5⟩ (i : Int) = f6 at *
      obtain ⟨c6, ca6⟩ := f6
      simp only [wkG, wkB] at hk4
      have hnx : CkInv l (i + 1) c6 ca6 := by
        by_cases h0 : defF l[i] = 0
        · rw [if_pos h0] at hfd
          cases hfd
          exact .inl ⟨g1, g2, rfl, rfl, upto_succ g3 (fun _ => h0)⟩
        · rw [if_neg h0] at hfd
          cases hfd
          exact .inr ⟨h0, renF_at hlt g2 g3 h0⟩
      repeat (first | refine wk ?_ | refine s_field (hr := ?_))
      refine s_call [] (hA := hnm) (hr := ?_)
      repeat (first | refine wk ?_ | refine s_field (hr := ?_))
      refine s_call [(1000, 7)] (hA := hk1) (hr := ?_)
      repeat (first | refine wk ?_ | refine s_field (hr := ?_))
      refine s_call [] (hA := hpt) (hr := ?_)
      repeat (first | refine wk ?_ | refine s_field (hr := ?_))
      refine s_call [(1000, 7)] (hA := hk2) (hr := ?_)
      repeat (first | refine wk ?_ | refine s_field (hr := ?_))
      refine s_call [] (hA := hdp) (hr := ?_)
      repeat (first | refine wk ?_ | refine s_field (hr := ?_))
      refine s_call [(1000, 7)] (hA := hk3) (hr := ?_)
      repeat (first | refine wk ?_ | refine s_field (hr := ?_))
      refine s_call [(1000, 7)] (hA := hk4) (hr := ?_)
      repeat (first | refine wk ?_ | refine s_field (hr := ?_))
      exact t_next (i + 1, c6, ca6, (i : Int)) (a := ⟨by dsimp only; omega, hnx⟩) (b := by dsimp only; omega)
    · have hall : ∀ j, (h : j < l.length) → defF l[j] = 0 := fun j h => g3 j (by omega) h
      have hrf := renF_ok g1 g2 hall
      have hwh := whole_sim (t := t) (hf.tx g2 hall) g1
      have hsz := txT_le (hf.tx g2 hall) (Nat.le_refl l.length)
      rw [List.take_length] at hsz
      have hk1 := hfl 0 0 (-1) (decide (6000 < ((txT l).size : Int))) 6
      have e : failW ⟨0, 0⟩ (-1) (decide (6000 < ((txT l).size : Int))) 6 = renF l := by
        rw [hrf]
        by_cases h6 : 6000 < (txT l).size
        · rw [if_pos h6, decide_eq_true (by omega)]; rfl
        · rw [if_neg h6, decide_eq_false (by omega)]; rfl
      rw [e] at hk1
      generalize renF l = rf at *
      obtain ⟨cr, car⟩ := rf
      repeat (first | refine wk ?_ | refine s_field (hr := ?_))
      refine s_call [] (hA := hwh) (hr := ?_)
      repeat (first | refine wk ?_ | refine s_field (hr := ?_))
      refine s_call [(1000, 7)] (hA := hk1) (hr := ?_)
      repeat (first | refine wk ?_ | refine s_field (hr := ?_))
      exact fin
  · rw [g2]
    by_cases hlt : i < l.length
    · (repeat (first | refine wkz ?_ | refine s_field (hr := ?_)))
      exact fin
    · (repeat (first | refine wkz ?_ | refine s_field (hr := ?_)))
      exact fin
theorem rd_step {l : List Dfn} {i : Nat} (h1 : i < l.length) (h2 : l.length ≤ 16) (h3 : ∀ j, j < i → ∀ (h : j < l.length), defF l[j] = 0) (h4 : defF l[i] ≠ 0) {c : Int} (h : defF l[i] = c) : renF l = ⟨c, i⟩ := by rw [renF_at h1 h2 h3 h4, h]
set_option maxHeartbeats 8000000 in
theorem renderFault_sim {t : Bool} {l : List Dfn} (hf : ChkFit l) : ACalls Try.prog 40 [.d (textD t l)] [] (.d (faultD (renF l))) [] := by
  refine ACalls.intro (n := 60) Try.func40 rfl rfl (by simp) (by rfl) ?_
  simp only [argFr]
  have hl := hf.len
  by_cases h0 : l.length = 0
  · rw [show renF l = ⟨8, -1⟩ by unfold renF; rw [if_pos h0]]
    repeat (first | refine wk ?_ | refine s_field (hr := ?_))
    refine s_call [] (hA := f_sim (a := 8) (b := -1)) (hr := ?_)
    repeat (first | refine wk ?_ | refine s_field (hr := ?_))
    exact fin
  by_cases h16 : 16 < l.length
  · rw [show renF l = ⟨6, -1⟩ by unfold renF; rw [if_neg h0, if_pos h16]]
    repeat (first | refine wk ?_ | refine s_field (hr := ?_))
    refine s_call [] (hA := f_sim (a := 6) (b := -1)) (hr := ?_)
    repeat (first | refine wk ?_ | refine s_field (hr := ?_))
    exact fin
  repeat (first | refine wk ?_ | refine s_field (hr := ?_))
  refine t_loop (X := Nat) (fun i => i ≤ l.length ∧ ∀ j, j < i → ∀ (h : j < l.length), defF l[j] = 0) (fun i => [(3, I i), (2, .ptr 2 0), (1, .ptr 1 0)]) (fun i => [(1, .box 44 [.d (dfnsD t l)]), (2, .box 33 [.d (iD 0), .d (iD 0)])]) (fun i => l.length - i) 0 ⟨Nat.zero_le _, fun j h => by omega⟩ ?_
  rintro i ⟨h1, g3⟩
  by_cases hlt : i < l.length
  · have hd := List.getElem_mem hlt
    have hnm := isName_sim l[i].name (by have := hf.nm _ hd; unfold maxLen; omega)
    have hex := hf.ex _ hd
    have hpt := partsOf_gen _ (t := t) (x := l[i].e) (Nat.lt_succ_self _) (by omega)
    have hdp := openIn_gen _ (t := t) (x := l[i].e) (Nat.lt_succ_self _) (by omega)
    have hxf := exprFault_gen _ (t := t) (x := l[i].e) (Nat.lt_succ_self _) (by omega) (hf.lng _ hd)
    have hbad := fun h4 => renF_at (l := l) hlt (by omega) g3 h4
    by_cases hb : Old.nameB l[i].name = false
    · have e : defF l[i] = 2 := by unfold defF; rw [if_pos hb]
      rw [hbad (by rw [e]; decide), e]
      rw [hb] at hnm
      repeat (first | refine wk ?_ | refine s_field (hr := ?_))
      refine s_call [] (hA := hnm) (hr := ?_)
      repeat (first | refine wk ?_ | refine s_field (hr := ?_))
      refine s_call [] (hA := f_sim (a := 2) (b := (i : Int))) (hr := ?_)
      repeat (first | refine wk ?_ | refine s_field (hr := ?_))
      exact fin
    have hb' : Old.nameB l[i].name = true := by simpa using hb
    rw [hb'] at hnm
    by_cases h60 : 60 < prt l[i].e
    · have e : defF l[i] = 6 := by unfold defF; rw [if_neg hb, if_pos h60]
      rw [hbad (by rw [e]; decide), e]
      repeat (first | refine wk ?_ | refine s_field (hr := ?_))
      refine s_call [] (hA := hnm) (hr := ?_)
      repeat (first | refine wk ?_ | refine s_field (hr := ?_))
      refine s_call [] (hA := hpt) (hr := ?_)
      repeat (first | refine wk ?_ | refine s_field (hr := ?_))
      refine s_call [] (hA := f_sim (a := 6) (b := (i : Int))) (hr := ?_)
      repeat (first | refine wk ?_ | refine s_field (hr := ?_))
      exact fin
    by_cases h40 : 40 < opn l[i].e
    · have e : defF l[i] = 5 := by unfold defF; rw [if_neg hb, if_neg h60, if_pos h40]
      rw [hbad (by rw [e]; decide), e]
      repeat (first | refine wk ?_ | refine s_field (hr := ?_))
      refine s_call [] (hA := hnm) (hr := ?_)
      repeat (first | refine wk ?_ | refine s_field (hr := ?_))
      refine s_call [] (hA := hpt) (hr := ?_)
      repeat (first | refine wk ?_ | refine s_field (hr := ?_))
      refine s_call [] (hA := hdp) (hr := ?_)
      repeat (first | refine wk ?_ | refine s_field (hr := ?_))
      refine s_call [] (hA := f_sim (a := 5) (b := (i : Int))) (hr := ?_)
      repeat (first | refine wk ?_ | refine s_field (hr := ?_))
      exact fin
    have e : defF l[i] = xF l[i].e := by unfold defF; rw [if_neg hb, if_neg h60, if_neg h40]
    by_cases hx : xF l[i].e = 0
    · rw [hx] at hxf e
      repeat (first | refine wk ?_ | refine s_field (hr := ?_))
      refine s_call [] (hA := hnm) (hr := ?_)
      repeat (first | refine wk ?_ | refine s_field (hr := ?_))
      refine s_call [] (hA := hpt) (hr := ?_)
      repeat (first | refine wk ?_ | refine s_field (hr := ?_))
      refine s_call [] (hA := hdp) (hr := ?_)
      repeat (first | refine wk ?_ | refine s_field (hr := ?_))
      refine s_call [] (hA := hxf) (hr := ?_)
      repeat (first | refine wk ?_ | refine s_field (hr := ?_))
      exact t_next (i + 1) (a := ⟨by omega, upto_succ g3 (fun _ => e)⟩)
    · rw [hbad (by rw [e]; exact hx), e]
      repeat (first | refine wk ?_ | refine s_field (hr := ?_))
      refine s_call [] (hA := hnm) (hr := ?_)
      repeat (first | refine wk ?_ | refine s_field (hr := ?_))
      refine s_call [] (hA := hpt) (hr := ?_)
      repeat (first | refine wk ?_ | refine s_field (hr := ?_))
      refine s_call [] (hA := hdp) (hr := ?_)
      repeat (first | refine wk ?_ | refine s_field (hr := ?_))
      refine s_call [] (hA := hxf) (hr := ?_)
      repeat (first | refine wk ?_ | refine s_field (hr := ?_))
      refine s_call [] (hA := f_sim (a := xF l[i].e) (b := (i : Int))) (hr := ?_)
      repeat (first | refine wk ?_ | refine s_field (hr := ?_))
      exact fin
  · have hall : ∀ j, (h : j < l.length) → defF l[j] = 0 := fun j h => g3 j (by omega) h
    have hrf := renF_ok (by omega) (by omega) hall
    have hwh := textOf_sim (t := t) (hf.tx (by omega) hall)
    rw [hrf]
    by_cases h6 : 6000 < (txT l).size
    · rw [if_pos h6]
      repeat (first | refine wk ?_ | refine s_field (hr := ?_))
      refine s_call [] (hA := hwh) (hr := ?_)
      repeat (first | refine wk ?_ | refine s_field (hr := ?_))
      refine s_call [] (hA := f_sim (a := 6) (b := -1)) (hr := ?_)
      repeat (first | refine wk ?_ | refine s_field (hr := ?_))
      exact fin
    · rw [if_neg h6]
      repeat (first | refine wk ?_ | refine s_field (hr := ?_))
      refine s_call [] (hA := hwh) (hr := ?_)
      repeat (first | refine wk ?_ | refine s_field (hr := ?_))
      exact fin
theorem renF_good {l : List Dfn} (h : (renF l).code = 0) : renF l = ⟨0, 0⟩ ∧ 0 < l.length ∧ l.length ≤ 16 ∧ (∀ j, (h : j < l.length) → defF l[j] = 0) ∧ (txT l).size ≤ 6000 := by
  by_cases h0 : l.length = 0
  · rw [show renF l = ⟨8, -1⟩ by unfold renF; rw [if_pos h0]] at h; cases h
  by_cases h16 : 16 < l.length
  · rw [show renF l = ⟨6, -1⟩ by unfold renF; rw [if_neg h0, if_pos h16]] at h; cases h
  have hall : ∀ n, n ≤ l.length → ∀ j, j < n → ∀ (h : j < l.length), defF l[j] = 0 := by
    intro n
    induction n with
    | zero => intro _ j hj; omega
    | succ n ih =>
      intro hn
      refine upto_succ (ih (by omega)) (fun hnl => ?_)
      by_cases h4 : defF l[n] = 0
      · exact h4
      · rw [renF_at hnl (by omega) (ih (by omega)) h4] at h
        exact absurd h h4
  have hall2 : ∀ j, (h : j < l.length) → defF l[j] = 0 := fun j hj => hall _ (Nat.le_refl _) j hj hj
  have hrf := renF_ok (by omega) (by omega) hall2
  by_cases h6 : 6000 < (txT l).size
  · rw [hrf, if_pos h6] at h; cases h
  · rw [if_neg h6] at hrf
    exact ⟨hrf, by omega, by omega, hall2, by omega⟩
def printT (l : List Dfn) : ByteArray := if (renF l).code = 0 then txT l else bs []
theorem print_sim {t : Bool} {l : List Dfn} (hf : ChkFit l) : ACalls Try.prog 41 [.d (textD t l)] [] (.tup [Str (printT l), .d (faultD (renF l))]) [] := by
  refine ACalls.intro (n := 14) Try.func41 rfl rfl (by simp) (by rfl) ?_
  simp only [argFr]
  have hck := check_sim (t := t) hf
  unfold printT
  by_cases h : (renF l).code = 0
  · obtain ⟨h1, h2, h3, h4, _⟩ := renF_good h
    have hwh := whole_sim (t := t) (hf.tx h3 h4) h2
    rw [if_pos h, h1]
    rw [h1] at hck
    repeat (first | refine wk ?_ | refine s_field (hr := ?_))
    refine s_call [] (hA := hck) (hr := ?_)
    repeat (first | refine wk ?_ | refine s_field (hr := ?_))
    refine s_call [] (hA := hwh) (hr := ?_)
    repeat (first | refine wk ?_ | refine s_field (hr := ?_))
    exact Fin.norm (Fin.r2 rfl (.of_tmp rfl) (.aggT TY rfl rfl rfl rfl rfl) (Co.tup (by repeat' (first | exact trivial | (refine ⟨?_, ?_⟩) | exact Co.refl _ | (refine Co.agg ?_) | exact Cos.refl _))) trivial rfl)
  · rw [if_neg h]
    generalize renF l = rf at *
    obtain ⟨c, ca⟩ := rf
    dsimp only at h
    repeat (first | refine wk ?_ | refine s_field (hr := ?_))
    refine s_call [] (hA := hck) (hr := ?_)
    repeat (first | refine wk ?_ | refine s_field (hr := ?_))
    exact Fin.norm (Fin.r2 rfl (.of_tmp rfl) (.aggT TY rfl rfl rfl rfl rfl) (Co.tup (by repeat' (first | exact trivial | (refine ⟨?_, ?_⟩) | exact Co.refl _ | (refine Co.agg ?_) | exact Cos.refl _))) trivial rfl)
end Go.Proofs.Ytkfeccbahpmadaa
namespace Go.Proofs.Ytkfeccbahpmadaa
open Go.RowKit
set_option maxRecDepth 100000
-- SimX

theorem ownExpr_gen : ∀ (N : Nat) {t : Bool} {x : Expr}, esz x < N → esz x ≤ 10000000 → ACalls Try.prog 83 [.d (exprA t x)] [] (.d (exprA false x)) [] := by
  intro N
  induction N with
  | zero => intro t x h; omega
  | succ N ih =>
  intro t x hn hN
  refine ACalls.intro (n := 29) Try.func83 rfl rfl (by simp) (by rfl) ?_
  simp only [argFr]
  have hx := esz_eq x
  have hl := eszs_len x.l
  repeat (first | refine wk ?_ | refine s_field (hr := ?_))
  refine aw_nilCell 3 2 900 85 3 rfl rfl rfl rfl ?_
  refine t_loop (X := Nat) (fun i => i ≤ x.l.length) (fun i => [(4, I i), (3, .ptr 3 0), (2, .ptr 2 0), (1, .ptr 1 0)]) (fun i => [(1, exprBox t x), (2, .box 85 [.d (iD 0), .d (sD ⟨#[]⟩), .d (.raw (.slice none 0 0))]), (3, .box 85 [.d (iD x.op), .d (sD x.name), .own 900 (x.l.take i).length]), (900, .row 85 3 ((x.l.take i).map (exprD false)))]) (fun i => x.l.length - i) 0 (Nat.zero_le _) ?_
  intro i hi
  by_cases hlt : i < x.l.length
  · have hm := eszs_mem (List.getElem_mem hlt)
    have hih := ih (t := t) (x := x.l[i]) (by omega) (by omega)
    have e : (x.l.take i).map (exprD false) ++ [exprA false x.l[i]] = (x.l.take (i + 1)).map (exprD false) := by rw [List.take_succ_eq_append_getElem hlt, List.map_append, ← exprA_eq]; rfl
    have e2 := congrArg List.length e
    rw [List.length_map (exprD false)] at e2
    repeat (first | refine wk ?_ | refine s_field (hr := ?_))
    refine s_call [] (hA := hih) (hr := ?_)
    repeat (first | refine wk ?_ | refine s_field (hr := ?_))
    exact t_next (i + 1) (d := ⟨.of rfl, .of rfl, box_eq rfl (by rw [e2]), row_eq rfl e, trivial⟩)
  · rw [show x.l.take i = x.l from List.take_of_length_le (by omega)]
    refine aw_froz 900 rfl ?_
    repeat (first | refine wk ?_ | refine s_field (hr := ?_))
    exact fin
theorem ownText_sim {t : Bool} {l : List Dfn} (hf : ChkFit l) : ACalls Try.prog 28 [.d (textD t l)] [] (.d (textD false l)) [] := by
  refine ACalls.intro (n := 32) Try.func28 rfl rfl (by simp) (by rfl) ?_
  simp only [argFr]
  have hl := hf.len
  repeat (first | refine wk ?_ | refine s_field (hr := ?_))
  refine aw_nilCell 3 0 900 87 5 rfl rfl rfl rfl ?_
  refine t_loop (X := Nat) (fun i => i ≤ l.length) (fun i => [(4, I i), (3, .ptr 3 0), (2, .ptr 2 0), (1, .ptr 1 0)]) (fun i => [(1, .box 44 [.d (dfnsD t l)]), (2, .box 44 [.d (.raw (.slice none 0 0))]), (3, .box 44 [.own 900 (l.take i).length]), (900, .row 87 5 ((l.take i).map (dfnD false)))]) (fun i => l.length - i) 0 (Nat.zero_le _) ?_
  intro i hi
  by_cases hlt : i < l.length
  · have hex := hf.ex _ (List.getElem_mem hlt)
    have hih := ownExpr_gen _ (t := t) (x := l[i].e) (Nat.lt_succ_self _) hex
    have e : (l.take i).map (dfnD false) ++ [.agg [sD l[i].name, iD l[i].at_, iD l[i].e.op, sD l[i].e.name, exprsD false l[i].e.l]] = (l.take (i + 1)).map (dfnD false) := by rw [List.take_succ_eq_append_getElem hlt, List.map_append]; rfl
    have e2 := congrArg List.length e
    rw [List.length_map (dfnD false)] at e2
    repeat (first | refine wk ?_ | refine s_field (hr := ?_))
    refine s_call [] (hA := hih) (hr := ?_)
    repeat (first | refine wk ?_ | refine s_field (hr := ?_))
    exact t_next (i + 1) (d := ⟨.of rfl, .of rfl, box_eq rfl (by rw [e2]), row_eq rfl e, trivial⟩)
  · rw [show l.take i = l from List.take_of_length_le (by omega)]
    refine aw_froz 900 rfl ?_
    repeat (first | refine wk ?_ | refine s_field (hr := ?_))
    exact fin
/-! ### Laws -/
theorem great_fit {l : List Dfn} (h : greatT l = false) : ChkFit l ∧ TextFit l := by
  unfold greatT at h
  simp only [Bool.or_eq_false_iff, decide_eq_false_iff_not] at h
  obtain ⟨h1, ⟨h2, h3⟩, h4⟩ := h
  have hd : ∀ d ∈ l, esz d.e ≤ dszs l := fun d hd => by
    clear h1 h2 h3 h4
    induction l with
    | nil => simp at hd
    | cons x l ih =>
      unfold dszs at *
      rw [List.map_cons, List.sum_cons]
      rcases List.mem_cons.1 hd with rfl | hd
      · omega
      · have := ih hd; omega
  rw [List.any_eq_false] at h3 h4
  exact ⟨⟨by omega, fun d h => by have := hd d h; omega, fun d h => by have := h3 d h; simp at this; omega, fun d h => by simpa using h4 d h⟩, ⟨by omega, fun d h => by have := hd d h; omega⟩⟩
def srcR : ByteArray := ⟨#[83, 61, 40, 34, 97, 34, 124, 66, 41, 67, 59, 66, 61, 59, 67, 61, 59]⟩
def dfsR : List Dfn := [⟨⟨#[83]⟩, 0, .mk 3 ⟨#[]⟩ [.mk 4 ⟨#[]⟩ [.mk 1 ⟨#[97]⟩ [], .mk 2 ⟨#[66]⟩ []], .mk 2 ⟨#[67]⟩ []]⟩, ⟨⟨#[66]⟩, 11, .mk 3 ⟨#[]⟩ []⟩, ⟨⟨#[67]⟩, 14, .mk 3 ⟨#[]⟩ []⟩]
def outR : ByteArray := ⟨#[83, 32, 61, 32, 40, 34, 97, 34, 32, 124, 32, 66, 41, 32, 67, 59, 10, 66, 32, 61, 32, 59, 10, 67, 32, 61, 32, 59, 10]⟩
theorem parseR_eq : parseS srcR = (dfsR, ⟨0, 0⟩) := by kernel_rfl
theorem renR_eq : renF dfsR = ⟨0, 0⟩ := by kernel_rfl
theorem printR_eq : printT dfsR = outR := by kernel_rfl
theorem dfsR_fit : ChkFit dfsR := (great_fit (by kernel_rfl)).1
theorem renderBegun_sim : ACalls Try.prog 39 [] [] (B true) [] := by
  refine ACalls.intro (n := 26) Try.func39 rfl rfl (by simp) (by rfl) ?_
  simp only [argFr]
  have hp : ACalls Try.prog 43 [Str ⟨#[83, 61, 40, 34, 97, 34, 124, 66, 41, 67, 59, 66, 61, 59, 67, 61, 59]⟩] [] (.tup [.d (textD false dfsR), .d (faultD ⟨0, 0⟩)]) [] := by
    have h := parse_sim srcR (by decide)
    unfold prR at h
    rw [parseR_eq] at h
    exact h
  have hq := print_sim (t := false) dfsR_fit
  rw [printR_eq, renR_eq] at hq
  unfold outR at hq
  generalize dfsR = dl at *
  repeat (first | refine wk ?_ | refine s_field (hr := ?_))
  refine s_call [] (hA := hp) (hr := ?_)
  repeat (first | refine wk ?_ | refine s_field (hr := ?_))
  refine s_call [] (hA := hq) (hr := ?_)
  repeat (first | refine wk ?_ | refine s_field (hr := ?_))
  exact fin
set_option maxHeartbeats 4000000 in
theorem renderChecks_sim {t : Bool} {l : List Dfn} (hf : TextFit l) : ACalls Try.prog 7 [.d (textD t l)] [] (B true) [] := by
  refine ACalls.intro (n := 20) Try.func7 rfl rfl (by simp) (by rfl) ?_
  simp only [argFr]
  have hg := greatText_sim (t := t) hf
  cases h : greatT l with
  | true =>
    rw [h] at hg
    repeat (first | refine wk ?_ | refine s_field (hr := ?_))
    refine s_call [] (hA := renderBegun_sim) (hr := ?_)
    repeat (first | refine wk ?_ | refine s_field (hr := ?_))
    refine s_call [] (hA := hg) (hr := ?_)
    repeat (first | refine wk ?_ | refine s_field (hr := ?_))
    exact fin
  | false =>
    rw [h] at hg
    obtain ⟨hc, _⟩ := great_fit h
    have ho := ownText_sim (t := t) hc
    have h1 := check_sim (t := false) hc
    have h2 := renderFault_sim (t := t) hc
    have h3 := sameText_sim (t := false) (u := t) (pl := true) hf hf
    rw [sameT_refl] at h3
    generalize renF l = rf at *
    have q2 : decide (rf = rf) = true := by simp
    repeat (first | refine wk ?_ | refine s_field (hr := ?_))
    refine s_call [] (hA := renderBegun_sim) (hr := ?_)
    repeat (first | refine wk ?_ | refine s_field (hr := ?_))
    refine s_call [] (hA := hg) (hr := ?_)
    repeat (first | refine wk ?_ | refine s_field (hr := ?_))
    refine s_call [] (hA := ho) (hr := ?_)
    repeat (first | refine wk ?_ | refine s_field (hr := ?_))
    refine s_call [] (hA := h1) (hr := ?_)
    repeat (first | refine wk ?_ | refine s_field (hr := ?_))
    refine s_call [] (hA := h2) (hr := ?_)
    repeat (first | refine wk ?_ | refine s_field (hr := ?_))
    refine s_call [] (hA := h3) (hr := ?_)
    repeat (first | refine wk ?_ | refine s_field (hr := ?_))
    exact fin
set_option maxHeartbeats 4000000 in
theorem renderPrints_sim {t : Bool} {l : List Dfn} (hf : TextFit l) : ACalls Try.prog 8 [.d (textD t l)] [] (B true) [] := by
  refine ACalls.intro (n := 41) Try.func8 rfl rfl (by simp) (by rfl) ?_
  simp only [argFr]
  have hg := greatText_sim (t := t) hf
  cases h : greatT l with
  | true =>
    rw [h] at hg
    repeat (first | refine wk ?_ | refine s_field (hr := ?_))
    refine s_call [] (hA := renderBegun_sim) (hr := ?_)
    repeat (first | refine wk ?_ | refine s_field (hr := ?_))
    refine s_call [] (hA := hg) (hr := ?_)
    repeat (first | refine wk ?_ | refine s_field (hr := ?_))
    exact fin
  | false =>
    rw [h] at hg
    obtain ⟨hc, _⟩ := great_fit h
    have ho := ownText_sim (t := t) hc
    have h1 := print_sim (t := false) hc
    have h2 := renderFault_sim (t := t) hc
    by_cases h0 : (renF l).code = 0
    · obtain ⟨g1, g2, g3, g4, _⟩ := renF_good h0
      have h3 := textOf_sim (t := t) (hc.tx g3 g4)
      rw [show printT l = txT l by unfold printT; rw [if_pos h0]] at h1
      have e2 : decide (txT l = txT l) = true := by simp
      generalize txT l = T at *
      clear g1 g2 g3 g4
      generalize renF l = rf at *
      have q2 : decide (rf = rf) = true := by simp
      (repeat (first | refine wkz ?_ | refine s_field (hr := ?_)))
      refine s_call [] (hA := renderBegun_sim) (hr := ?_)
      (repeat (first | refine wkz ?_ | refine s_field (hr := ?_)))
      refine s_call [] (hA := hg) (hr := ?_)
      (repeat (first | refine wkz ?_ | refine s_field (hr := ?_)))
      refine s_call [] (hA := h2) (hr := ?_)
      (repeat (first | refine wkz ?_ | refine s_field (hr := ?_)))
      refine s_call [] (hA := ho) (hr := ?_)
      (repeat (first | refine wkz ?_ | refine s_field (hr := ?_)))
      refine s_call [] (hA := h1) (hr := ?_)
      (repeat (first | refine wkz ?_ | refine s_field (hr := ?_)))
      refine s_call [] (hA := h3) (hr := ?_)
      (repeat (first | refine wkz ?_ | refine s_field (hr := ?_)))
      exact fin
    · rw [show printT l = bs [] by unfold printT; rw [if_neg h0]] at h1
      generalize renF l = rf at *
      have q2 : decide (rf = rf) = true := by simp
      have e2 : decide (bs [] = bs []) = true := by simp
      (repeat (first | refine wkz ?_ | refine s_field (hr := ?_)))
      refine s_call [] (hA := renderBegun_sim) (hr := ?_)
      (repeat (first | refine wkz ?_ | refine s_field (hr := ?_)))
      refine s_call [] (hA := hg) (hr := ?_)
      (repeat (first | refine wkz ?_ | refine s_field (hr := ?_)))
      refine s_call [] (hA := h2) (hr := ?_)
      (repeat (first | refine wkz ?_ | refine s_field (hr := ?_)))
      refine s_call [] (hA := ho) (hr := ?_)
      (repeat (first | refine wkz ?_ | refine s_field (hr := ?_)))
      refine s_call [] (hA := h1) (hr := ?_)
      (repeat (first | refine wkz ?_ | refine s_field (hr := ?_)))
      exact fin
end Go.Proofs.Ytkfeccbahpmadaa
