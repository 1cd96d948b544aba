/-
  Chart, the program: gram.Own, Of, Rule, Split, Count, of whatever numbers.
-/
import Derived.Test.YticnpbopelgmiaaQChH
set_option linter.unusedVariables false
set_option linter.unusedSimpArgs false
set_option linter.unusedSectionVars false
namespace Go.Proofs.Yticnpbopelgmiaa
open Go.RowKit
set_option maxRecDepth 100000
-- SimX

theorem gown_sim {t : Bool} {g : Gram} (hg : g.fit) : ACalls Try.prog 128 [.d (gramD t g)] [] (.agg [.d (iD g.vars), .d (iD g.terms), .d (iD g.start), .own 900 g.rules.length]) [(900, .row 41 2 (g.rules.map (ruleD false)))] := by
  refine ACalls.intro (n := 28) Try.func128 rfl rfl (by simp) (by rfl) ?_
  simp only [argFr]
  have hl := hg.rules
  repeat (first | refine wk ?_ | refine s_field (hr := ?_))
  refine aw_nilCell 3 3 900 41 2 rfl rfl rfl rfl ?_
  --@
  refine t_loop (X := Nat) (fun k => k ≤ g.rules.length) (fun k => [(11, I k), (10, I g.rules.length), (9, .d (rulesD t g.rules)), (3, .ptr 3 0), (2, .ptr 2 0), (1, .ptr 1 0)]) (fun k => [(1, gramBox t g), (2, .box 24 [.d (iD 0), .d (iD 0), .d (iD 0), .d (.raw (.slice none 0 0))]), (3, .box 24 [.d (iD g.vars), .d (iD g.terms), .d (iD g.start), .own 900 k]), (900, .row 41 2 ((g.rules.take k).map (ruleD false)))]) (fun k => g.rules.length - k) 0 (Nat.zero_le _) ?_
  intro k hk
  by_cases hlt : k < g.rules.length
  · have hrk := hg.right _ (List.getElem_mem hlt)
    have hcl := clone_sim (t := t) (xs := g.rules[k].right) (by omega)
    have hlk : (g.rules.take k).length = k := by rw [List.length_take]; omega
    have e : (g.rules.take k).map (ruleD false) ++ [.agg [iD g.rules[k].left, .sl false 1 (g.rules[k].right.map iD)]] = (g.rules.take (k + 1)).map (ruleD false) := by
      rw [List.take_succ_eq_append_getElem hlt, List.map_append]; rfl
    repeat (first | refine wk ?_ | refine s_field (hr := ?_))
    --@
    refine s_call [(5, 905)] (hA := hcl) (hr := ?_)
    repeat (first | refine wk ?_ | refine s_field (hr := ?_))
    --@
    rw [e]
    exact t_next (k + 1)
  · obtain rfl : k = g.rules.length := by omega
    rw [List.take_length]
    repeat (first | refine wk ?_ | refine s_field (hr := ?_))
    exact fin
section
variable {g : Gram} {w : List Int}
set_option maxHeartbeats 4000000 in
theorem of_simC (hg : g.ok) (hcy : cycL g = []) (hw : w.length ≤ 100000) (hwr : ∀ x ∈ w, 0 ≤ x ∧ x ≤ 1000000) (v i j : Int) :
    ACalls Try.prog 130 [.ptr 1000 0, I v, I i, I j] (cxH g w (nulB g) (wcns g w manyC)) (I ((ofC g w (wcns g w manyC) v i j : Nat) : Int)) (cxH g w (nulB g) (wcns g w manyC)) := by
  by_cases hin : 0 ≤ v ∧ v < g.vars ∧ 0 ≤ i ∧ i ≤ j ∧ j ≤ w.length
  · have e : ofC g w (wcns g w manyC) v i j = wcns g w manyC v.toNat i.toNat j.toNat := by unfold ofC; rw [if_pos hin]
    rw [e]
    obtain ⟨h1, h2, h3, h4, h5⟩ := hin
    have := ofN_gen hg hcy hw hwr (muC g v.toNat i.toNat j.toNat + 1) v.toNat i.toNat j.toNat (by omega) (by omega) (by omega) (by omega)
    rw [show ((v.toNat : Nat) : Int) = v by omega, show ((i.toNat : Nat) : Int) = i by omega, show ((j.toNat : Nat) : Int) = j by omega] at this
    exact this
  · have e : ofC g w (wcns g w manyC) v i j = 0 := by unfold ofC; rw [if_neg hin]
    rw [e]
    have hwt := within_simC (g := g) (w := w) (nl := nulB g) (N := wcns g w manyC) hw i j
    have hb : 0 ≤ v → v < g.vars → withinC w i j = false := fun h1 h2 => decide_eq_false (fun h => hin ⟨h1, h2, h⟩)
    generalize wcns g w manyC = N at *
    generalize nulB g = NB at *
    generalize withinC w i j = wb at *
    refine ACalls.intro (n := 82) Try.func130 rfl rfl (by simp) (by rfl) ?_
    simp only [argFr]
    by_cases h1 : v < 0
    · ((repeat (first | refine wk ?_ | refine s_field (hr := ?_))); (repeat (first | refine wkz ?_ | refine s_field (hr := ?_))); (repeat (first | refine wk ?_ | refine s_field (hr := ?_))); exact fin)
    · by_cases h2 : g.vars ≤ v
      · ((repeat (first | refine wk ?_ | refine s_field (hr := ?_))); (repeat (first | refine wkz ?_ | refine s_field (hr := ?_))); (repeat (first | refine wk ?_ | refine s_field (hr := ?_))); exact fin)
      · have h3 := hb (by omega) (by omega)
        subst h3
        repeat (first | refine wk ?_ | refine s_field (hr := ?_))
        refine s_callU [(1000, 1000), (1001, 1001)] (hA := hwt) (hr := ?_)
        repeat (first | refine wk ?_ | refine s_field (hr := ?_))
        exact fin
theorem okAny (hg : g.ok) (hcy : cycL g = []) (hw : w.length ≤ 100000) (hwr : ∀ x ∈ w, 0 ≤ x ∧ x ≤ 1000000) {j : Nat} (hj : j ≤ w.length) :
    OkC Try.prog g w (wcns g w manyC) j (fun suf _ => ∃ r ∈ g.rules, ∃ pre, r.right = pre ++ suf) := by
  refine ⟨fun s rest i' hq => ?_, fun l i' hq => ?_, fun s rest i' hq x hx => ?_, fun s rest i' m hq him hmj hall => ?_, fun s rest i' m hq him hs => ?_⟩
  · obtain ⟨r, hr, pre, e2⟩ := hq
    have h1 := hg.hi r hr s (by rw [e2]; simp)
    have h2 := hg.lo r hr s (by rw [e2]; simp)
    have := hg.terms
    exact ⟨h1, by omega⟩
  · obtain ⟨r, hr, pre, e2⟩ := hq
    have h1 := hg.right r hr
    have := congrArg List.length e2
    simp at this; omega
  · obtain ⟨r, hr, pre, e2⟩ := hq
    exact hg.hi r hr x (by rw [e2]; simp [hx])
  · obtain ⟨r, hr, pre, e2⟩ := hq
    have h1 := hg.hi r hr (s : Int) (by rw [e2]; simp)
    exact ofN_gen hg hcy hw hwr (muC g s i' m + 1) s i' m (by omega) h1 him (by omega)
  · obtain ⟨r, hr, pre, e2⟩ := hq
    exact ⟨r, hr, pre ++ [s], by rw [e2]; simp⟩
set_option maxHeartbeats 4000000 in
theorem rule_simC (hg : g.ok) (hcy : cycL g = []) (hw : w.length ≤ 100000) (hwr : ∀ x ∈ w, 0 ≤ x ∧ x ≤ 1000000) (r i j : Int) :
    ACalls Try.prog 169 [.ptr 1000 0, I r, I i, I j] (cxH g w (nulB g) (wcns g w manyC)) (I ((ruC g w manyC (wcns g w manyC) r i j : Nat) : Int)) (cxH g w (nulB g) (wcns g w manyC)) := by
  have hrl := hg.rules
  have hwt := within_simC (g := g) (w := w) (nl := nulB g) (N := wcns g w manyC) hw i j
  by_cases hin : 0 ≤ r ∧ r < g.rules.length ∧ 0 ≤ i ∧ i ≤ j ∧ j ≤ w.length
  · have e : ruC g w manyC (wcns g w manyC) r i j = min manyC (wcn (wcns g w manyC) w (rightAt g r) i.toNat j.toNat) := by unfold ruC; rw [if_pos hin]
    rw [e]
    obtain ⟨h1, h2, h3⟩ := hin
    rw [show withinC w i j = true from decide_eq_true h3] at hwt
    obtain ⟨h3, h4, h5⟩ := h3
    obtain ⟨rn, rfl⟩ : ∃ rn : Nat, r = (rn : Int) := ⟨r.toNat, by omega⟩
    obtain ⟨a, rfl⟩ : ∃ a : Nat, i = (a : Int) := ⟨i.toNat, by omega⟩
    obtain ⟨b, rfl⟩ : ∃ b : Nat, j = (b : Int) := ⟨j.toNat, by omega⟩
    have hrn : rn < g.rules.length := by omega
    simp only [Int.toNat_natCast]
    rw [rightAt_nat hrn]
    have hrow := row_gen hg hw hwr (fun v i j => wcns_le g w manyC v i j) (fun v i h => wcns_null hg h) (by omega) (okAny hg hcy hw hwr (j := b) (by omega)) g.rules[rn].right a false ⟨_, List.getElem_mem hrn, [], rfl⟩ (by omega)
    have hn1 : ¬ ((rn : Nat) : Int) < 0 := by omega
    have hn2 : ¬ (g.rules.length : Int) ≤ ((rn : Nat) : Int) := by omega
    generalize min manyC (wcn (wcns g w manyC) w g.rules[rn].right a b) = res at *
    generalize wcns g w manyC = N at *
    generalize nulB g = NB at *
    refine ACalls.intro (n := 41) Try.func169 rfl rfl (by simp) (by rfl) ?_
    simp only [argFr]
    repeat (first | refine wk ?_ | refine s_field (hr := ?_))
    refine s_callU [(1000, 1000), (1001, 1001)] (hA := hwt) (hr := ?_)
    repeat (first | refine wk ?_ | refine s_field (hr := ?_))
    refine s_callU [(1000, 1000), (1001, 1001)] (hA := hrow) (hr := ?_)
    repeat (first | refine wk ?_ | refine s_field (hr := ?_))
    exact fin
  · have e : ruC g w manyC (wcns g w manyC) r i j = 0 := by unfold ruC; rw [if_neg hin]
    rw [e]
    have hb : 0 ≤ r → r < g.rules.length → withinC w i j = false := fun h1 h2 => decide_eq_false (fun h => hin ⟨h1, h2, h⟩)
    generalize wcns g w manyC = N at *
    generalize nulB g = NB at *
    generalize withinC w i j = wb at *
    refine ACalls.intro (n := 41) Try.func169 rfl rfl (by simp) (by rfl) ?_
    simp only [argFr]
    by_cases h1 : r < 0
    · ((repeat (first | refine wk ?_ | refine s_field (hr := ?_))); (repeat (first | refine wkz ?_ | refine s_field (hr := ?_))); (repeat (first | refine wk ?_ | refine s_field (hr := ?_))); exact fin)
    · by_cases h2 : (g.rules.length : Int) ≤ r
      · ((repeat (first | refine wk ?_ | refine s_field (hr := ?_))); (repeat (first | refine wkz ?_ | refine s_field (hr := ?_))); (repeat (first | refine wk ?_ | refine s_field (hr := ?_))); exact fin)
      · have h3 := hb (by omega) (by omega)
        subst h3
        repeat (first | refine wk ?_ | refine s_field (hr := ?_))
        refine s_callU [(1000, 1000), (1001, 1001)] (hA := hwt) (hr := ?_)
        repeat (first | refine wk ?_ | refine s_field (hr := ?_))
        exact fin
theorem count_simC (hg : g.ok) (hcy : cycL g = []) (hw : w.length ≤ 100000) (hwr : ∀ x ∈ w, 0 ≤ x ∧ x ≤ 1000000) :
    ACalls Try.prog 85 [.ptr 1000 0] (cxH g w (nulB g) (wcns g w manyC)) (I ((ofC g w (wcns g w manyC) g.start 0 w.length : Nat) : Int)) (cxH g w (nulB g) (wcns g w manyC)) := by
  have hof := of_simC hg hcy hw hwr g.start 0 w.length
  generalize ofC g w (wcns g w manyC) g.start 0 w.length = res at *
  generalize wcns g w manyC = N at *
  generalize nulB g = NB at *
  refine ACalls.intro (n := 15) Try.func85 rfl rfl (by simp) (by rfl) ?_
  simp only [argFr]
  repeat (first | refine wk ?_ | refine s_field (hr := ?_))
  refine s_callU [(1000, 1000), (1001, 1001)] (hA := hof) (hr := ?_)
  repeat (first | refine wk ?_ | refine s_field (hr := ?_))
  exact fin
set_option maxHeartbeats 4000000 in
theorem split_simC (hg : g.ok) (hcy : cycL g = []) (hw : w.length ≤ 100000) (hwr : ∀ x ∈ w, 0 ≤ x ∧ x ≤ 1000000) (r k i m j : Int) :
    ACalls Try.prog 177 [.ptr 1000 0, I r, I k, I i, I m, I j] (cxH g w (nulB g) (wcns g w manyC)) (I ((spC g w manyC (wcns g w manyC) r k i m j : Nat) : Int)) (cxH g w (nulB g) (wcns g w manyC)) := by
  have hrl := hg.rules
  have hwt1 := within_simC (g := g) (w := w) (nl := nulB g) (N := wcns g w manyC) hw i m
  have hwt2 := within_simC (g := g) (w := w) (nl := nulB g) (N := wcns g w manyC) hw m j
  by_cases hin : 0 ≤ r ∧ r < g.rules.length ∧ 0 ≤ k ∧ k < (rightAt g r).length ∧ 0 ≤ i ∧ i ≤ m ∧ m ≤ j ∧ j ≤ w.length
  · have e : spC g w manyC (wcns g w manyC) r k i m j = min manyC (symN (wcns g w manyC) w ((rightAt g r).getD k.toNat 0) i.toNat m.toNat * wcn (wcns g w manyC) w ((rightAt g r).drop (k.toNat + 1)) m.toNat j.toNat) := by unfold spC; rw [if_pos hin]
    rw [e]
    obtain ⟨h1, h2, h3, h4, h5, h6, h7, h8⟩ := hin
    rw [show withinC w i m = true from decide_eq_true ⟨by omega, by omega, by omega⟩] at hwt1
    rw [show withinC w m j = true from decide_eq_true ⟨by omega, by omega, by omega⟩] at hwt2
    obtain ⟨rn, rfl⟩ : ∃ rn : Nat, r = (rn : Int) := ⟨r.toNat, by omega⟩
    obtain ⟨kn, rfl⟩ : ∃ kn : Nat, k = (kn : Int) := ⟨k.toNat, by omega⟩
    obtain ⟨a, rfl⟩ : ∃ a : Nat, i = (a : Int) := ⟨i.toNat, by omega⟩
    obtain ⟨b, rfl⟩ : ∃ b : Nat, m = (b : Int) := ⟨m.toNat, by omega⟩
    obtain ⟨c, rfl⟩ : ∃ c : Nat, j = (c : Int) := ⟨j.toNat, by omega⟩
    have hrn : rn < g.rules.length := by omega
    simp only [Int.toNat_natCast]
    rw [rightAt_nat hrn] at *
    have hrr := hg.right _ (List.getElem_mem hrn)
    have hkn : kn < g.rules[rn].right.length := by omega
    have e1 : g.rules[rn].right.drop kn = g.rules[rn].right[kn] :: g.rules[rn].right.drop (kn + 1) := List.drop_eq_getElem_cons hkn
    have e2 : g.rules[rn].right.getD kn 0 = g.rules[rn].right[kn] := by rw [List.getD_eq_getElem?_getD, List.getElem?_eq_getElem hkn]; rfl
    have hq : ∃ r ∈ g.rules, ∃ pre, r.right = pre ++ (g.rules[rn].right[kn] :: g.rules[rn].right.drop (kn + 1)) := ⟨_, List.getElem_mem hrn, g.rules[rn].right.take kn, by rw [← e1, List.take_append_drop]⟩
    have hOk := okAny hg hcy hw hwr (j := c) (by omega)
    have hfirst := first_step (t := false) hg hw hwr (fun v i j => wcns_le g w manyC v i j) (fun v i h => wcns_null hg h) (by omega) hOk (right := g.rules[rn].right.drop kn) e1 (i := a) (m := b) hq (by omega) (by omega)
      (fun hqr => row_gen hg hw hwr (fun v i j => wcns_le g w manyC v i j) (fun v i h => wcns_null hg h) (by omega) hOk _ b false hqr (by omega))
    rw [← e2] at hfirst
    simp only [ints, List.map_drop] at hfirst
    have hn1 : ¬ ((rn : Nat) : Int) < 0 := by omega
    have hn2 : ¬ (g.rules.length : Int) ≤ ((rn : Nat) : Int) := by omega
    have hn3 : ¬ ((kn : Nat) : Int) < 0 := by omega
    have hn4 : ¬ (g.rules[rn].right.length : Int) ≤ ((kn : Nat) : Int) := by omega
    generalize min manyC (symN (wcns g w manyC) w (g.rules[rn].right.getD kn 0) a b * wcn (wcns g w manyC) w (g.rules[rn].right.drop (kn + 1)) b c) = res at *
    generalize wcns g w manyC = N at *
    generalize nulB g = NB at *
    refine ACalls.intro (n := 73) Try.func177 rfl rfl (by simp) (by rfl) ?_
    simp only [argFr]
    repeat (first | refine wk ?_ | refine s_field (hr := ?_))
    refine s_callU [(1000, 1000), (1001, 1001)] (hA := hwt1) (hr := ?_)
    repeat (first | refine wk ?_ | refine s_field (hr := ?_))
    refine s_callU [(1000, 1000), (1001, 1001)] (hA := hwt2) (hr := ?_)
    repeat (first | refine wk ?_ | refine s_field (hr := ?_))
    rw [List.take_length]
    --@
    refine s_callU [(1000, 1000), (1001, 1001)] (hA := hfirst) (hr := ?_)
    repeat (first | refine wk ?_ | refine s_field (hr := ?_))
    exact fin
  · have e : spC g w manyC (wcns g w manyC) r k i m j = 0 := by unfold spC; rw [if_neg hin]
    rw [e]
    have hb1 : 0 ≤ r → r < g.rules.length → 0 ≤ k → k < (rightAt g r).length → withinC w i m = true → withinC w m j = false := fun h1 h2 h3 h4 h5 => decide_eq_false (fun h => by
      unfold withinC at h5
      rw [decide_eq_true_eq] at h5
      exact hin ⟨h1, h2, h3, h4, h5.1, h5.2.1, h.2.1, h.2.2⟩)
    generalize wcns g w manyC = N at *
    generalize nulB g = NB at *
    generalize hwa : withinC w i m = wa at *
    generalize withinC w m j = wb at *
    refine ACalls.intro (n := 73) Try.func177 rfl rfl (by simp) (by rfl) ?_
    simp only [argFr]
    by_cases h1 : r < 0
    · ((repeat (first | refine wk ?_ | refine s_field (hr := ?_))); (repeat (first | refine wkz ?_ | refine s_field (hr := ?_))); (repeat (first | refine wk ?_ | refine s_field (hr := ?_))); exact fin)
    · by_cases h2 : (g.rules.length : Int) ≤ r
      · ((repeat (first | refine wk ?_ | refine s_field (hr := ?_))); (repeat (first | refine wkz ?_ | refine s_field (hr := ?_))); (repeat (first | refine wk ?_ | refine s_field (hr := ?_))); exact fin)
      · obtain ⟨rn, rfl⟩ : ∃ rn : Nat, r = (rn : Int) := ⟨r.toNat, by omega⟩
        have hrn : rn < g.rules.length := by omega
        have hrr := hg.right _ (List.getElem_mem hrn)
        rw [rightAt_nat hrn] at hb1 hin
        by_cases h3 : k < 0
        · ((repeat (first | refine wk ?_ | refine s_field (hr := ?_))); (repeat (first | refine wkz ?_ | refine s_field (hr := ?_))); (repeat (first | refine wk ?_ | refine s_field (hr := ?_))); exact fin)
        · by_cases h4 : (g.rules[rn].right.length : Int) ≤ k
          · ((repeat (first | refine wk ?_ | refine s_field (hr := ?_))); (repeat (first | refine wkz ?_ | refine s_field (hr := ?_))); (repeat (first | refine wk ?_ | refine s_field (hr := ?_))); exact fin)
          · cases wa with
            | false =>
              repeat (first | refine wk ?_ | refine s_field (hr := ?_))
              refine s_callU [(1000, 1000), (1001, 1001)] (hA := hwt1) (hr := ?_)
              (repeat (first | refine wk ?_ | refine s_field (hr := ?_)))
              (repeat (first | refine wkz ?_ | refine s_field (hr := ?_)))
              repeat (first | refine wk ?_ | refine s_field (hr := ?_))
              exact fin
            | true =>
              have h5 := hb1 (by omega) (by omega) (by omega) (by omega) rfl
              subst h5
              repeat (first | refine wk ?_ | refine s_field (hr := ?_))
              refine s_callU [(1000, 1000), (1001, 1001)] (hA := hwt1) (hr := ?_)
              repeat (first | refine wk ?_ | refine s_field (hr := ?_))
              refine s_callU [(1000, 1000), (1001, 1001)] (hA := hwt2) (hr := ?_)
              repeat (first | refine wk ?_ | refine s_field (hr := ?_))
              exact fin
end
end Go.Proofs.Yticnpbopelgmiaa
