/-
  Chart, the program: Plus, Times, within, empty. Chart, the program: row, first.
-/
import Derived.Test.YticnpbopelgmiaaQRank
import Derived.Test.YticnpbopelgmiaaSmN
import Derived.Test.YticnpbopelgmiaaQGramC
set_option linter.unusedVariables false
set_option linter.unusedSimpArgs false
set_option linter.unusedSectionVars false
namespace Go.Proofs.Yticnpbopelgmiaa
open Go.RowKit
set_option maxRecDepth 100000
-- SimX

abbrev manyC : Nat := 4611686018427387904
theorem plus_simC {a b : Nat} (ha : a ≤ manyC) (hb : b ≤ manyC) : ACalls Try.prog 161 [I a, I b] [] (I (min manyC (a + b) : Nat)) [] := by
  have e : minI ((a : Int) + minI b (4611686018427387904 - a)) 4611686018427387904 = ((min manyC (a + b) : Nat) : Int) := by
    unfold minI manyC
    unfold manyC at ha hb
    split <;> split <;> omega
  have h1 : (a : Int) + minI (b : Int) (4611686018427387904 - a) ≤ 4611686018427387904 := by
    unfold minI; unfold manyC at ha hb; split <;> omega
  have h2 : 0 ≤ minI (b : Int) (4611686018427387904 - a) := by
    unfold minI; unfold manyC at ha hb; split <;> omega
  unfold manyC at ha hb
  rw [← e]
  generalize hx : minI (b : Int) (4611686018427387904 - a) = x at *
  refine ACalls.intro (n := 12) Try.func161 rfl rfl (by simp) (by rfl) ?_
  simp only [argFr]
  repeat (first | refine wk ?_ | refine s_field (hr := ?_))
  rw [hx]
  repeat (first | refine wk ?_ | refine s_field (hr := ?_))
  exact fin
theorem times_simC {a b : Nat} (ha : a ≤ manyC) (hb : b ≤ manyC) : ACalls Try.prog 179 [I a, I b] [] (I (min manyC (a * b) : Nat)) [] := by
  by_cases h0 : a = 0 ∨ b = 0
  · have e : min manyC (a * b) = 0 := by rcases h0 with h | h <;> subst h <;> simp
    rw [e]
    refine ACalls.intro (n := 18) Try.func179 rfl rfl (by simp) (by rfl) ?_
    simp only [argFr]
    by_cases h1 : a = 0
    · subst h1
      (repeat (first | refine wk ?_ | refine s_field (hr := ?_)))
      (repeat (first | refine wkz ?_ | refine s_field (hr := ?_)))
      repeat (first | refine wk ?_ | refine s_field (hr := ?_))
      exact fin
    · have h2 : b = 0 := by omega
      subst h2
      have h1' : ¬ (a : Int) = 0 := by omega
      repeat (first | refine wk ?_ | refine s_field (hr := ?_))
      exact fin
  · have ha0 : ¬ (a : Int) = 0 := by omega
    have hb0 : ¬ (b : Int) = 0 := by omega
    have hq : (4611686018427387904 : Int) / b = ((manyC / b : Nat) : Int) := by rw [Int.natCast_ediv]; rfl
    have hlt : manyC / b < a ↔ manyC < a * b := Nat.div_lt_iff_lt_mul (by omega)
    by_cases h3 : manyC < a * b
    · have e : ((min manyC (a * b) : Nat) : Int) = 4611686018427387904 := by unfold manyC at *; omega
      rw [e]
      have h3' : (4611686018427387904 : Int) / b < a := by rw [hq]; have := hlt.2 h3; omega
      unfold manyC at ha hb
      refine ACalls.intro (n := 18) Try.func179 rfl rfl (by simp) (by rfl) ?_
      simp only [argFr]
      repeat (first | refine wk ?_ | refine s_field (hr := ?_))
      exact fin
    · have e : ((min manyC (a * b) : Nat) : Int) = (a : Int) * b := by rw [Nat.min_eq_right (by omega)]; exact Int.natCast_mul a b
      rw [e]
      have hab : (a : Int) * b ≤ 4611686018427387904 := by rw [← e]; unfold manyC; omega
      have hab0 : 0 ≤ (a : Int) * b := by rw [← e]; omega
      have h3' : ¬ (4611686018427387904 : Int) / b < a := by rw [hq]; have := mt hlt.1 h3; omega
      unfold manyC at ha hb
      refine ACalls.intro (n := 18) Try.func179 rfl rfl (by simp) (by rfl) ?_
      simp only [argFr]
      repeat (first | refine wk ?_ | refine s_field (hr := ?_))
      exact fin
/-- The program's Chart: what it remembers is right. -/
def goodM (N : Cube) (l : ML) : Prop := ∀ x ∈ l, x.2 = ((N x.1.1.toNat x.1.2.1.toNat x.1.2.2.toNat : Nat) : Int)
abbrev cxBx (g : Gram) (w : List Int) (nl : List Bool) (k : Nat) : Ob := .box 168 [.d (iD g.vars), .d (iD g.terms), .d (iD g.start), .d (rulesD false g.rules), .d (ints false w), .d (bools false nl), .mapv k]
abbrev cxH (g : Gram) (w : List Int) (nl : List Bool) (N : Cube) : Hp := [(1000, cxBx g w nl 1001), (1001, .mp (goodM N))]
def withinC (w : List Int) (i j : Int) : Bool := decide (0 ≤ i ∧ i ≤ j ∧ j ≤ w.length)
theorem within_simC {g : Gram} {w : List Int} {nl : List Bool} {N : Cube} (hw : w.length ≤ 100000) (i j : Int) : ACalls Try.prog 160 [.ptr 1000 0, I i, I j] (cxH g w nl N) (B (withinC w i j)) (cxH g w nl N) := by
  refine ACalls.intro (n := 23) Try.func160 rfl rfl (by simp) (by rfl) ?_
  simp only [argFr]
  by_cases h1 : 0 ≤ i
  · by_cases h2 : i ≤ j
    · by_cases h3 : j ≤ w.length
      · rw [show withinC w i j = true from decide_eq_true ⟨h1, h2, h3⟩]
        repeat (first | refine wk ?_ | refine s_field (hr := ?_))
        exact fin
      · rw [show withinC w i j = false from decide_eq_false (fun h => h3 h.2.2)]
        repeat (first | refine wk ?_ | refine s_field (hr := ?_))
        exact fin
    · rw [show withinC w i j = false from decide_eq_false (fun h => h2 h.2.1)]
      (repeat (first | refine wk ?_ | refine s_field (hr := ?_)))
      (repeat (first | refine wkz ?_ | refine s_field (hr := ?_)))
      repeat (first | refine wk ?_ | refine s_field (hr := ?_))
      exact fin
  · rw [show withinC w i j = false from decide_eq_false (fun h => h1 h.1)]
    (repeat (first | refine wk ?_ | refine s_field (hr := ?_)))
    (repeat (first | refine wkz ?_ | refine s_field (hr := ?_)))
    repeat (first | refine wk ?_ | refine s_field (hr := ?_))
    exact fin
theorem empty1_simC {g : Gram} {w : List Int} {nl : List Bool} {N : Cube} {s : Int} (hs : s < nl.length) : ACalls Try.prog 181 [I s, .ptr 1002 0] ((1002, .box 112 [.ptr 1000 0]) :: cxH g w nl N) (B (!has nl s)) ((1002, .box 112 [.ptr 1000 0]) :: cxH g w nl N) := by
  refine ACalls.intro (n := 16) Try.func181 rfl rfl (by simp) (by rfl) ?_
  simp only [argFr]
  by_cases h : s < 0
  · rw [show has nl s = false by unfold has; simp; intro; omega]
    (repeat (first | refine wk ?_ | refine s_field (hr := ?_)))
    (repeat (first | refine wkz ?_ | refine s_field (hr := ?_)))
    repeat (first | refine wk ?_ | refine s_field (hr := ?_))
    exact fin
  · obtain ⟨k, rfl⟩ : ∃ k : Nat, s = (k : Int) := ⟨s.toNat, by omega⟩
    have hk : k < nl.length := by omega
    rw [has_nat, List.getD_eq_getElem?_getD, List.getElem?_eq_getElem hk, Option.getD_some]
    repeat (first | refine wk ?_ | refine s_field (hr := ?_))
    exact fin
theorem empty_simC {g : Gram} {w : List Int} {nl : List Bool} {N : Cube} {t : Bool} {right : List Int} (hl : right.length ≤ 100000) (hs : ∀ s ∈ right, s < nl.length) : ACalls Try.prog 178 [.ptr 1000 0, .d (ints t right)] (cxH g w nl N) (B (inAll right nl)) (cxH g w nl N) := by
  have e : (!(right.any fun s => !has nl s)) = inAll right nl := by
    unfold inAll
    rw [List.not_any_eq_all_not]; simp
  have hcf := containsFunc_sim (t := t) (clos := 181) (caps := [.ptr 1002 0]) (H := (1002, .box 112 [.ptr 1000 0]) :: cxH g w nl N) (xs := right) (p := fun s => !has nl s) ⟨rfl, rfl, rfl, rfl, rfl, rfl, trivial⟩ (fun x hx => empty1_simC (hs x hx)) (by omega)
  rw [← e]
  generalize (right.any fun s => !has nl s) = b at *
  refine ACalls.intro (n := 9) Try.func178 rfl rfl (by simp) (by rfl) ?_
  simp only [argFr]
  repeat (first | refine wk ?_ | refine s_field (hr := ?_))
  --@
  refine s_call [(1002, 2)] (hA := hcf) (hr := ?_)
  repeat (first | refine wk ?_ | refine s_field (hr := ?_))
  exact fin
end Go.Proofs.Yticnpbopelgmiaa
namespace Go.Proofs.Yticnpbopelgmiaa
open Go.RowKit
set_option maxRecDepth 100000
-- SimX

/-- What may be asked of Of, by row and first, from i on. -/
structure OkC (P : Program) (g : Gram) (w : List Int) (N : Cube) (j : Nat) (Q : List Int → Nat → Prop) : Prop where
  sym : ∀ s rest i, Q (s :: rest) i → s < g.vars ∧ -1000000 ≤ s
  len : ∀ l i, Q l i → l.length ≤ 1000
  all : ∀ s rest i, Q (s :: rest) i → ∀ x ∈ rest, x < g.vars
  of_ : ∀ (s : Nat) rest i m, Q ((s : Int) :: rest) i → i ≤ m → m ≤ j → (m = j → inAll rest (nulB g) = true) →
    ACalls P 130 [.ptr 1000 0, I s, I i, I m] (cxH g w (nulB g) N) (I ((N s i m : Nat) : Int)) (cxH g w (nulB g) N)
  next : ∀ s rest i m, Q (s :: rest) i → i ≤ m → (m = i → has (nulB g) s = true) → Q rest m
section
variable {g : Gram} {w : List Int} {N : Cube} {j : Nat} {Q : List Int → Nat → Prop}
theorem wcn_some {r : List Int} {i : Nat} (hN0 : ∀ v i, N v i i ≠ 0 → has (nulB g) (v : Int) = true) (h : inAll r (nulB g) = false) : wcn N w r i i = 0 :=
  Classical.byContradiction fun e => by rw [wcn_null hN0 r i e] at h; cases h
set_option maxHeartbeats 4000000 in
/-- first, where row is known behind it. -/
theorem first_step (hg : g.ok) (hw : w.length ≤ 100000) (hwr : ∀ x ∈ w, 0 ≤ x ∧ x ≤ 1000000) (hN : ∀ v i j, N v i j ≤ manyC) (hN0 : ∀ v i, N v i i ≠ 0 → has (nulB g) (v : Int) = true) (hj : j ≤ w.length) (hO : OkC Try.prog g w N j Q)
    {t : Bool} {right : List Int} {s : Int} {rest : List Int} {i m : Nat} (hright : right = s :: rest) (hq : Q (s :: rest) i) (him : i ≤ m) (hmj : m ≤ j)
    (hrow : Q rest m → ACalls Try.prog 162 [.ptr 1000 0, .d (ints t rest), I m, I j] (cxH g w (nulB g) N) (I ((min manyC (wcn N w rest m j) : Nat) : Int)) (cxH g w (nulB g) N)) :
    ACalls Try.prog 173 [.ptr 1000 0, .d (ints t right), I i, I m, I j] (cxH g w (nulB g) N) (I ((min manyC (symN N w s i m * wcn N w rest m j) : Nat) : Int)) (cxH g w (nulB g) N) := by
  have hnl : (nulB g).length = g.vars.toNat := leftsOf_len hg
  obtain ⟨hs1, hs2⟩ := hO.sym _ _ _ hq
  have hll := hO.len _ _ hq
  simp only [List.length_cons] at hll
  have hvv := hg.vars
  have hv1 := hg.vars1
  have hem := empty_simC (g := g) (w := w) (nl := nulB g) (N := N) (t := t) (right := rest) (by omega) (fun x hx => by have := hO.all _ _ _ hq x hx; omega)
  have hof := fun (sn : Nat) (e : s = (sn : Int)) (h : m = j → inAll rest (nulB g) = true) => hO.of_ sn rest i m (e ▸ hq) him hmj h
  have hnx := hO.next _ _ _ m hq him
  have hlen : right.length = rest.length + 1 := by rw [hright]; rfl
  have e1 : (right.map iD).drop 1 = rest.map iD := by rw [hright]; rfl
  have hr0 : ∀ h : 0 < right.length, right[0] = s := fun h => by subst hright; rfl
  have hr0' := hr0 (by omega)
  have hsn : 0 ≤ s → symN N w s i m = N s.toNat i m := fun h => by unfold symN; rw [if_pos h]
  have hsn2 : s < 0 → symN N w s i m = if m = i + 1 ∧ w[i]? = some (-1 - s) then 1 else 0 := fun h => by unfold symN; rw [if_neg (by omega)]
  have hz0 : m = j → inAll rest (nulB g) = false → wcn N w rest m j = 0 := fun e h => by subst e; exact wcn_some hN0 h
  have hN0' := hN0
  clear hright hO hq
  generalize hWW : wcn N w rest m j = W at *
  generalize hSY : symN N w s i m = SY at *
  generalize hIA : inAll rest (nulB g) = ia at *
  generalize hNB : nulB g = NB at *
  refine ACalls.intro (n := 78) Try.func173 rfl rfl (by simp) (by rfl) ?_
  simp only [argFr]
  repeat (first | refine wk ?_ | refine s_field (hr := ?_))
  rw [List.take_length, e1, hr0']
  by_cases hmj2 : m = j
  · cases ia with
    | false =>
      rw [hz0 hmj2 rfl, Nat.mul_zero, Nat.min_zero]
      repeat (first | refine wk ?_ | refine s_field (hr := ?_))
      refine s_callU [(1000, 1000), (1001, 1001)] (hA := hem) (hr := ?_)
      repeat (first | refine wk ?_ | refine s_field (hr := ?_))
      exact fin
    | true =>
      have hmj3 : (m : Int) = j := by omega
      repeat (first | refine wk ?_ | refine s_field (hr := ?_))
      refine s_callU [(1000, 1000), (1001, 1001)] (hA := hem) (hr := ?_)
      repeat (first | refine wk ?_ | refine s_field (hr := ?_))
      --@
      by_cases hs0 : s < 0
      · have hS := hsn2 hs0
        by_cases hm1 : m = i + 1
        · subst hm1
          have hiw : i < w.length := by omega
          have hwm := hwr _ (List.getElem_mem hiw)
          have hwi : w[i]? = some w[i] := by simp
          by_cases hw0 : w[i] = -1 - s
          · have hS1 : SY = 1 := by rw [hS, if_pos ⟨rfl, by rw [hwi, hw0]⟩]
            have hR := hrow (hnx (fun e => by omega))
            rw [hS1, Nat.one_mul]
            repeat (first | refine wk ?_ | refine s_field (hr := ?_))
            refine s_callU [(1000, 1000), (1001, 1001)] (hA := hR) (hr := ?_)
            repeat (first | refine wk ?_ | refine s_field (hr := ?_))
            exact fin
          · have hS1 : SY = 0 := by rw [hS, if_neg (fun h => hw0 (by have := h.2; rw [hwi] at this; simpa using this))]
            rw [hS1, Nat.zero_mul, Nat.min_zero]
            repeat (first | refine wk ?_ | refine s_field (hr := ?_))
            exact fin
        · have hm1' : ¬ (m : Int) = (i : Int) + 1 := by omega
          have hS1 : SY = 0 := by rw [hS, if_neg (fun h => hm1 h.1)]
          rw [hS1, Nat.zero_mul, Nat.min_zero]
          (repeat (first | refine wk ?_ | refine s_field (hr := ?_)))
          (repeat (first | refine wkz ?_ | refine s_field (hr := ?_)))
          repeat (first | refine wk ?_ | refine s_field (hr := ?_))
          exact fin
      · obtain ⟨sn, rfl⟩ : ∃ sn : Nat, s = (sn : Int) := ⟨s.toNat, by omega⟩
        have hS := hsn (by omega)
        rw [Int.toNat_natCast] at hS
        have hsl : sn < NB.length := by omega
        have hnb : has NB (sn : Int) = NB[sn] := by rw [has_nat, List.getD_eq_getElem?_getD, List.getElem?_eq_getElem hsl, Option.getD_some]
        by_cases hmi : m = i ∧ NB[sn] = false
        · obtain ⟨rfl, hnf⟩ := hmi
          have hS1 : SY = 0 := by
            rw [hS]
            refine Classical.byContradiction fun e => ?_
            have := hN0' sn m e
            rw [hnb, hnf] at this; cases this
          rw [hS1, Nat.zero_mul, Nat.min_zero]
          repeat (first | refine wk ?_ | refine s_field (hr := ?_))
          exact fin
        · have hR := hrow (hnx (fun e => by rw [hnb]; cases hq : NB[sn] with | true => rfl | false => exact absurd ⟨e, hq⟩ hmi))
          have hof' := hof sn rfl (fun e => rfl)
          have hSM : SY ≤ manyC := by rw [hS]; exact hN _ _ _
          rw [← hS] at hof'
          have htm := times_simC (a := SY) (b := min manyC W) hSM (Nat.min_le_left _ _)
          rw [min_mul_r] at htm
          have hW0 : W = 0 → SY * W = 0 := fun e => by rw [e, Nat.mul_zero]
          have hW1 : W ≠ 0 → ¬ ((min manyC W : Nat) : Int) = 0 := fun e => by unfold manyC; omega
          generalize hmw : min manyC W = mw at *
          generalize hms : min manyC (SY * W) = ms at *
          by_cases hz : W = 0
          · have e1 : mw = 0 := by rw [← hmw, hz]; simp
            have e2 : ms = 0 := by rw [← hms, hW0 hz]; simp
            subst e1; subst e2
            by_cases hmi2 : m = i
            · have hnt : NB[sn] = true := by cases hq : NB[sn] with | true => rfl | false => exact absurd ⟨hmi2, hq⟩ hmi
              repeat (first | refine wk ?_ | refine s_field (hr := ?_))
              refine s_callU [(1000, 1000), (1001, 1001)] (hA := hR) (hr := ?_)
              repeat (first | refine wk ?_ | refine s_field (hr := ?_))
              exact fin
            · have hmi3 : ¬ (m : Int) = i := by omega
              (repeat (first | refine wk ?_ | refine s_field (hr := ?_)))
              (repeat (first | refine wkz ?_ | refine s_field (hr := ?_)))
              repeat (first | refine wk ?_ | refine s_field (hr := ?_))
              refine s_callU [(1000, 1000), (1001, 1001)] (hA := hR) (hr := ?_)
              repeat (first | refine wk ?_ | refine s_field (hr := ?_))
              exact fin
          · have hmz := hW1 hz
            by_cases hmi2 : m = i
            · have hnt : NB[sn] = true := by cases hq : NB[sn] with | true => rfl | false => exact absurd ⟨hmi2, hq⟩ hmi
              repeat (first | refine wk ?_ | refine s_field (hr := ?_))
              refine s_callU [(1000, 1000), (1001, 1001)] (hA := hR) (hr := ?_)
              repeat (first | refine wk ?_ | refine s_field (hr := ?_))
              refine s_callU [(1000, 1000), (1001, 1001)] (hA := hof') (hr := ?_)
              repeat (first | refine wk ?_ | refine s_field (hr := ?_))
              refine s_callU [] (hA := htm) (hr := ?_)
              repeat (first | refine wk ?_ | refine s_field (hr := ?_))
              exact fin
            · have hmi3 : ¬ (m : Int) = i := by omega
              (repeat (first | refine wk ?_ | refine s_field (hr := ?_)))
              (repeat (first | refine wkz ?_ | refine s_field (hr := ?_)))
              repeat (first | refine wk ?_ | refine s_field (hr := ?_))
              refine s_callU [(1000, 1000), (1001, 1001)] (hA := hR) (hr := ?_)
              repeat (first | refine wk ?_ | refine s_field (hr := ?_))
              refine s_callU [(1000, 1000), (1001, 1001)] (hA := hof') (hr := ?_)
              repeat (first | refine wk ?_ | refine s_field (hr := ?_))
              refine s_callU [] (hA := htm) (hr := ?_)
              repeat (first | refine wk ?_ | refine s_field (hr := ?_))
              exact fin
  · have hmj3 : ¬ (m : Int) = j := by omega
    (repeat (first | refine wk ?_ | refine s_field (hr := ?_)))
    (repeat (first | refine wkz ?_ | refine s_field (hr := ?_)))
    repeat (first | refine wk ?_ | refine s_field (hr := ?_))
    --@
    by_cases hs0 : s < 0
    · have hS := hsn2 hs0
      by_cases hm1 : m = i + 1
      · subst hm1
        have hiw : i < w.length := by omega
        have hwm := hwr _ (List.getElem_mem hiw)
        have hwi : w[i]? = some w[i] := by simp
        by_cases hw0 : w[i] = -1 - s
        · have hS1 : SY = 1 := by rw [hS, if_pos ⟨rfl, by rw [hwi, hw0]⟩]
          have hR := hrow (hnx (fun e => by omega))
          rw [hS1, Nat.one_mul]
          repeat (first | refine wk ?_ | refine s_field (hr := ?_))
          refine s_callU [(1000, 1000), (1001, 1001)] (hA := hR) (hr := ?_)
          repeat (first | refine wk ?_ | refine s_field (hr := ?_))
          exact fin
        · have hS1 : SY = 0 := by rw [hS, if_neg (fun h => hw0 (by have := h.2; rw [hwi] at this; simpa using this))]
          rw [hS1, Nat.zero_mul, Nat.min_zero]
          repeat (first | refine wk ?_ | refine s_field (hr := ?_))
          exact fin
      · have hm1' : ¬ (m : Int) = (i : Int) + 1 := by omega
        have hS1 : SY = 0 := by rw [hS, if_neg (fun h => hm1 h.1)]
        rw [hS1, Nat.zero_mul, Nat.min_zero]
        (repeat (first | refine wk ?_ | refine s_field (hr := ?_)))
        (repeat (first | refine wkz ?_ | refine s_field (hr := ?_)))
        repeat (first | refine wk ?_ | refine s_field (hr := ?_))
        exact fin
    · obtain ⟨sn, rfl⟩ : ∃ sn : Nat, s = (sn : Int) := ⟨s.toNat, by omega⟩
      have hS := hsn (by omega)
      rw [Int.toNat_natCast] at hS
      have hsl : sn < NB.length := by omega
      have hnb : has NB (sn : Int) = NB[sn] := by rw [has_nat, List.getD_eq_getElem?_getD, List.getElem?_eq_getElem hsl, Option.getD_some]
      by_cases hmi : m = i ∧ NB[sn] = false
      · obtain ⟨rfl, hnf⟩ := hmi
        have hS1 : SY = 0 := by
          rw [hS]
          refine Classical.byContradiction fun e => ?_
          have := hN0' sn m e
          rw [hnb, hnf] at this; cases this
        rw [hS1, Nat.zero_mul, Nat.min_zero]
        repeat (first | refine wk ?_ | refine s_field (hr := ?_))
        exact fin
      · have hR := hrow (hnx (fun e => by rw [hnb]; cases hq : NB[sn] with | true => rfl | false => exact absurd ⟨e, hq⟩ hmi))
        have hof' := hof sn rfl (fun e => absurd e hmj2)
        have hSM : SY ≤ manyC := by rw [hS]; exact hN _ _ _
        rw [← hS] at hof'
        have htm := times_simC (a := SY) (b := min manyC W) hSM (Nat.min_le_left _ _)
        rw [min_mul_r] at htm
        have hW0 : W = 0 → SY * W = 0 := fun e => by rw [e, Nat.mul_zero]
        have hW1 : W ≠ 0 → ¬ ((min manyC W : Nat) : Int) = 0 := fun e => by unfold manyC; omega
        generalize hmw : min manyC W = mw at *
        generalize hms : min manyC (SY * W) = ms at *
        by_cases hz : W = 0
        · have e1 : mw = 0 := by rw [← hmw, hz]; simp
          have e2 : ms = 0 := by rw [← hms, hW0 hz]; simp
          subst e1; subst e2
          by_cases hmi2 : m = i
          · have hnt : NB[sn] = true := by cases hq : NB[sn] with | true => rfl | false => exact absurd ⟨hmi2, hq⟩ hmi
            repeat (first | refine wk ?_ | refine s_field (hr := ?_))
            refine s_callU [(1000, 1000), (1001, 1001)] (hA := hR) (hr := ?_)
            repeat (first | refine wk ?_ | refine s_field (hr := ?_))
            exact fin
          · have hmi3 : ¬ (m : Int) = i := by omega
            (repeat (first | refine wk ?_ | refine s_field (hr := ?_)))
            (repeat (first | refine wkz ?_ | refine s_field (hr := ?_)))
            repeat (first | refine wk ?_ | refine s_field (hr := ?_))
            refine s_callU [(1000, 1000), (1001, 1001)] (hA := hR) (hr := ?_)
            repeat (first | refine wk ?_ | refine s_field (hr := ?_))
            exact fin
        · have hmz := hW1 hz
          by_cases hmi2 : m = i
          · have hnt : NB[sn] = true := by cases hq : NB[sn] with | true => rfl | false => exact absurd ⟨hmi2, hq⟩ hmi
            repeat (first | refine wk ?_ | refine s_field (hr := ?_))
            refine s_callU [(1000, 1000), (1001, 1001)] (hA := hR) (hr := ?_)
            repeat (first | refine wk ?_ | refine s_field (hr := ?_))
            refine s_callU [(1000, 1000), (1001, 1001)] (hA := hof') (hr := ?_)
            repeat (first | refine wk ?_ | refine s_field (hr := ?_))
            refine s_callU [] (hA := htm) (hr := ?_)
            repeat (first | refine wk ?_ | refine s_field (hr := ?_))
            exact fin
          · have hmi3 : ¬ (m : Int) = i := by omega
            (repeat (first | refine wk ?_ | refine s_field (hr := ?_)))
            (repeat (first | refine wkz ?_ | refine s_field (hr := ?_)))
            repeat (first | refine wk ?_ | refine s_field (hr := ?_))
            refine s_callU [(1000, 1000), (1001, 1001)] (hA := hR) (hr := ?_)
            repeat (first | refine wk ?_ | refine s_field (hr := ?_))
            refine s_callU [(1000, 1000), (1001, 1001)] (hA := hof') (hr := ?_)
            repeat (first | refine wk ?_ | refine s_field (hr := ?_))
            refine s_callU [] (hA := htm) (hr := ?_)
            repeat (first | refine wk ?_ | refine s_field (hr := ?_))
            exact fin
end
end Go.Proofs.Yticnpbopelgmiaa
