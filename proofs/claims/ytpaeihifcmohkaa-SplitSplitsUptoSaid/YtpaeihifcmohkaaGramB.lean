/-
  Sim: faults, GreatGram, IndexFunc and ContainsFunc of ints, gram.Check, GramFault, SameGram, Clone, OwnGram.
-/
import Derived.Test.YtpaeihifcmohkaaGramA
set_option linter.unusedVariables false
set_option linter.unusedSimpArgs false
namespace Go.Proofs.Ytpaeihifcmohkaa
open Go.RowKit
set_option maxRecDepth 100000

theorem f_sim {a b : Int} : ACalls Try.prog 73 [I a, I b] [] (.d (faultD ⟨a, b⟩)) [] := by
  refine ACalls.intro (n := 8) Try.func73 rfl rfl (by simp) (by rfl) ?_
  simp only [argFr]
  repeat (first | refine wk ?_)
  exact fin
theorem greatGram_sim {t : Bool} {g : Gram} (hl : g.rules.length ≤ 100000000 := by ((try simp only [List.length_map, List.length_append, List.length_cons, List.length_nil, List.length_replicate, List.length_set, List.length_take, List.length_drop]); first | omega | assumption)) (hr : ∀ r ∈ g.rules, r.right.length ≤ 100000000 := by assumption) :
    ACalls Try.prog 24 [.d (gramD t g)] [] (B (greatG g)) [] := by
  refine ACalls.intro (n := 23) Try.func24 rfl rfl (by simp) (by rfl) ?_
  simp only [argFr]
  by_cases h4 : (g.rules.length : Int) > 400
  · repeat (first | refine wk ?_)
    rw [show greatG g = true by simp [greatG]; left; omega]
    exact fin
  · repeat (first | refine wk ?_)
    refine t_loop (X := Nat) (fun k => k ≤ g.rules.length ∧ ∀ j, j < k → ∀ (hj : j < g.rules.length), decide (100 < g.rules[j].right.length) = false) (fun k => [(3, I k), (1, .ptr 1 0)]) (fun _ => [(1, .box 34 [.d (iD g.vars), .d (iD g.terms), .d (iD g.start), .d (rulesD t g.rules)])]) (fun k => g.rules.length - k) 0
      ⟨Nat.zero_le _, by omega⟩ ?_
    rintro k ⟨hk, hp⟩
    by_cases hlt : k < g.rules.length
    · by_cases hx : (g.rules[k].right.length : Int) > 100
      · repeat (first | refine wk ?_)
        rw [show greatG g = true by simp only [greatG, Bool.or_eq_true]; right; exact any_at hlt (by simp; omega)]
        exact fin
      · repeat (first | refine wk ?_)
        exact t_next (k + 1) (a := ⟨by omega, upto_succ hp (fun _ => by simp; omega)⟩)
    · repeat (first | refine wk ?_)
      rw [show greatG g = false by simp only [greatG, Bool.or_eq_false_iff]; exact ⟨by simp; omega, any_none (fun j hj => hp j (by omega) hj)⟩]
      exact fin

/-! ### IndexFunc, ContainsFunc -/
def idxR (p : Int → Bool) : List Int → Nat → Int
  | [], _ => -1
  | x :: xs, i => bif p x then (i : Int) else idxR p xs (i + 1)
theorem idxR_any (p : Int → Bool) : ∀ (xs : List Int) (i : Nat), decide (0 ≤ idxR p xs i) = xs.any p
  | [], _ => by simp [idxR]
  | x :: xs, i => by
    simp only [idxR, List.any_cons]
    by_cases h : p x = true
    · simp [h]
    · simp only [Bool.not_eq_true] at h
      simpa [h] using idxR_any p xs (i + 1)
theorem idxR_step {p : Int → Bool} {xs : List Int} {k : Nat} (h : k < xs.length) : idxR p (xs.drop k) k = bif p xs[k] then (k : Int) else idxR p (xs.drop (k + 1)) (k + 1) := by
  rw [List.drop_eq_getElem_cons h, idxR]
theorem idxR_end {p : Int → Bool} {xs : List Int} {k : Nat} (h : ¬ k < xs.length) : idxR p (xs.drop k) k = -1 := by
  rw [List.drop_of_length_le (by omega), idxR]
theorem indexFunc_sim {t : Bool} {clos : Nat} {caps : List V} {H : Hp} {xs : List Int} {p : Int → Bool} (hC : Clo H caps) (hc : ∀ x ∈ xs, ACalls Try.prog clos (I x :: caps) H (B (p x)) H) (hl : xs.length ≤ 100000000 := by ((try simp only [List.length_map, List.length_append, List.length_cons, List.length_nil, List.length_replicate, List.length_set, List.length_take, List.length_drop]); first | omega | assumption)) :
    ACalls Try.prog 124 [.d (ints t xs), .fn (.func clos) [] caps] H (I (idxR p xs 0)) H := by
  refine ACalls.intro (n := 19) Try.func124 rfl rfl (by simp) (by rfl) ?_
  simp only [argFr]
  have h1 := hC.self
  have h2 := hC.inn
  have h3 := hC.caps
  repeat (first | refine wk ?_)
  refine t_loop (X := Nat) (fun k => k ≤ xs.length ∧ idxR p xs 0 = idxR p (xs.drop k) k) (fun k => [(8, I k), (7, I xs.length), (1, .fn (.func clos) [] caps), (0, .d (ints t xs))]) (fun _ => H) (fun k => xs.length - k) 0 ⟨Nat.zero_le _, rfl⟩ ?_
  rintro k ⟨hk, hp⟩
  by_cases hlt : k < xs.length
  · have hs := idxR_step (p := p) hlt
    repeat (first | refine wk ?_)
    refine s_clos hC (hA := hc xs[k] (List.getElem_mem hlt)) (hr := ?_)
    cases hpx : p xs[k] with
    | true =>
      rw [hpx] at hs
      repeat (first | refine wk ?_)
      rw [hp, hs]
      exact fin
    | false =>
      rw [hpx] at hs
      repeat (first | refine wk ?_)
      exact t_next (k + 1) (a := ⟨by omega, hp.trans hs⟩)
  · repeat (first | refine wk ?_)
    rw [hp, idxR_end hlt]
    exact fin
theorem containsFunc_sim {t : Bool} {clos : Nat} {caps : List V} {H : Hp} {xs : List Int} {p : Int → Bool} (hC : Clo H caps) (hc : ∀ x ∈ xs, ACalls Try.prog clos (I x :: caps) H (B (p x)) H) (hl : xs.length ≤ 100000000 := by ((try simp only [List.length_map, List.length_append, List.length_cons, List.length_nil, List.length_replicate, List.length_set, List.length_take, List.length_drop]); first | omega | assumption)) :
    ACalls Try.prog 81 [.d (ints t xs), .fn (.func clos) [] caps] H (B (xs.any p)) H := by
  refine ACalls.intro (n := 9) Try.func81 rfl rfl (by simp) (by rfl) ?_
  simp only [argFr]
  have h1 := hC.self
  have h2 := hC.inn
  have h3 := hC.caps
  repeat (first | refine wk ?_)
  refine s_clos hC.bare (hA := indexFunc_sim hC hc) (hr := ?_)
  repeat (first | refine wk ?_)
  rw [← idxR_any p xs 0]
  exact fin

/-! ### gram.Check, GramFault -/
def badSym (g : Gram) (s : Int) : Bool := decide (g.vars ≤ s) || decide (s < -g.terms)
def ruleFault (g : Gram) (r : Rule) : Int := if 10 < r.right.length then 6 else if r.left < 0 ∨ g.vars ≤ r.left ∨ r.right.any (badSym g) = true then 9 else 0
def ffirst (g : Gram) : List Rule → Nat → Fault
  | [], _ => ⟨0, 0⟩
  | r :: rs, i => if ruleFault g r = 0 then ffirst g rs (i + 1) else ⟨ruleFault g r, i⟩
def headOk (g : Gram) : Prop := 1 ≤ g.vars ∧ g.vars ≤ 64 ∧ 0 ≤ g.terms ∧ g.terms ≤ 16 ∧ 0 ≤ g.start ∧ g.start < g.vars
instance (g : Gram) : Decidable (headOk g) := by unfold headOk; exact inferInstance
def gramFault (g : Gram) : Fault := if headOk g then (if 160 < g.rules.length then ⟨6, -1⟩ else ffirst g g.rules 0) else ⟨9, -1⟩
theorem ffirst_step {g : Gram} {k : Nat} (h : k < g.rules.length) : ffirst g (g.rules.drop k) k = if ruleFault g g.rules[k] = 0 then ffirst g (g.rules.drop (k + 1)) (k + 1) else ⟨ruleFault g g.rules[k], k⟩ := by
  rw [List.drop_eq_getElem_cons h, ffirst]
theorem ffirst_end {g : Gram} {k : Nat} (h : ¬ k < g.rules.length) : ffirst g (g.rules.drop k) k = ⟨0, 0⟩ := by
  rw [List.drop_of_length_le (by omega), ffirst]
abbrev gramBox (t : Bool) (g : Gram) : Ob := .box 34 [.d (iD g.vars), .d (iD g.terms), .d (iD g.start), .d (rulesD t g.rules)]
theorem check1_sim {t : Bool} {g : Gram} {s : Int} (ht : 0 ≤ g.terms ∧ g.terms ≤ 16) :
    ACalls Try.prog 80 [I s, .ptr 1000 0] [(1000, gramBox t g)] (B (badSym g s)) [(1000, gramBox t g)] := by
  refine ACalls.intro (n := 15) Try.func80 rfl rfl (by simp) (by rfl) ?_
  simp only [argFr]
  obtain ⟨ht1, ht2⟩ := ht
  by_cases h1 : g.vars ≤ s
  · repeat (first | refine wk ?_)
    rw [show badSym g s = true by simp [badSym, h1]]
    exact fin
  · by_cases h2 : s < -g.terms
    · repeat (first | refine wk ?_)
      rw [show badSym g s = true by simp [badSym, h2]]
      exact fin
    · repeat (first | refine wk ?_)
      rw [show badSym g s = false by simp [badSym, h1, h2]]
      exact fin
set_option maxHeartbeats 4000000 in
theorem gramCheck_sim {t : Bool} {g : Gram} (hl : g.rules.length ≤ 100000000 := by ((try simp only [List.length_map, List.length_append, List.length_cons, List.length_nil, List.length_replicate, List.length_set, List.length_take, List.length_drop]); first | omega | assumption)) (hr : ∀ r ∈ g.rules, r.right.length ≤ 100000000 := by assumption) :
    ACalls Try.prog 26 [.d (gramD t g)] [] (.d (faultD (gramFault g))) [] := by
  refine ACalls.intro (n := 77) Try.func26 rfl rfl (by simp) (by rfl) ?_
  simp only [argFr]
  by_cases hh : headOk g
  · have hh' := hh
    obtain ⟨a1, a2, a3, a4, a5, a6⟩ := hh'
    by_cases h6 : (g.rules.length : Int) > 160
    · repeat (first | refine wk ?_)
      rw [show gramFault g = ⟨6, -1⟩ by rw [gramFault, if_pos hh, if_pos (by omega)]]
      exact fin
    · rw [show gramFault g = ffirst g g.rules 0 by rw [gramFault, if_pos hh, if_neg (by omega)]]
      repeat (first | refine wk ?_)
      refine t_loop (X := Nat) (fun k => k ≤ g.rules.length ∧ ffirst g g.rules 0 = ffirst g (g.rules.drop k) k) (fun k => [(45, I k), (44, I g.rules.length), (43, .d (rulesD t g.rules)), (2, .ptr 2 0), (1, .ptr 1 0)]) (fun _ => [(1, gramBox t g), (2, .box 25 [.d (iD 0), .d (iD 0)])]) (fun k => g.rules.length - k) 0 ⟨Nat.zero_le _, rfl⟩ ?_
      rintro k ⟨hk, hp⟩
      by_cases hlt : k < g.rules.length
      · have hs := ffirst_step hlt
        have hrk := hr _ (List.getElem_mem hlt)
        by_cases b1 : (g.rules[k].right.length : Int) > 10
        · repeat (first | refine wk ?_)
          rw [hp, hs, show ruleFault g g.rules[k] = 6 by rw [ruleFault, if_pos (by omega)], if_neg (by decide)]
          exact fin
        · by_cases b2 : g.rules[k].left < 0
          · repeat (first | refine wk ?_)
            rw [hp, hs, show ruleFault g g.rules[k] = 9 by rw [ruleFault, if_neg (by omega), if_pos (.inl b2)], if_neg (by decide)]

            exact fin
          · by_cases b3 : g.vars ≤ g.rules[k].left
            · repeat (first | refine wk ?_)
              rw [hp, hs, show ruleFault g g.rules[k] = 9 by rw [ruleFault, if_neg (by omega), if_pos (.inr (.inl b3))], if_neg (by decide)]
              exact fin
            · repeat (first | refine wk ?_)
              refine s_call [(1000, 1)] (hA := containsFunc_sim (t := t) (clos := 80) (caps := [.ptr 1000 0]) (H := [(1000, gramBox t g)]) (p := badSym g) ⟨rfl, rfl, rfl, rfl, trivial⟩ (fun x _ => check1_sim ⟨a3, a4⟩)) (hr := ?_)
              cases hb : g.rules[k].right.any (badSym g) with
              | true =>
                repeat (first | refine wk ?_)
                rw [hp, hs, show ruleFault g g.rules[k] = 9 by rw [ruleFault, if_neg (by omega), if_pos (.inr (.inr hb))], if_neg (by decide)]
                exact fin
              | false =>
                rw [show ruleFault g g.rules[k] = 0 by rw [ruleFault, if_neg (by omega), if_neg (by rw [hb]; simp; omega)], if_pos rfl] at hs
                repeat (first | refine wk ?_)
                exact t_next (k + 1) (a := ⟨by omega, hp.trans hs⟩)
      · repeat (first | refine wk ?_)
        rw [hp, ffirst_end hlt]
        exact fin
  · rw [show gramFault g = ⟨9, -1⟩ by rw [gramFault, if_neg hh]]
    by_cases a1 : g.vars < 1
    · repeat (first | refine wk ?_)
      exact fin
    by_cases a2 : 64 < g.vars
    · repeat (first | refine wk ?_)
      exact fin
    by_cases a3 : g.terms < 0
    · repeat (first | refine wk ?_)
      exact fin
    by_cases a4 : 16 < g.terms
    · repeat (first | refine wk ?_)
      exact fin
    by_cases a5 : g.start < 0
    · repeat (first | refine wk ?_)
      exact fin
    by_cases a6 : g.vars ≤ g.start
    · repeat (first | refine wk ?_)
      exact fin
    exact absurd (show headOk g from ⟨by omega, by omega, by omega, by omega, by omega, by omega⟩) hh
theorem any_drop {p : Int → Bool} {xs : List Int} {j : Nat} (h : j < xs.length) : (xs.drop j).any p = (p xs[j] || (xs.drop (j + 1)).any p) := by
  rw [List.drop_eq_getElem_cons h, List.any_cons]
set_option maxHeartbeats 4000000 in
theorem gramFault_sim {t : Bool} {g : Gram} (hl : g.rules.length ≤ 100000000 := by ((try simp only [List.length_map, List.length_append, List.length_cons, List.length_nil, List.length_replicate, List.length_set, List.length_take, List.length_drop]); first | omega | assumption)) (hr : ∀ r ∈ g.rules, r.right.length ≤ 100000000 := by assumption) :
    ACalls Try.prog 27 [.d (gramD t g)] [] (.d (faultD (gramFault g))) [] := by
  refine ACalls.intro (n := 101) Try.func27 rfl rfl (by simp) (by rfl) ?_
  simp only [argFr]
  by_cases hh : headOk g
  · have hh' := hh
    obtain ⟨a1, a2, a3, a4, a5, a6⟩ := hh'
    by_cases h6 : (g.rules.length : Int) > 160
    · repeat (first | refine wk ?_)
      refine s_call [] (hA := f_sim) (hr := ?_)
      rw [show gramFault g = ⟨6, -1⟩ by rw [gramFault, if_pos hh, if_pos (by omega)]]
      repeat (first | refine wk ?_)
      exact fin
    · rw [show gramFault g = ffirst g g.rules 0 by rw [gramFault, if_pos hh, if_neg (by omega)]]
      repeat (first | refine wk ?_)
      refine t_loop (X := Nat) (fun k => k ≤ g.rules.length ∧ ffirst g g.rules 0 = ffirst g (g.rules.drop k) k) (fun k => [(3, I k), (2, .ptr 2 0), (1, .ptr 1 0)]) (fun _ => [(1, gramBox t g), (2, .box 25 [.d (iD 0), .d (iD 0)])]) (fun k => g.rules.length - k) 0 ⟨Nat.zero_le _, rfl⟩ ?_
      rintro k ⟨hk, hp⟩
      by_cases hlt : k < g.rules.length
      · have hs := ffirst_step hlt
        have hrk := hr _ (List.getElem_mem hlt)
        by_cases b1 : (g.rules[k].right.length : Int) > 10
        · repeat (first | refine wk ?_)
          refine s_call [] (hA := f_sim) (hr := ?_)
          repeat (first | refine wk ?_)
          rw [hp, hs, show ruleFault g g.rules[k] = 6 by rw [ruleFault, if_pos (by omega)], if_neg (by decide)]
          exact fin
        · by_cases b2 : g.rules[k].left < 0
          · repeat (first | refine wk ?_)
            refine s_call [] (hA := f_sim) (hr := ?_)
            repeat (first | refine wk ?_)
            rw [hp, hs, show ruleFault g g.rules[k] = 9 by rw [ruleFault, if_neg (by omega), if_pos (.inl b2)], if_neg (by decide)]
            exact fin
          · by_cases b3 : g.vars ≤ g.rules[k].left
            · repeat (first | refine wk ?_)
              refine s_call [] (hA := f_sim) (hr := ?_)
              repeat (first | refine wk ?_)
              rw [hp, hs, show ruleFault g g.rules[k] = 9 by rw [ruleFault, if_neg (by omega), if_pos (.inr (.inl b3))], if_neg (by decide)]
              exact fin
            · repeat (first | refine wk ?_)
              refine t_loop (X := Nat) (fun j => j ≤ g.rules[k].right.length ∧ g.rules[k].right.any (badSym g) = (g.rules[k].right.drop j).any (badSym g)) (fun j => [(5, I j), (4, .ptr 4 0), (3, I k), (2, .ptr 2 0), (1, .ptr 1 0)]) (fun _ => [(1, gramBox t g), (2, .box 25 [.d (iD 0), .d (iD 0)]), (4, .box 44 [.d (iD g.rules[k].left), .d (ints t g.rules[k].right)])]) (fun j => g.rules[k].right.length - j) 0 ⟨Nat.zero_le _, rfl⟩ ?_
              rintro j ⟨hj, hq⟩
              by_cases hjl : j < g.rules[k].right.length
              · have hd := any_drop (p := badSym g) hjl
                by_cases c1 : g.rules[k].right[j] < -g.terms
                · repeat (first | refine wk ?_)
                  refine s_call [] (hA := f_sim) (hr := ?_)
                  repeat (first | refine wk ?_)
                  rw [hp, hs, show ruleFault g g.rules[k] = 9 by rw [ruleFault, if_neg (by omega), if_pos (.inr (.inr (by rw [hq, hd]; simp [badSym, c1])))], if_neg (by decide)]
                  exact fin
                · by_cases c2 : g.vars ≤ g.rules[k].right[j]
                  · repeat (first | refine wk ?_)
                    refine s_call [] (hA := f_sim) (hr := ?_)
                    repeat (first | refine wk ?_)
                    rw [hp, hs, show ruleFault g g.rules[k] = 9 by rw [ruleFault, if_neg (by omega), if_pos (.inr (.inr (by rw [hq, hd]; simp [badSym, c2])))], if_neg (by decide)]
                    exact fin
                  · repeat (first | refine wk ?_)
                    exact t_next (j + 1) (a := ⟨by omega, by rw [hq, hd]; simp [badSym, c1, c2]⟩)
              · have hb : g.rules[k].right.any (badSym g) = false := by rw [hq, List.drop_of_length_le (by omega)]; rfl
                rw [show ruleFault g g.rules[k] = 0 by rw [ruleFault, if_neg (by omega), if_neg (by rw [hb]; simp; omega)], if_pos rfl] at hs
                repeat (first | refine wk ?_)
                exact t_next (k + 1) (a := ⟨by omega, hp.trans hs⟩)
      · repeat (first | refine wk ?_)
        rw [hp, ffirst_end hlt]
        exact fin
  · rw [show gramFault g = ⟨9, -1⟩ by rw [gramFault, if_neg hh]]
    by_cases a1 : g.vars < 1
    · repeat (first | refine wk ?_)
      refine s_call [] (hA := f_sim) (hr := ?_)
      repeat (first | refine wk ?_)
      exact fin
    by_cases a2 : 64 < g.vars
    · repeat (first | refine wk ?_)
      refine s_call [] (hA := f_sim) (hr := ?_)
      repeat (first | refine wk ?_)
      exact fin
    by_cases a3 : g.terms < 0
    · repeat (first | refine wk ?_)
      refine s_call [] (hA := f_sim) (hr := ?_)
      repeat (first | refine wk ?_)
      exact fin
    by_cases a4 : 16 < g.terms
    · repeat (first | refine wk ?_)
      refine s_call [] (hA := f_sim) (hr := ?_)
      repeat (first | refine wk ?_)
      exact fin
    by_cases a5 : g.start < 0
    · repeat (first | refine wk ?_)
      refine s_call [] (hA := f_sim) (hr := ?_)
      repeat (first | refine wk ?_)
      exact fin
    by_cases a6 : g.vars ≤ g.start
    · repeat (first | refine wk ?_)
      refine s_call [] (hA := f_sim) (hr := ?_)
      repeat (first | refine wk ?_)
      exact fin
    exact absurd (show headOk g from ⟨by omega, by omega, by omega, by omega, by omega, by omega⟩) hh
end Go.Proofs.Ytpaeihifcmohkaa
