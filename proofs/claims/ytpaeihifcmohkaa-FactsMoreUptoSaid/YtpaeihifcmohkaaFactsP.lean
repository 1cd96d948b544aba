/-
  Nonterminals, plain: sets, passes that grow, what is reached, what leads where.
-/
import Derived.Test.YtpaeihifcmohkaaTreeQ
set_option linter.unusedVariables false
set_option linter.unusedSimpArgs false
namespace Go.Proofs.Ytpaeihifcmohkaa
open Go.RowKit

/-! ### Sets -/
def setN : List Bool → Nat
  | [] => 0
  | b :: r => b.toNat + 2 * setN r
theorem setN_lt : ∀ (l : List Bool), setN l < 2 ^ l.length
  | [] => by simp [setN]
  | b :: r => by
    have := setN_lt r
    have : b.toNat ≤ 1 := Bool.toNat_le b
    simp only [setN, List.length_cons, Nat.pow_succ]; omega
theorem setN_lt64 {l : List Bool} (h : l.length ≤ 64) : setN l < 18446744073709551616 :=
  Nat.lt_of_lt_of_le (setN_lt l) (Nat.le_trans (Nat.pow_le_pow_right (by decide) h) (by decide))
theorem setN_bit : ∀ (l : List Bool) (i : Nat), (setN l).testBit i = l.getD i false
  | [], i => by simp [setN]
  | b :: r, 0 => by cases b <;> simp [setN, Nat.testBit_zero] <;> omega
  | b :: r, i + 1 => by
    rw [Nat.testBit_succ, setN]
    have e : (b.toNat + 2 * setN r) / 2 = setN r := by have : b.toNat ≤ 1 := Bool.toNat_le b; omega
    rw [e, setN_bit r i]; simp
theorem setN_inj {a b : List Bool} (hl : a.length = b.length) (h : setN a = setN b) : a = b := by
  refine List.ext_getElem hl fun i h1 h2 => ?_
  have e1 := setN_bit a i
  have e2 := setN_bit b i
  rw [h, e2] at e1
  simpa [List.getD_eq_getElem?_getD, h1, h2] using e1.symm
theorem setN_set {l : List Bool} {i : Nat} (h : i < l.length) : setN (l.set i true) = setN l ||| (1 <<< i) := by
  apply Nat.eq_of_testBit_eq
  intro j
  rw [setN_bit, Nat.testBit_or, setN_bit, Nat.one_shiftLeft, Nat.testBit_two_pow]
  simp only [List.getD_eq_getElem?_getD, List.getElem?_set]
  by_cases e : i = j
  · subst e; simp [h]
  · simp [e]
theorem setN_rep (n : Nat) : setN (List.replicate n false) = 0 := by
  induction n with
  | zero => rfl
  | succ n ih => simp [List.replicate_succ, setN, ih]
def has (is : List Bool) (v : Int) : Bool := decide (0 ≤ v) && is.getD v.toNat false
def put (is : List Bool) (v : Int) : List Bool := is.set v.toNat true
theorem put_length (is : List Bool) (v : Int) : (put is v).length = is.length := by simp [put]
theorem has_nat (is : List Bool) (k : Nat) : has is k = is.getD k false := by simp [has]
theorem has_put {is : List Bool} {v : Int} (h0 : 0 ≤ v) (h1 : v < is.length) (u : Int) : has (put is v) u = (has is u || decide (u = v)) := by
  unfold has put
  by_cases hu : 0 ≤ u
  · simp only [hu, decide_true, Bool.true_and, List.getD_eq_getElem?_getD, List.getElem?_set]
    by_cases e : u = v
    · subst e
      rw [if_pos rfl, if_pos (by omega)]; simp
    · rw [if_neg (by omega)]; simp [e]
  · have : u ≠ v := by omega
    simp [hu, this]
theorem has_lt {is : List Bool} {v : Int} (h : has is v = true) : 0 ≤ v ∧ v < is.length := by
  simp only [has, Bool.and_eq_true, decide_eq_true_eq] at h
  refine ⟨h.1, ?_⟩
  rcases Nat.lt_or_ge v.toNat is.length with h1 | h1
  · omega
  · rw [List.getD_eq_getElem?_getD, List.getElem?_eq_none h1] at h; simp at h
theorem sets_eq {a b : List Bool} (hl : a.length = b.length) (h : ∀ v, has a v = has b v) : a = b := by
  refine List.ext_getElem hl fun i h1 h2 => ?_
  have := h i
  rw [has_nat, has_nat] at this
  simpa [List.getD_eq_getElem?_getD, h1, h2] using this
structure Sub (a b : List Bool) : Prop where
  len : a.length = b.length
  sub : ∀ v, has a v = true → has b v = true
theorem Sub.refl (a : List Bool) : Sub a a := ⟨rfl, fun _ h => h⟩
theorem Sub.trans {a b c : List Bool} (h : Sub a b) (k : Sub b c) : Sub a c := ⟨h.len.trans k.len, fun v hv => k.sub v (h.sub v hv)⟩
theorem Sub.anti {a b : List Bool} (h : Sub a b) (k : Sub b a) : a = b := sets_eq h.len fun v => by
  rw [Bool.eq_iff_iff]; exact ⟨h.sub v, k.sub v⟩
theorem Sub.put {is : List Bool} {v : Int} (h0 : 0 ≤ v) : Sub is (put is v) := by
  refine ⟨by simp [Proofs.Ytpaeihifcmohkaa.put], fun u hu => ?_⟩
  by_cases h1 : v < is.length
  · rw [has_put h0 h1, hu]; rfl
  · rw [Proofs.Ytpaeihifcmohkaa.put, List.set_eq_of_length_le (by omega)]; exact hu
theorem sub_put {a b : List Bool} (h : Sub a b) {v : Int} (hv : has b v = true) : Sub (put a v) b := by
  obtain ⟨h0, h1⟩ := has_lt hv
  refine ⟨by rw [put_length]; exact h.len, fun u hu => ?_⟩
  rw [has_put h0 (by have := h.len; omega), Bool.or_eq_true, decide_eq_true_eq] at hu
  rcases hu with hu | rfl
  · exact h.sub u hu
  · exact hv
def cntB : List Bool → Nat
  | [] => 0
  | b :: r => b.toNat + cntB r
theorem cntB_le : ∀ (l : List Bool), cntB l ≤ l.length
  | [] => Nat.le_refl _
  | b :: r => by have := cntB_le r; have : b.toNat ≤ 1 := Bool.toNat_le b; simp only [cntB, List.length_cons]; omega
theorem cntB_sub : ∀ {a b : List Bool}, Sub a b → cntB a ≤ cntB b ∧ (cntB a = cntB b → a = b)
  | [], [], _ => ⟨Nat.le_refl _, fun _ => rfl⟩
  | [], y :: b, h => by have := h.len; simp at this
  | x :: a, [], h => by have := h.len; simp at this
  | x :: a, y :: b, h => by
    have h1 : Sub a b := ⟨by simpa using h.len, fun v hv => by
      obtain ⟨h0, hl⟩ := has_lt hv
      obtain ⟨k, rfl⟩ : ∃ k : Nat, v = (k : Int) := ⟨v.toNat, by omega⟩
      have := h.sub ((k + 1 : Nat) : Int) (by rw [has_nat]; rw [has_nat] at hv; simpa using hv)
      rw [has_nat] at this ⊢; simpa using this⟩
    have h2 : x = true → y = true := fun hx => by
      have := h.sub ((0 : Nat) : Int) (by rw [has_nat]; simpa using hx)
      rw [has_nat] at this; simpa using this
    obtain ⟨k1, k2⟩ := cntB_sub h1
    cases x <;> cases y <;> simp_all [cntB] <;> omega
theorem Sub.grows {a b : List Bool} (h : Sub a b) (hne : a ≠ b) : cntB a < cntB b := by
  obtain ⟨h1, h2⟩ := cntB_sub h
  rcases Nat.lt_or_ge (cntB a) (cntB b) with h3 | h3
  · exact h3
  · exact absurd (h2 (by omega)) hne

/-! ### Over and over -/
def iter {α : Type} (f : α → α) : Nat → α → α
  | 0, x => x
  | n + 1, x => iter f n (f x)
theorem iter_fix {α : Type} {f : α → α} {x : α} (h : f x = x) : ∀ n, iter f n x = x
  | 0 => rfl
  | n + 1 => by rw [iter, h]; exact iter_fix h n
theorem iter_comm {α : Type} {f : α → α} : ∀ (n : Nat) (x : α), iter f n (f x) = f (iter f n x)
  | 0, _ => rfl
  | n + 1, x => by rw [iter, iter, iter_comm n]
theorem iter_done {f : List Bool → List Bool} (hs : ∀ x, Sub x (f x)) : ∀ (n : Nat) (x : List Bool), x.length ≤ cntB x + n → f (iter f n x) = iter f n x
  | 0, x, h => by
    rw [iter]
    by_cases e : x = f x
    · exact e.symm
    · have := (hs x).grows e
      have := cntB_le (f x)
      have := (hs x).len
      omega
  | n + 1, x, h => by
    rw [iter]
    by_cases e : x = f x
    · rw [← e, iter_fix e.symm]; exact e.symm
    · have := (hs x).grows e
      have := (hs x).len
      exact iter_done hs n (f x) (by omega)
theorem iter_sub {f : List Bool → List Bool} (hs : ∀ x, Sub x (f x)) : ∀ (n : Nat) (x : List Bool), Sub x (iter f n x)
  | 0, x => Sub.refl x
  | n + 1, x => (hs x).trans (iter_sub hs n (f x))
theorem iter_least {f : List Bool → List Bool} {S : List Bool} (hf : ∀ x, Sub x S → Sub (f x) S) : ∀ (n : Nat) (x : List Bool), Sub x S → Sub (iter f n x) S
  | 0, _, h => h
  | n + 1, x, h => iter_least hf n (f x) (hf x h)
/-- What is there when nothing more comes. -/
def full (f : List Bool → List Bool) (x : List Bool) : List Bool := iter f x.length x
theorem full_fix {f : List Bool → List Bool} (hs : ∀ x, Sub x (f x)) (x : List Bool) : f (full f x) = full f x := iter_done hs _ x (by omega)
theorem full_step {f : List Bool → List Bool} (hs : ∀ x, Sub x (f x)) (x : List Bool) : full f (f x) = full f x := by
  have h1 := full_fix hs x
  unfold full at h1 ⊢
  rw [← (hs x).len, iter_comm, h1]
theorem full_end {f : List Bool → List Bool} {x : List Bool} (h : f x = x) : full f x = x := iter_fix h _
theorem full_more {f : List Bool → List Bool} (hs : ∀ x, Sub x (f x)) {x : List Bool} {n : Nat} (hn : x.length ≤ n) : iter f n x = full f x := by
  have h1 := full_fix hs x
  have : ∀ k, iter f (x.length + k) x = full f x := by
    intro k
    induction k with
    | zero => rfl
    | succ k ih => rw [← Nat.add_assoc, iter, iter_comm, ih, h1]
  have := this (n - x.length)
  rwa [show x.length + (n - x.length) = n by omega] at this

/-! ### Which have the empty word, which have a tree -/
def inAll (xs : List Int) (is : List Bool) : Bool := xs.all (has is)
theorem inAll_sub {xs : List Int} {a b : List Bool} (h : Sub a b) (hx : inAll xs a = true) : inAll xs b = true := by
  simp only [inAll, List.all_eq_true] at hx ⊢
  exact fun x m => h.sub x (hx x m)
def asks (t : Bool) (r : Rule) : List Int := bif t then kids r.right else r.right
def one1 (t : Bool) (r : Rule) (is : List Bool) : List Bool := bif inAll (asks t r) is then put is r.left else is
def pass (t : Bool) : List Rule → List Bool → List Bool
  | [], is => is
  | r :: rs, is => pass t rs (one1 t r is)
theorem one1_sub {t : Bool} {r : Rule} (h : 0 ≤ r.left) (is : List Bool) : Sub is (one1 t r is) := by
  unfold one1
  cases inAll (asks t r) is with
  | true => exact Sub.put h
  | false => exact Sub.refl _
theorem pass_sub {t : Bool} : ∀ {rs : List Rule}, (∀ r ∈ rs, 0 ≤ r.left) → ∀ is, Sub is (pass t rs is)
  | [], _, is => Sub.refl is
  | r :: rs, h, is => (one1_sub (h r (by simp)) is).trans (pass_sub (fun q hq => h q (by simp [hq])) _)
theorem pass_fix {t : Bool} : ∀ {rs : List Rule} {is : List Bool}, (∀ r ∈ rs, 0 ≤ r.left) → pass t rs is = is → ∀ r ∈ rs, one1 t r is = is
  | [], _, _, _, r, hr => by cases hr
  | q :: rs, is, h, e, r, hr => by
    have h1 := one1_sub (t := t) (h q (by simp)) is
    have h2 := pass_sub (t := t) (rs := rs) (fun r hr => h r (by simp [hr])) (one1 t q is)
    rw [pass] at e
    rw [e] at h2
    have e1 := h2.anti h1
    rcases List.mem_cons.1 hr with rfl | hr
    · exact e1
    · rw [e1] at e
      exact pass_fix (fun r hr => h r (by simp [hr])) e r hr
/-- All of whose rules hold. -/
def Holds (t : Bool) (rs : List Rule) (S : List Bool) : Prop := ∀ r ∈ rs, inAll (asks t r) S = true → has S r.left = true
theorem pass_least {t : Bool} {S : List Bool} : ∀ {rs : List Rule}, Holds t rs S → ∀ is, Sub is S → Sub (pass t rs is) S
  | [], _, _, h => h
  | r :: rs, hS, is, h => by
    refine pass_least (rs := rs) (fun q hq => hS q (by simp [hq])) (one1 t r is) ?_
    unfold one1
    cases hc : inAll (asks t r) is with
    | false => exact h
    | true => exact sub_put h (hS r (by simp) (inAll_sub h hc))
def none_ (g : Gram) : List Bool := List.replicate g.vars.toNat false
def leftsOf (t : Bool) (g : Gram) : List Bool := full (pass t g.rules) (none_ g)
theorem none_length (g : Gram) : (none_ g).length = g.vars.toNat := by simp [none_]
theorem none_has (g : Gram) (v : Int) : has (none_ g) v = false := by
  unfold has none_
  by_cases h : v.toNat < g.vars.toNat <;> simp [List.getD_eq_getElem?_getD, List.getElem?_replicate, h]
theorem none_sub {g : Gram} {S : List Bool} (h : S.length = g.vars.toNat) : Sub (none_ g) S := ⟨by rw [none_length, h], fun v hv => by rw [none_has] at hv; cases hv⟩
theorem leftsOf_len {t : Bool} {g : Gram} (hg : g.ok) : (leftsOf t g).length = g.vars.toNat := by
  rw [leftsOf, full, ← (iter_sub (pass_sub hg.left0) _ _).len, none_length]
theorem leftsOf_holds {t : Bool} {g : Gram} (hg : g.ok) : Holds t g.rules (leftsOf t g) := fun r hr h => by
  have h1 := pass_fix hg.left0 (full_fix (pass_sub (t := t) hg.left0) (none_ g)) r hr
  change one1 t r (leftsOf t g) = leftsOf t g at h1
  unfold one1 at h1
  rw [h, cond_true] at h1
  have hl := leftsOf_len (t := t) hg
  have a1 := hg.left0 r hr
  have a2 := hg.left r hr
  rw [← h1, has_put a1 (by omega)]; simp
theorem leftsOf_least {t : Bool} {g : Gram} {S : List Bool} (hl : S.length = g.vars.toNat) (hS : Holds t g.rules S) : Sub (leftsOf t g) S :=
  iter_least (fun x hx => pass_least hS x hx) _ _ (none_sub hl)

/-! ### What comes of the start -/
def addAll : List Int → List Bool → List Bool
  | [], is => is
  | v :: vs, is => addAll vs (put is v)
def stepR (r : Rule) (is : List Bool) : List Bool := bif has is r.left then addAll (kids r.right) is else is
def passR : List Rule → List Bool → List Bool
  | [], is => is
  | r :: rs, is => passR rs (stepR r is)
theorem addAll_append : ∀ (a b : List Int) (is : List Bool), addAll (a ++ b) is = addAll b (addAll a is)
  | [], _, _ => rfl
  | v :: a, b, is => addAll_append a b _
theorem addAll_sub : ∀ {vs : List Int}, (∀ v ∈ vs, 0 ≤ v) → ∀ is, Sub is (addAll vs is)
  | [], _, is => Sub.refl is
  | v :: vs, h, is => (Sub.put (h v (by simp))).trans (addAll_sub (fun u hu => h u (by simp [hu])) _)
theorem addAll_has : ∀ {vs : List Int} {is : List Bool}, (∀ v ∈ vs, 0 ≤ v ∧ v < is.length) → ∀ u, has (addAll vs is) u = (has is u || decide (u ∈ vs))
  | [], is, _, u => by simp [addAll]
  | v :: vs, is, h, u => by
    have hv := h v (by simp)
    rw [addAll, addAll_has (fun w hw => by rw [put_length]; exact h w (by simp [hw])), has_put hv.1 hv.2, Bool.or_assoc]
    congr 1
    simp only [List.mem_cons]
    by_cases e : u = v <;> simp [e]
theorem addAll_length : ∀ (vs : List Int) (is : List Bool), (addAll vs is).length = is.length
  | [], _ => rfl
  | v :: vs, is => by rw [addAll, addAll_length, put_length]
theorem kids_nonneg {xs : List Int} : ∀ v ∈ kids xs, 0 ≤ v := fun v hv => by
  simp only [kids, List.mem_filter, decide_eq_true_eq] at hv; exact hv.2
theorem kids_mem {xs : List Int} {v : Int} (h : v ∈ kids xs) : v ∈ xs := (List.mem_filter.1 h).1
theorem stepR_sub (r : Rule) (is : List Bool) : Sub is (stepR r is) := by
  unfold stepR
  cases has is r.left with
  | true => exact addAll_sub kids_nonneg is
  | false => exact Sub.refl _
theorem passR_sub : ∀ (rs : List Rule) (is : List Bool), Sub is (passR rs is)
  | [], is => Sub.refl is
  | r :: rs, is => (stepR_sub r is).trans (passR_sub rs _)
theorem passR_fix : ∀ {rs : List Rule} {is : List Bool}, passR rs is = is → ∀ r ∈ rs, stepR r is = is
  | [], _, _, r, hr => by cases hr
  | q :: rs, is, e, r, hr => by
    have h1 := stepR_sub q is
    have h2 := passR_sub rs (stepR q is)
    rw [passR] at e
    rw [e] at h2
    have e1 := h2.anti h1
    rcases List.mem_cons.1 hr with rfl | hr
    · exact e1
    · rw [e1] at e; exact passR_fix e r hr
def Goes (rs : List Rule) (S : List Bool) : Prop := ∀ r ∈ rs, has S r.left = true → ∀ v ∈ kids r.right, has S v = true
theorem addAll_least {S : List Bool} : ∀ {vs : List Int}, (∀ v ∈ vs, has S v = true) → ∀ is, Sub is S → Sub (addAll vs is) S
  | [], _, _, h => h
  | v :: vs, hv, is, h => addAll_least (vs := vs) (fun u hu => hv u (by simp [hu])) (put is v) (sub_put h (hv v (by simp)))
theorem passR_least {S : List Bool} : ∀ {rs : List Rule}, Goes rs S → ∀ is, Sub is S → Sub (passR rs is) S
  | [], _, _, h => h
  | r :: rs, hS, is, h => by
    refine passR_least (rs := rs) (fun q hq => hS q (by simp [hq])) (stepR r is) ?_
    unfold stepR
    cases hc : has is r.left with
    | false => exact h
    | true => exact addAll_least (hS r (by simp) (h.sub _ hc)) is h
def reachOf (g : Gram) : List Bool := full (passR g.rules) (put (none_ g) g.start)
theorem reachOf_len (g : Gram) : (reachOf g).length = g.vars.toNat := by
  rw [reachOf, full, ← (iter_sub (passR_sub _) _ _).len, put_length, none_length]
theorem reachOf_start {g : Gram} (hg : g.ok) : has (reachOf g) g.start = true := by
  refine (iter_sub (passR_sub g.rules) _ _).sub _ ?_
  have := hg.start
  rw [has_put hg.start0 (by rw [none_length]; omega)]; simp
theorem reachOf_goes {g : Gram} (hg : g.ok) : Goes g.rules (reachOf g) := fun r hr h v hv => by
  have h1 := passR_fix (full_fix (passR_sub g.rules) (put (none_ g) g.start)) r hr
  change stepR r (reachOf g) = reachOf g at h1
  unfold stepR at h1
  rw [h, cond_true] at h1
  have hl := reachOf_len g
  rw [← h1, addAll_has (fun w hw => ⟨kids_nonneg w hw, by have := hg.hi r hr w (kids_mem hw); omega⟩)]
  simp [hv]
theorem reachOf_least {g : Gram} {S : List Bool} (hl : S.length = g.vars.toNat) (h0 : has S g.start = true) (hS : Goes g.rules S) : Sub (reachOf g) S :=
  iter_least (fun x hx => passR_least hS x hx) _ _ (sub_put (none_sub hl) h0)
end Go.Proofs.Ytpaeihifcmohkaa
