/-
  Nonterminals, plain: where they lead; a search; what may stand alone, what may stand ahead.
-/
import Derived.Test.YtpaeihifcmohkaaFactsP
set_option linter.unusedVariables false
set_option linter.unusedSimpArgs false
namespace Go.Proofs.Ytpaeihifcmohkaa
open Go.RowKit

/-! ### A search -/
structure Bfs (st : Int → List Int) (init : List Int) (R : List Bool) (todo : List Int) (is : List Bool) : Prop where
  sub : Sub is R
  open_ : ∀ v ∈ todo, has R v = true
  goes : ∀ u, has is u = true → ∀ w ∈ st u, has is w = true ∨ w ∈ todo
  from_ : ∀ w ∈ init, has is w = true ∨ w ∈ todo
/-- What such a set is. -/
structure Whole (st : Int → List Int) (init : List Int) (R : List Bool) : Prop where
  from_ : ∀ w ∈ init, has R w = true
  goes : ∀ u, has R u = true → ∀ w ∈ st u, has R w = true
  least : ∀ S : List Bool, S.length = R.length → (∀ w ∈ init, has S w = true) → (∀ u, has S u = true → ∀ w ∈ st u, has S w = true) → Sub R S
section
variable {st : Int → List Int} {init : List Int} {R is : List Bool} {todo : List Int}
theorem Bfs.start (h : Whole st init R) : Bfs st init R init (List.replicate R.length false) := by
  have hn : ∀ v, has (List.replicate R.length false) v = false := fun v => by
    unfold has
    by_cases h : v.toNat < R.length <;> simp [List.getD_eq_getElem?_getD, List.getElem?_replicate, h]
  exact ⟨⟨by simp, (fun v hv => by rw [hn] at hv; cases hv)⟩, h.from_, (fun u hu => by rw [hn] at hu; cases hu), fun w hw => Or.inr hw⟩
theorem Bfs.skip {v : Int} (h : Bfs st init R (v :: todo) is) (hv : has is v = true) : Bfs st init R todo is := by
  refine ⟨h.sub, fun u hu => h.open_ u (by simp [hu]), fun u hu w hw => ?_, fun w hw => ?_⟩
  · rcases h.goes u hu w hw with h1 | h1
    · exact .inl h1
    · rcases List.mem_cons.1 h1 with rfl | h1
      · exact .inl hv
      · exact .inr h1
  · rcases h.from_ w hw with h1 | h1
    · exact .inl h1
    · rcases List.mem_cons.1 h1 with rfl | h1
      · exact .inl hv
      · exact .inr h1
theorem Bfs.mark {v : Int} (hW : Whole st init R) (h : Bfs st init R (v :: todo) is) : Bfs st init R (todo ++ st v) (put is v) := by
  have hv := h.open_ v (by simp)
  obtain ⟨h0, h1⟩ := has_lt hv
  have hl := h.sub.len
  have hp := has_put (is := is) h0 (by omega)
  refine ⟨sub_put h.sub hv, fun u hu => ?_, fun u hu w hw => ?_, fun w hw => ?_⟩
  · rcases List.mem_append.1 hu with hu | hu
    · exact h.open_ u (by simp [hu])
    · exact hW.goes v hv u hu
  · rw [hp, Bool.or_eq_true, decide_eq_true_eq] at hu
    rw [hp, Bool.or_eq_true, decide_eq_true_eq]
    rcases hu with hu | rfl
    · rcases h.goes u hu w hw with h1 | h1
      · exact .inl (.inl h1)
      · rcases List.mem_cons.1 h1 with rfl | h1
        · exact .inl (.inr rfl)
        · exact .inr (by simp [h1])
    · exact .inr (by simp [hw])
  · rw [hp, Bool.or_eq_true, decide_eq_true_eq]
    rcases h.from_ w hw with h1 | h1
    · exact .inl (.inl h1)
    · rcases List.mem_cons.1 h1 with rfl | h1
      · exact .inl (.inr rfl)
      · exact .inr (by simp [h1])
theorem Bfs.done (hW : Whole st init R) (h : Bfs st init R [] is) : is = R :=
  h.sub.anti (hW.least is h.sub.len (fun w hw => (h.from_ w hw).resolve_right (by simp)) (fun u hu w hw => (h.goes u hu w hw).resolve_right (by simp)))
def bfsM (V K : Nat) (todo : List Int) (is : List Bool) : Nat := (V - cntB is) * (K + 1) + todo.length
theorem bfsM_skip {V K : Nat} {v : Int} : bfsM V K todo is < bfsM V K (v :: todo) is := by simp [bfsM]
theorem bfsM_mark {V K : Nat} {v : Int} (h : Bfs st init R (v :: todo) is) (hn : has is v = false) (hV : is.length = V) (hK : (st v).length ≤ K) : bfsM V K (todo ++ st v) (put is v) < bfsM V K (v :: todo) is := by
  obtain ⟨h0, h1⟩ := has_lt (h.open_ v (by simp))
  have hl := h.sub.len
  have hp := has_put (is := is) h0 (by omega) v
  have hs := (Sub.put (is := is) h0).grows (fun e => by rw [← e, hn] at hp; simp at hp)
  have hc := cntB_le (put is v)
  rw [put_length] at hc
  obtain ⟨d, hd⟩ : ∃ d, V - cntB is = (V - cntB (put is v)) + (d + 1) := ⟨V - cntB is - (V - cntB (put is v)) - 1, by omega⟩
  simp only [bfsM, List.length_append, List.length_cons]
  rw [hd, Nat.add_mul, Nat.add_mul d 1]
  have : 0 ≤ d * (K + 1) := Nat.zero_le _
  omega
end

/-! ### Rules of a nonterminal -/
theorem byR_mem (v : Int) : ∀ (rs : List Rule) (i : Nat) (x : Int), x ∈ byR rs v i ↔ ∃ k : Nat, ∃ h : k < rs.length, x = ((i + k : Nat) : Int) ∧ rs[k].left = v
  | [], i, x => by simp [byR]
  | r :: rs, i, x => by
    have ih := byR_mem v rs (i + 1) x
    have e : x ∈ byR (r :: rs) v i ↔ (r.left = v ∧ x = (i : Int)) ∨ x ∈ byR rs v (i + 1) := by
      rw [byR]; split
      · rename_i h; simp [h]
      · rename_i h; simp [h]
    rw [e, ih]
    constructor
    · rintro (⟨h1, h2⟩ | ⟨k, h, h1, h2⟩)
      · exact ⟨0, by simp, by simpa using h2, by simpa using h1⟩
      · exact ⟨k + 1, by simpa using h, by rw [h1]; congr 1; omega, by simpa using h2⟩
    · rintro ⟨k, h, h1, h2⟩
      match k with
      | 0 => exact .inl ⟨by simpa using h2, by simpa using h1⟩
      | k + 1 => exact .inr ⟨k, by simpa using h, by rw [h1]; congr 1; omega, by simpa using h2⟩
theorem by_mem {g : Gram} {v x : Int} : x ∈ by_ g v ↔ ∃ k : Nat, ∃ h : k < g.rules.length, x = (k : Int) ∧ g.rules[k].left = v := by
  rw [by_, byR_mem]; simp
def rightAt (g : Gram) (i : Int) : List Int := (g.rules.getD i.toNat ⟨0, []⟩).right
theorem rightAt_nat {g : Gram} {k : Nat} (h : k < g.rules.length) : rightAt g k = g.rules[k].right := by
  simp [rightAt, List.getD_eq_getElem?_getD, h]
def overBy (f : List Int → List Int) (g : Gram) (v : Int) : List Int := (by_ g v).flatMap fun i => f (rightAt g i)
theorem overBy_mem {f : List Int → List Int} {g : Gram} {v w : Int} : w ∈ overBy f g v ↔ ∃ r ∈ g.rules, r.left = v ∧ w ∈ f r.right := by
  simp only [overBy, List.mem_flatMap]
  constructor
  · rintro ⟨i, hi, hw⟩
    obtain ⟨k, h, rfl, hl⟩ := by_mem.1 hi
    rw [rightAt_nat h] at hw
    exact ⟨_, List.getElem_mem h, hl, hw⟩
  · rintro ⟨r, hr, hl, hw⟩
    obtain ⟨k, h, rfl⟩ := List.getElem_of_mem hr
    exact ⟨k, by_mem.2 ⟨k, h, rfl, hl⟩, by rw [rightAt_nat h]; exact hw⟩
theorem flatMap_le {f : Int → List Int} {B : Nat} : ∀ {l : List Int}, (∀ x ∈ l, (f x).length ≤ B) → (l.flatMap f).length ≤ l.length * B
  | [], _ => by simp
  | x :: l, h => by
    have := h x (by simp)
    have := flatMap_le (f := f) (B := B) (l := l) (fun y hy => h y (by simp [hy]))
    simp only [List.flatMap_cons, List.length_append, List.length_cons, Nat.add_mul]; omega
theorem overBy_le {f : List Int → List Int} {g : Gram} (hg : g.ok) (hf : ∀ xs : List Int, (f xs).length ≤ xs.length) (v : Int) : (overBy f g v).length ≤ 1600 := by
  have h1 : (overBy f g v).length ≤ (by_ g v).length * 10 := flatMap_le fun x hx => by
    obtain ⟨k, h, rfl, _⟩ := by_mem.1 hx
    rw [rightAt_nat h]
    have := hf g.rules[k].right
    have := hg.right _ (List.getElem_mem h)
    omega
  have h2 := byR_le v g.rules 0
  have h3 := hg.rules
  have : (by_ g v).length * 10 ≤ 160 * 10 := Nat.mul_le_mul_right _ (by unfold by_; omega)
  omega
/-- What is reached is what such a search finds. -/
theorem reach_whole {g : Gram} (hg : g.ok) : Whole (overBy kids g) [g.start] (reachOf g) := by
  refine ⟨fun w hw => ?_, fun u hu w hw => ?_, fun S hl h0 hS => ?_⟩
  · rw [List.mem_singleton.1 hw]; exact reachOf_start hg
  · obtain ⟨r, hr, rfl, hw'⟩ := overBy_mem.1 hw
    exact reachOf_goes hg r hr hu w hw'
  · refine reachOf_least (by rw [hl, reachOf_len]) (h0 _ (by simp)) (fun r hr h v hv => ?_)
    exact hS _ h v (overBy_mem.2 ⟨r, hr, rfl, hv⟩)

/-! ### Where a rule leads -/
def pickAt (null : List Bool) (c : Bool) (right : List Int) (k : Nat) : Bool := decide (0 ≤ right.getD k 0) && (inAll (right.take k) null && (c || inAll (right.drop (k + 1)) null))
def picks (null : List Bool) (c : Bool) (right : List Int) : Nat → List Int
  | 0 => []
  | k + 1 => picks null c right k ++ (if pickAt null c right k = true then [right.getD k 0] else [])
def picksAll (null : List Bool) (c : Bool) (right : List Int) : List Int := picks null c right right.length
theorem picks_le (null : List Bool) (c : Bool) (right : List Int) : ∀ k, (picks null c right k).length ≤ k
  | 0 => Nat.le_refl _
  | k + 1 => by
    have := picks_le null c right k
    rw [picks, List.length_append]; split <;> simp <;> omega
theorem picks_mem {null : List Bool} {c : Bool} {right : List Int} {w : Int} : ∀ {k : Nat}, w ∈ picks null c right k ↔ ∃ j, j < k ∧ pickAt null c right j = true ∧ w = right.getD j 0
  | 0 => by simp [picks]
  | k + 1 => by
    rw [picks, List.mem_append, picks_mem]
    constructor
    · rintro (⟨j, h1, h2, h3⟩ | h)
      · exact ⟨j, by omega, h2, h3⟩
      · split at h
        · rename_i hp; exact ⟨k, by omega, hp, by simpa using h⟩
        · cases h
    · rintro ⟨j, h1, h2, h3⟩
      by_cases e : j = k
      · subst e; right; rw [if_pos h2]; simp [h3]
      · exact .inl ⟨j, by omega, h2, h3⟩
theorem picksAll_in {null : List Bool} {c : Bool} {right : List Int} {w : Int} (h : w ∈ picksAll null c right) : w ∈ right ∧ 0 ≤ w := by
  obtain ⟨j, h1, h2, rfl⟩ := picks_mem.1 h
  simp only [pickAt, Bool.and_eq_true, decide_eq_true_eq] at h2
  refine ⟨?_, h2.1⟩
  rw [List.getD_eq_getElem?_getD, List.getElem?_eq_getElem h1]
  exact List.getElem_mem h1
def stepsOf (c : Bool) (g : Gram) (null : List Bool) (v : Int) : List Int := overBy (picksAll null c) g v

/-! ### Rows of sets -/
abbrev Mat := List (List Bool)
def rowM (M : Mat) (u : Int) : List Bool := M.getD u.toNat []
def hasM (M : Mat) (u w : Int) : Bool := decide (0 ≤ u) && has (rowM M u) w
structure Sq (V : Nat) (M : Mat) : Prop where
  len : M.length = V
  row : ∀ r ∈ M, r.length = V
theorem Sq.at {V : Nat} {M : Mat} (h : Sq V M) {u : Int} (h0 : 0 ≤ u) (h1 : u < V) : (rowM M u).length = V := by
  have hl : u.toNat < M.length := by have := h.len; omega
  rw [rowM, List.getD_eq_getElem?_getD, List.getElem?_eq_getElem hl]
  exact h.row _ (List.getElem_mem hl)
theorem hasM_lt {V : Nat} {M : Mat} (h : Sq V M) {u w : Int} (hh : hasM M u w = true) : (0 ≤ u ∧ u < V) ∧ 0 ≤ w ∧ w < V := by
  simp only [hasM, Bool.and_eq_true, decide_eq_true_eq] at hh
  obtain ⟨h0, h1⟩ := hh
  have hu : u < V := by
    rcases Nat.lt_or_ge u.toNat M.length with h2 | h2
    · have := h.len; omega
    · rw [rowM, List.getD_eq_getElem?_getD, List.getElem?_eq_none h2] at h1
      have := (has_lt h1).2; have := (has_lt h1).1; simp at *; omega
  have h3 := has_lt h1
  rw [h.at h0 hu] at h3
  exact ⟨⟨h0, hu⟩, h3⟩
def addM (u w : Int) (M : Mat) : Mat := M.set u.toNat (put (rowM M u) w)
theorem Sq.add {V : Nat} {M : Mat} (h : Sq V M) {u w : Int} (h0 : 0 ≤ u) (h1 : u < V) : Sq V (addM u w M) := by
  refine ⟨by simpa [addM] using h.len, fun r hr => ?_⟩
  rcases List.mem_or_eq_of_mem_set hr with hr | rfl
  · exact h.row r hr
  · rw [put_length]; exact h.at h0 h1
theorem hasM_add {V : Nat} {M : Mat} (h : Sq V M) {u w : Int} (h0 : 0 ≤ u) (h1 : u < V) (h2 : 0 ≤ w) (h3 : w < V) (a b : Int) : hasM (addM u w M) a b = (hasM M a b || (decide (a = u) && decide (b = w))) := by
  unfold hasM
  by_cases ha : 0 ≤ a
  · simp only [ha, decide_true, Bool.true_and]
    by_cases e : a = u
    · subst e
      have : rowM (addM a w M) a = put (rowM M a) w := by
        have hl : a.toNat < M.length := by have := h.len; omega
        simp [rowM, addM, List.getD_eq_getElem?_getD, hl]
      rw [this, has_put h2 (by rw [h.at h0 h1]; exact h3)]; simp
    · have : rowM (addM u w M) a = rowM M a := by
        simp only [rowM, addM, List.getD_eq_getElem?_getD]
        rw [List.getElem?_set_ne (by omega)]
      rw [this]; simp [e]
  · have : a ≠ u := by omega
    simp [ha, this]
def rowsM (null : List Bool) (c : Bool) (r : Rule) : Nat → Mat → Mat
  | 0, M => M
  | k + 1, M => bif pickAt null c r.right k then addM r.left (r.right.getD k 0) (rowsM null c r k M) else rowsM null c r k M
def matM (null : List Bool) (c : Bool) : List Rule → Mat → Mat
  | [], M => M
  | r :: rs, M => matM null c rs (rowsM null c r r.right.length M)
theorem rowsM_spec {null : List Bool} {c : Bool} {r : Rule} {V : Nat} {M : Mat} (h : Sq V M) (h0 : 0 ≤ r.left) (h1 : r.left < V) (hr : ∀ w ∈ r.right, w < V) : ∀ k, k ≤ r.right.length → Sq V (rowsM null c r k M) ∧ ∀ a b, hasM (rowsM null c r k M) a b = (hasM M a b || (decide (a = r.left) && decide (b ∈ picks null c r.right k)))
  | 0, _ => ⟨h, fun a b => by simp [rowsM, picks]⟩
  | k + 1, hk => by
    obtain ⟨i1, i2⟩ := rowsM_spec h h0 h1 hr k (by omega)
    rw [rowsM, picks]
    cases hp : pickAt null c r.right k with
    | false => refine ⟨i1, fun a b => ?_⟩; simpa using i2 a b
    | true =>
      have hp' := hp
      simp only [pickAt, Bool.and_eq_true, decide_eq_true_eq] at hp'
      have hm : r.right.getD k 0 < V := by
        rw [List.getD_eq_getElem?_getD, List.getElem?_eq_getElem (by omega)]
        exact hr _ (List.getElem_mem _)
      refine ⟨i1.add h0 h1, fun a b => ?_⟩
      rw [cond_true, hasM_add i1 h0 h1 hp'.1 hm, i2, if_pos rfl, Bool.or_assoc]
      congr 1
      rw [← Bool.and_or_distrib_left]
      congr 1
      rw [Bool.eq_iff_iff]; simp
theorem matM_spec {null : List Bool} {c : Bool} {V : Nat} : ∀ {rs : List Rule} {M : Mat}, Sq V M → (∀ r ∈ rs, 0 ≤ r.left ∧ r.left < V ∧ ∀ w ∈ r.right, w < V) → Sq V (matM null c rs M) ∧ ∀ a b, hasM (matM null c rs M) a b = true ↔ hasM M a b = true ∨ ∃ r ∈ rs, r.left = a ∧ b ∈ picksAll null c r.right
  | [], M, h, _ => ⟨h, fun a b => by simp [matM]⟩
  | r :: rs, M, h, hr => by
    obtain ⟨a1, a2, a3⟩ := hr r (by simp)
    obtain ⟨i1, i2⟩ := rowsM_spec (null := null) (c := c) h a1 a2 a3 r.right.length (Nat.le_refl _)
    obtain ⟨j1, j2⟩ := matM_spec (null := null) (c := c) (rs := rs) i1 (fun q hq => hr q (by simp [hq]))
    refine ⟨j1, fun a b => ?_⟩
    rw [matM, j2, i2]
    simp only [Bool.or_eq_true, Bool.and_eq_true, decide_eq_true_eq, List.mem_cons, picksAll]
    constructor
    · rintro ((h | ⟨rfl, h⟩) | ⟨q, hq, h⟩)
      · exact .inl h
      · exact .inr ⟨r, .inl rfl, rfl, h⟩
      · exact .inr ⟨q, .inr hq, h⟩
    · rintro (h | ⟨q, rfl | hq, h⟩)
      · exact .inl (.inl h)
      · exact .inl (.inr ⟨h.1.symm, h.2⟩)
      · exact .inr ⟨q, hq, h⟩

/-! ### Closed -/
def orL (a b : List Bool) : List Bool := List.zipWith (· || ·) a b
theorem orL_length {a b : List Bool} (h : a.length = b.length) : (orL a b).length = a.length := by simp [orL, h]
theorem has_orL {a b : List Bool} (h : a.length = b.length) (w : Int) : has (orL a b) w = (has a w || has b w) := by
  unfold has orL
  by_cases h0 : 0 ≤ w
  · simp only [h0, decide_true, Bool.true_and, List.getD_eq_getElem?_getD, List.getElem?_zipWith]
    rcases Nat.lt_or_ge w.toNat a.length with hl | hl
    · rw [List.getElem?_eq_getElem hl, List.getElem?_eq_getElem (by omega)]; simp
    · rw [List.getElem?_eq_none hl, List.getElem?_eq_none (by omega)]; simp
  · simp [h0]
theorem orL_self (a : List Bool) : orL a a = a := by
  refine List.ext_getElem (by simp [orL]) fun i h1 h2 => by simp [orL]
theorem setN_or {a b : List Bool} (h : a.length = b.length) : setN (orL a b) = setN a ||| setN b := by
  apply Nat.eq_of_testBit_eq
  intro j
  rw [setN_bit, Nat.testBit_or, setN_bit, setN_bit, ← has_nat, ← has_nat, ← has_nat, has_orL h]
def rowK (R : List Bool) (k : Nat) (row : List Bool) : List Bool := bif has row k then orL row R else row
def stepK (k : Nat) (M : Mat) : Mat := M.map (rowK (rowM M k) k)
def closeK : Nat → Mat → Mat
  | 0, M => M
  | k + 1, M => stepK k (closeK k M)
theorem Sq.stepK {V k : Nat} {M : Mat} (h : Sq V M) (hk : k < V) : Sq V (stepK k M) := by
  refine ⟨by simpa [Proofs.Ytpaeihifcmohkaa.stepK] using h.len, fun r hr => ?_⟩
  obtain ⟨q, hq, rfl⟩ := List.mem_map.1 hr
  have h1 := h.row q hq
  have h2 := h.at (u := (k : Int)) (by omega) (by omega)
  unfold rowK
  cases has q k with
  | true => rw [cond_true, orL_length (by rw [h1, h2]), h1]
  | false => exact h1
theorem hasM_stepK {V k : Nat} {M : Mat} (h : Sq V M) (hk : k < V) (a b : Int) : hasM (stepK k M) a b = (hasM M a b || (hasM M a k && hasM M k b)) := by
  unfold hasM
  by_cases ha : 0 ≤ a
  · have hk0 : (0 : Int) ≤ (k : Int) := by omega
    simp only [ha, hk0, decide_true, Bool.true_and]
    rcases Nat.lt_or_ge a.toNat M.length with hl | hl
    · have e : rowM (stepK k M) a = rowK (rowM M k) k (rowM M a) := by
        simp [rowM, Proofs.Ytpaeihifcmohkaa.stepK, List.getD_eq_getElem?_getD, hl]
      have h1 := h.at (u := a) ha (by have := h.len; omega)
      have h2 := h.at (u := (k : Int)) (by omega) (by omega)
      rw [e, rowK]
      cases has (rowM M a) k with
      | true => rw [cond_true, has_orL (by rw [h1, h2])]; simp
      | false => simp
    · have e : rowM (stepK k M) a = rowM M a := by
        simp only [rowM, Proofs.Ytpaeihifcmohkaa.stepK, List.getD_eq_getElem?_getD]
        rw [List.getElem?_eq_none (by simpa using hl), List.getElem?_eq_none hl]
      have e2 : rowM M a = [] := by
        simp only [rowM, List.getD_eq_getElem?_getD]
        rw [List.getElem?_eq_none hl]; rfl
      have e3 : has [] (k : Int) = false := by simp [has]
      rw [e, e2, e3]; simp
  · simp [ha]
theorem Sq.closeK {V : Nat} {M : Mat} (h : Sq V M) : ∀ k, k ≤ V → Sq V (closeK k M)
  | 0, _ => h
  | k + 1, hk => (Sq.closeK h k (by omega)).stepK (by omega)
theorem closeK_mono {V : Nat} {M : Mat} (h : Sq V M) {a b : Int} (hh : hasM M a b = true) : ∀ k, k ≤ V → hasM (closeK k M) a b = true
  | 0, _ => hh
  | k + 1, hk => by rw [closeK, hasM_stepK (h.closeK k (by omega)) (by omega), closeK_mono h hh k (by omega)]; rfl
theorem closeK_trans {V : Nat} {M : Mat} (h : Sq V M) : ∀ k, k ≤ V → ∀ (m : Nat), m < k → ∀ a b, hasM (closeK k M) a m = true → hasM (closeK k M) m b = true → hasM (closeK k M) a b = true
  | 0, _, m, hm => by omega
  | k + 1, hk, m, hm => by
    intro a b h1 h2
    have ih := closeK_trans h k (by omega)
    have hs := hasM_stepK (h.closeK k (by omega)) (k := k) (by omega)
    simp only [closeK, hs, Bool.or_eq_true, Bool.and_eq_true] at h1 h2 ⊢
    by_cases e : m = k
    · subst e
      have g1 : hasM (Proofs.Ytpaeihifcmohkaa.closeK m M) a m = true := h1.elim id And.left
      have g2 : hasM (Proofs.Ytpaeihifcmohkaa.closeK m M) m b = true := h2.elim id And.right
      exact .inr ⟨g1, g2⟩
    · have hm' : m < k := by omega
      rcases h1 with h1 | ⟨h1, h1'⟩ <;> rcases h2 with h2 | ⟨h2, h2'⟩
      · exact .inl (ih m hm' a b h1 h2)
      · exact .inr ⟨ih m hm' a k h1 h2, h2'⟩
      · exact .inr ⟨h1, ih m hm' k b h1' h2⟩
      · exact .inr ⟨h1, h2'⟩
theorem closeK_sound {V : Nat} {M : Mat} (h : Sq V M) : ∀ k, k ≤ V → ∀ (a : Int) (S : List Bool), (∀ w, hasM M a w = true → has S w = true) → (∀ u, has S u = true → ∀ w, hasM M u w = true → has S w = true) → ∀ w, hasM (closeK k M) a w = true → has S w = true
  | 0, _, a, S, h1, _, w, hw => h1 w hw
  | k + 1, hk, a, S, h1, h2, w, hw => by
    have ih := closeK_sound h k (by omega)
    rw [closeK, hasM_stepK (h.closeK k (by omega)) (by omega), Bool.or_eq_true, Bool.and_eq_true] at hw
    rcases hw with hw | ⟨g1, g2⟩
    · exact ih a S h1 h2 w hw
    · exact ih k S (h2 k (ih a S h1 h2 k g1)) h2 w g2
def noneM (g : Gram) : Mat := List.replicate g.vars.toNat (none_ g)
theorem noneM_sq (g : Gram) : Sq g.vars.toNat (noneM g) := ⟨by simp [noneM], fun r hr => by rw [(List.mem_replicate.1 hr).2, none_length]⟩
theorem noneM_has (g : Gram) (a b : Int) : hasM (noneM g) a b = false := by
  unfold hasM rowM noneM
  by_cases h : a.toNat < g.vars.toNat
  · simp [List.getD_eq_getElem?_getD, List.getElem?_replicate, h, none_has]
  · simp [List.getD_eq_getElem?_getD, List.getElem?_replicate, h, has]
def oneM (c : Bool) (g : Gram) : Mat := matM (leftsOf false g) c g.rules (noneM g)
def ledM (c : Bool) (g : Gram) : Mat := closeK g.vars.toNat (oneM c g)
theorem rules_in {g : Gram} (hg : g.ok) : ∀ r ∈ g.rules, 0 ≤ r.left ∧ r.left < (g.vars.toNat : Int) ∧ ∀ w ∈ r.right, w < (g.vars.toNat : Int) := fun r hr => by
  have := hg.left0 r hr
  have := hg.left r hr
  exact ⟨by omega, by omega, fun w hw => by have := hg.hi r hr w hw; omega⟩
theorem oneM_sq {c : Bool} {g : Gram} (hg : g.ok) : Sq g.vars.toNat (oneM c g) := (matM_spec (noneM_sq g) (rules_in hg)).1
theorem oneM_has {c : Bool} {g : Gram} (hg : g.ok) (u w : Int) : hasM (oneM c g) u w = true ↔ w ∈ stepsOf c g (leftsOf false g) u := by
  rw [oneM, (matM_spec (noneM_sq g) (rules_in hg)).2, noneM_has, stepsOf, overBy_mem]
  simp
theorem ledM_sq {c : Bool} {g : Gram} (hg : g.ok) : Sq g.vars.toNat (ledM c g) := (oneM_sq hg).closeK _ (Nat.le_refl _)
/-- Where a nonterminal leads is what a search finds. -/
theorem led_whole {c : Bool} {g : Gram} (hg : g.ok) {v : Int} (h0 : 0 ≤ v) (h1 : v < g.vars) : Whole (stepsOf c g (leftsOf false g)) (stepsOf c g (leftsOf false g) v) (rowM (ledM c g) v) := by
  have hq := oneM_sq (c := c) hg
  have hr : ∀ w, has (rowM (ledM c g) v) w = hasM (ledM c g) v w := fun w => by simp [hasM, h0]
  refine ⟨fun w hw => ?_, fun u hu w hw => ?_, fun S hl hS1 hS2 => ⟨hl.symm, fun w hw => ?_⟩⟩
  · rw [hr]; exact closeK_mono hq ((oneM_has hg _ _).2 hw) _ (Nat.le_refl _)
  · rw [hr] at hu ⊢
    obtain ⟨_, b1, b2⟩ := hasM_lt (ledM_sq hg) hu
    obtain ⟨k, rfl⟩ : ∃ k : Nat, u = (k : Int) := ⟨u.toNat, by omega⟩
    exact closeK_trans hq _ (Nat.le_refl _) k (by omega) v w hu (closeK_mono hq ((oneM_has hg _ _).2 hw) _ (Nat.le_refl _))
  · rw [hr] at hw
    exact closeK_sound hq _ (Nat.le_refl _) v S (fun x hx => hS1 x ((oneM_has hg _ _).1 hx)) (fun u hu x hx => hS2 u hu x ((oneM_has hg _ _).1 hx)) w hw
end Go.Proofs.Ytpaeihifcmohkaa
