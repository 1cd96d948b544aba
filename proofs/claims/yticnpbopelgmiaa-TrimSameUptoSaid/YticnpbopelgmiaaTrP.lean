/-
  Trim, plain: what trim.Make makes, and that it is a step. Trim, plain: what is made has nothing that no tree has; made once more it is the same.
-/
import Derived.Test.YticnpbopelgmiaaF2
import Derived.Test.YticnpbopelgmiaaP1
set_option linter.unusedVariables false
set_option linter.unusedSimpArgs false
set_option linter.unusedSectionVars false
namespace Go.Proofs.Yticnpbopelgmiaa
open Go.RowKit

def rOk (K : List Bool) (r : Rule) : Bool := has K r.left && inAll (kids r.right) K
def goodB (g : Gram) : List Bool := leftsOf true g
def onlyR (g : Gram) : List Rule := g.rules.filter (rOk (goodB g))
def subG (g : Gram) : Gram := ⟨g.vars, g.terms, g.start, if has (goodB g) g.start = true then onlyR g else []⟩
def keepT (g : Gram) : List Bool := reachOf (subG g)
def stay (g : Gram) (r : Rule) : Bool := has (goodB g) g.start && (rOk (goodB g) r && has (keepT g) r.left)
/-- The number of a nonterminal that is kept. -/
def rk (K : List Bool) (v : Int) : Int := (listN (setN K) v.toNat).length
def trimS1 (K : List Bool) (s : Int) : Int := if 0 ≤ s then rk K s else s
def trimR (K : List Bool) (r : Rule) : Rule := ⟨rk K r.left, r.right.map (trimS1 K)⟩
def tRules (g : Gram) (rs : List Rule) : List Rule := (rs.filter (stay g)).map (trimR (keepT g))
def tFrags (g : Gram) : List Rule → Nat → List (List Frag)
  | [], _ => []
  | r :: rs, i => if stay g r = true then nodeF i (kids r.right).length :: tFrags g rs (i + 1) else tFrags g rs (i + 1)
def trimOut (g : Gram) : Step := ⟨⟨(listB (keepT g)).length, g.terms, rk (keepT g) g.start, tRules g g.rules⟩, tFrags g g.rules 0, []⟩
def trimS (g : Gram) : Step × Fault := if (gramFault g).code = 0 then (trimOut g, ⟨0, 0⟩) else (zeroStep, gramFault g)
theorem tRules_snoc {g : Gram} {rs : List Rule} {i : Nat} (h : i < rs.length) : tRules g (rs.take (i + 1)) = tRules g (rs.take i) ++ (if stay g rs[i] = true then [trimR (keepT g) rs[i]] else []) := by
  rw [List.take_succ_eq_append_getElem h, tRules, tRules, List.filter_append, List.map_append]
  congr 1
  by_cases hs : stay g rs[i] = true <;> simp [hs]
theorem tFrags_append (g : Gram) : ∀ (a b : List Rule) (i : Nat), tFrags g (a ++ b) i = tFrags g a i ++ tFrags g b (i + a.length)
  | [], b, i => by simp [tFrags]
  | r :: a, b, i => by
    simp only [List.cons_append, tFrags, tFrags_append g a b (i + 1), List.length_cons]
    rw [show i + 1 + a.length = i + (a.length + 1) by omega]
    split <;> rfl
theorem tFrags_snoc {g : Gram} {rs : List Rule} {i : Nat} (h : i < rs.length) : tFrags g (rs.take (i + 1)) 0 = tFrags g (rs.take i) 0 ++ (if stay g rs[i] = true then [nodeF i (kids rs[i].right).length] else []) := by
  rw [List.take_succ_eq_append_getElem h, tFrags_append]
  congr 1
  simp only [tFrags, List.length_take, Nat.zero_add]
  rw [Nat.min_eq_left (by omega)]
theorem tLen (g : Gram) : ∀ (rs : List Rule) (i : Nat), (tFrags g rs i).length = (tRules g rs).length
  | [], _ => rfl
  | r :: rs, i => by
    have ih := tLen g rs (i + 1)
    unfold tRules at ih ⊢
    rw [tFrags]
    by_cases hs : stay g r = true
    · rw [if_pos hs, List.filter_cons_of_pos hs]; simp only [List.map_cons, List.length_cons, ih]
    · rw [if_neg hs, List.filter_cons_of_neg hs]; exact ih

/-! ### Numbers -/
theorem listB_listN (K : List Bool) : listB K = listN (setN K) K.length := (listN_set (Nat.le_refl _)).symm
theorem listN_split (s : Nat) {n m : Nat} (h : n ≤ m) : ∃ r, listN s m = listN s n ++ r := by
  obtain ⟨d, rfl⟩ : ∃ d, m = n + d := ⟨m - n, by omega⟩
  clear h
  induction d with
  | zero => exact ⟨[], by simp⟩
  | succ d ih =>
    obtain ⟨r, hr⟩ := ih
    exact ⟨r ++ (if s.testBit (n + d) = true then [((n + d : Nat) : Int)] else []), by rw [← Nat.add_assoc, listN_snoc, hr, List.append_assoc]⟩
theorem listN_lt {s n : Nat} {x : Int} (h : x ∈ listN s n) : 0 ≤ x ∧ x < n := by
  unfold listN at h
  obtain ⟨k, hk, rfl⟩ := List.mem_map.1 h
  have := List.mem_range.1 (List.mem_filter.1 hk).1
  omega
theorem listB_at {K : List Bool} {v : Int} (h : has K v = true) : ∃ r, listB K = listN (setN K) v.toNat ++ v :: r := by
  obtain ⟨h0, h1⟩ := has_lt h
  obtain ⟨k, rfl⟩ : ∃ k : Nat, v = (k : Int) := ⟨v.toNat, by omega⟩
  obtain ⟨r, hr⟩ := listN_split (setN K) (show k + 1 ≤ K.length by omega)
  rw [has_nat] at h
  rw [listN_snoc (setN K) k, setN_bit, h, if_pos rfl, List.append_assoc] at hr
  exact ⟨r, by rw [listB_listN, hr]; rfl⟩
theorem idx_skip {p : Int → Bool} {x : Int} {r : List Int} (hx : p x = true) : ∀ (a : List Int) (i : Nat), (∀ y ∈ a, p y = false) → idxR p (a ++ x :: r) i = ((i + a.length : Nat) : Int)
  | [], i, _ => by simp [idxR, hx]
  | y :: a, i, h => by
    rw [List.cons_append, idxR, h y (by simp), cond_false, idx_skip hx a (i + 1) (fun z hz => h z (by simp [hz]))]
    congr 1
    simp only [List.length_cons]; omega
theorem idx_rk {K : List Bool} {v : Int} (h : has K v = true) : idxR (fun y => decide (v = y)) (listB K) 0 = rk K v := by
  obtain ⟨r, hr⟩ := listB_at h
  have h0 := (has_lt h).1
  rw [hr, idx_skip (by simp) _ _ (fun y hy => decide_eq_false (by have := (listN_lt hy).2; omega))]
  simp [rk]
theorem rk_lt {K : List Bool} {v : Int} (h : has K v = true) : 0 ≤ rk K v ∧ rk K v < (listB K).length := by
  obtain ⟨r, hr⟩ := listB_at h
  rw [hr, rk]; simp; omega
theorem trim_kids (K : List Bool) : ∀ xs : List Int, (kids (xs.map (trimS1 K))).length = (kids xs).length
  | [] => rfl
  | x :: xs => by
    have ih := trim_kids K xs
    unfold kids at ih ⊢
    rw [List.map_cons]
    by_cases h : 0 ≤ x
    · have h2 : 0 ≤ trimS1 K x := by rw [trimS1, if_pos h]; unfold rk; omega
      rw [List.filter_cons_of_pos (by simpa using h2), List.filter_cons_of_pos (by simpa using h)]
      simp [ih]
    · have h2 : ¬ 0 ≤ trimS1 K x := by rw [trimS1, if_neg h]; exact h
      rw [List.filter_cons_of_neg (by simpa using h2), List.filter_cons_of_neg (by simpa using h)]
      exact ih

/-! ### A step -/
theorem subG_ok {g : Gram} (hg : g.ok) : (subG g).ok := by
  have hs : ∀ r ∈ (subG g).rules, r ∈ g.rules := fun r hr => by
    unfold subG at hr
    dsimp only at hr
    split at hr
    · exact (List.mem_filter.1 hr).1
    · cases hr
  have hl : (subG g).rules.length ≤ g.rules.length := by
    unfold subG
    dsimp only
    split
    · exact List.length_filter_le _ _
    · simp
  have := hg.rules
  exact ⟨hg.vars1, hg.vars, hg.terms0, hg.terms, hg.start0, hg.start, by omega, fun r hr => hg.right r (hs r hr), fun r hr => hg.left0 r (hs r hr), fun r hr => hg.left r (hs r hr), fun r hr => hg.lo r (hs r hr), fun r hr => hg.hi r (hs r hr)⟩
theorem keep_len (g : Gram) : (keepT g).length = g.vars.toNat := reachOf_len (subG g)
theorem keep_start {g : Gram} (hg : g.ok) : has (keepT g) g.start = true := reachOf_start (subG_ok hg)
theorem keep_goes {g : Gram} (hg : g.ok) {r : Rule} (hr : r ∈ g.rules) (hs : stay g r = true) : ∀ v ∈ kids r.right, has (keepT g) v = true := by
  simp only [stay, Bool.and_eq_true] at hs
  refine reachOf_goes (subG_ok hg) r ?_ hs.2.2
  show r ∈ (if has (goodB g) g.start = true then onlyR g else [])
  rw [if_pos hs.1]
  exact List.mem_filter.2 ⟨hr, hs.2.1⟩
theorem trim_parts {g : Gram} (hg : g.ok) : ∀ (rs : List Rule) (i : Nat), (∀ r ∈ rs, r ∈ g.rules) → i + rs.length ≤ g.rules.length → PartsOk g (tFrags g rs i) (tRules g rs)
  | [], _, _, _ => .nil
  | r :: rs, i, h, hi => by
    simp only [List.length_cons] at hi
    have ih := trim_parts hg rs (i + 1) (fun q hq => h q (by simp [hq])) (by omega)
    unfold tRules at ih ⊢
    rw [tFrags]
    by_cases hs : stay g r = true
    · rw [if_pos hs, List.filter_cons_of_pos hs, List.map_cons]
      refine .cons ?_ ih
      have hk := trim_kids (keepT g) r.right
      have h10 := hg.right r (h r (by simp))
      have hkl := kids_le r.right
      show partFault g (nodeF i (kids r.right).length) (r.right.map (trimS1 (keepT g))) = 0
      rw [← hk]
      exact part_node (by omega) (by omega)
    · rw [if_neg hs, List.filter_cons_of_neg hs]; exact ih
theorem trimOut_ok {g : Gram} (hg : g.ok) : (trimOut g).g.ok := by
  have hl := listB_le (keepT g)
  have hkl := keep_len g
  have hv := hg.vars
  have hs := rk_lt (keep_start hg)
  have hm : ∀ r ∈ (trimOut g).g.rules, ∃ q ∈ g.rules, stay g q = true ∧ r = trimR (keepT g) q := fun r hr => by
    obtain ⟨q, hq, rfl⟩ := List.mem_map.1 hr
    obtain ⟨h1, h2⟩ := List.mem_filter.1 hq
    exact ⟨q, h1, h2, rfl⟩
  have hrl : (trimOut g).g.rules.length ≤ g.rules.length := by
    show ((g.rules.filter (stay g)).map (trimR (keepT g))).length ≤ _
    rw [List.length_map]; exact List.length_filter_le _ _
  have := hg.rules
  have hK : (trimOut g).g.vars = ((listB (keepT g)).length : Int) := rfl
  have hleft : ∀ r ∈ (trimOut g).g.rules, 0 ≤ r.left ∧ r.left < (trimOut g).g.vars := fun r hr => by
    obtain ⟨q, h1, h2, rfl⟩ := hm r hr
    simp only [stay, Bool.and_eq_true] at h2
    exact rk_lt h2.2.2
  have hsym : ∀ r ∈ (trimOut g).g.rules, ∀ s ∈ r.right, -g.terms ≤ s ∧ s < (trimOut g).g.vars := fun r hr s hs => by
    obtain ⟨q, h1, h2, rfl⟩ := hm r hr
    obtain ⟨x, hx, rfl⟩ := List.mem_map.1 hs
    have ht := hg.terms0
    by_cases h0 : 0 ≤ x
    · rw [trimS1, if_pos h0]
      have := rk_lt (keep_goes hg h1 h2 x (by simp [kids, hx, h0]))
      rw [hK]; omega
    · rw [trimS1, if_neg h0]
      have := hg.lo q h1 x hx
      rw [hK]; omega
  refine ⟨by rw [hK]; omega, by rw [hK]; omega, hg.terms0, hg.terms, hs.1, hs.2, by omega, fun r hr => ?_, fun r hr => (hleft r hr).1, fun r hr => (hleft r hr).2, fun r hr s hs => (hsym r hr s hs).1, fun r hr s hs => (hsym r hr s hs).2⟩
  obtain ⟨q, h1, h2, rfl⟩ := hm r hr
  show (q.right.map _).length ≤ 10
  rw [List.length_map]; exact hg.right q h1
theorem trim_step {g : Gram} (hg : g.ok) : stepFault g (trimOut g) = ⟨0, 0⟩ :=
  step_ok hg (trimOut_ok hg) rfl (trim_parts hg g.rules 0 (fun _ h => h) (by omega))
end Go.Proofs.Yticnpbopelgmiaa
namespace Go.Proofs.Yticnpbopelgmiaa
open Go.RowKit

theorem rk_zero (K : List Bool) : rk K ((0 : Nat) : Int) = 0 := by simp [rk, listN]
theorem rk_next (K : List Bool) (k : Nat) : rk K ((k + 1 : Nat) : Int) = rk K (k : Int) + (if has K k = true then 1 else 0) := by
  unfold rk
  rw [Int.toNat_natCast, Int.toNat_natCast, listN_snoc, has_nat, setN_bit]
  split <;> simp
theorem rk_all (K : List Bool) : rk K (K.length : Nat) = (listB K).length := by rw [rk, Int.toNat_natCast, listB_listN]
theorem rk_surj {K : List Bool} : ∀ (n : Nat) (u : Int), 0 ≤ u → u < rk K (n : Int) → ∃ v, has K v = true ∧ rk K v = u
  | 0, u, h0, h => by rw [rk_zero] at h; omega
  | n + 1, u, h0, h => by
    rw [rk_next] at h
    by_cases hb : has K n = true
    · rw [if_pos hb] at h
      by_cases e : u = rk K n
      · exact ⟨n, hb, e.symm⟩
      · exact rk_surj n u h0 (by omega)
    · rw [if_neg hb] at h
      exact rk_surj n u h0 (by omega)
theorem rk_one {K : List Bool} {s : Nat} (h : ∀ v : Int, has K v = true ↔ v = s) : ∀ k : Nat, rk K (k : Int) = if k ≤ s then 0 else 1
  | 0 => by rw [rk_zero]; simp
  | k + 1 => by
    rw [rk_next, rk_one h k]
    by_cases e : k = s
    · subst e
      have ht : has K (k : Int) = true := (h _).2 rfl
      rw [if_pos ht, if_pos (Nat.le_refl _), if_neg (by omega)]; rfl
    · have hf : ¬ has K (k : Int) = true := fun hh => e (by have := (h _).1 hh; omega)
      rw [if_neg hf]
      by_cases h2 : k ≤ s
      · rw [if_pos h2, if_pos (by omega)]; rfl
      · rw [if_neg h2, if_neg (by omega)]; rfl

section
variable {g : Gram} (hg : g.ok)
include hg
theorem trim_vars : ((trimOut g).g.vars.toNat : Int) = rk (keepT g) (g.vars.toNat : Int) := by
  have h1 := rk_all (keepT g)
  rw [keep_len] at h1
  rw [h1]
  show (((listB (keepT g)).length : Int).toNat : Int) = _
  omega
theorem bad_keep (hs : ¬ has (goodB g) g.start = true) : ∀ v : Int, has (keepT g) v = true ↔ v = g.start.toNat := by
  have hst := hg.start0
  have hst2 := hg.start
  intro v
  constructor
  · intro h
    have h1 : Sub (keepT g) (put (none_ g) g.start) := reachOf_least (by rw [put_length, none_length]; rfl) (by show has (put (none_ g) g.start) g.start = true; rw [has_put hst (by rw [none_length]; omega)]; simp) (fun r hr => by
      have : (subG g).rules = [] := by
        show (if has (goodB g) g.start = true then onlyR g else []) = []
        rw [if_neg hs]
      rw [this] at hr; cases hr)
    have h2 := h1.sub v h
    rw [has_put hst (by rw [none_length]; omega), none_has] at h2
    have h3 : v = g.start := by simpa using h2
    omega
  · rintro rfl
    rw [show ((g.start.toNat : Nat) : Int) = g.start by omega]
    exact keep_start hg
theorem bad_out (hs : ¬ has (goodB g) g.start = true) : (trimOut g).g = ⟨1, g.terms, 0, []⟩ := by
  have hk := bad_keep hg hs
  have hst := hg.start0
  have hst2 := hg.start
  have h1 := rk_all (keepT g)
  have hkl := keep_len g
  rw [hkl, rk_one hk, if_neg (by omega)] at h1
  have h2 := rk_one hk g.start.toNat
  rw [if_pos (Nat.le_refl _), show ((g.start.toNat : Nat) : Int) = g.start by omega] at h2
  have h3 : tRules g g.rules = [] := by
    have : g.rules.filter (stay g) = [] := List.filter_eq_nil_iff.2 (fun r hr => by
      simp only [stay, Bool.and_eq_true]
      exact fun h => hs h.1)
    rw [tRules, this]; rfl
  show Gram.mk _ _ _ _ = _
  rw [← h1, h2, h3]
end
end Go.Proofs.Yticnpbopelgmiaa
