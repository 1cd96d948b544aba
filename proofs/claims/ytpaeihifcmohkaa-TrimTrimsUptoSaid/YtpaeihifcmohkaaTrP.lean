/-
  Trim, plain: what trim.Make makes, and that it is a step. Trim, plain: what is made has nothing that no tree has; made once more it is the same.
-/
import Derived.Test.YtpaeihifcmohkaaF2
import Derived.Test.YtpaeihifcmohkaaP1
set_option linter.unusedVariables false
set_option linter.unusedSimpArgs false
set_option linter.unusedSectionVars false
namespace Go.Proofs.Ytpaeihifcmohkaa
open Go.RowKit

def rOk (K : List Bool) (r : Rule) : Bool := has K r.left && inAll (kids r.right) K
def goodB (g : Gram) : List Bool := leftsOf true g
def onlyR (g : Gram) : List Rule := g.rules.filter (rOk (goodB g))
def subG (g : Gram) : Gram := ⟨g.vars, g.terms, g.start, if has (goodB g) g.start = true then onlyR g else []⟩
def keepB (g : Gram) : List Bool := reachOf (subG g)
def stay (g : Gram) (r : Rule) : Bool := has (goodB g) g.start && (rOk (goodB g) r && has (keepB g) r.left)
/-- The number of a nonterminal that is kept. -/
def rk (K : List Bool) (v : Int) : Int := (listN (setN K) v.toNat).length
def trimS1 (K : List Bool) (s : Int) : Int := if 0 ≤ s then rk K s else s
def trimR (K : List Bool) (r : Rule) : Rule := ⟨rk K r.left, r.right.map (trimS1 K)⟩
def tRules (g : Gram) (rs : List Rule) : List Rule := (rs.filter (stay g)).map (trimR (keepB g))
def tFrags (g : Gram) : List Rule → Nat → List (List Frag)
  | [], _ => []
  | r :: rs, i => if stay g r = true then nodeF i (kids r.right).length :: tFrags g rs (i + 1) else tFrags g rs (i + 1)
def trimOut (g : Gram) : Step := ⟨⟨(listB (keepB g)).length, g.terms, rk (keepB g) g.start, tRules g g.rules⟩, tFrags g g.rules 0, []⟩
def trimS (g : Gram) : Step × Fault := if (gramFault g).code = 0 then (trimOut g, ⟨0, 0⟩) else (zeroStep, gramFault g)
theorem tRules_snoc {g : Gram} {rs : List Rule} {i : Nat} (h : i < rs.length) : tRules g (rs.take (i + 1)) = tRules g (rs.take i) ++ (if stay g rs[i] = true then [trimR (keepB g) rs[i]] else []) := by
  rw [List.take_succ_eq_append_getElem h, tRules, tRules, List.filter_append, List.map_append]
  congr 1
  by_cases hs : stay g rs[i] = true <;> simp [hs]
theorem tFrags_append (g : Gram) : ∀ (a b : List Rule) (i : Nat), tFrags g (a ++ b) i = tFrags g a i ++ tFrags g b (i + a.length)
  | [], b, i => by simp [tFrags]
  | r :: a, b, i => by
    simp only [List.cons_append, tFrags, tFrags_append g a b (i + 1), List.length_cons]
    rw [show i + 1 + a.length = i + (a.length + 1) by omega]
    split <;> rfl
theorem tFrags_snoc {g : Gram} {rs : List Rule} {i : Nat} (h : i < rs.length) : tFrags g (rs.take (i + 1)) 0 = tFrags g (rs.take i) 0 ++ (if stay g rs[i] = true then [nodeF i (kids rs[i].right).length] else []) := by
  rw [List.take_succ_eq_append_getElem h, tFrags_append]
  congr 1
  simp only [tFrags, List.length_take, Nat.zero_add]
  rw [Nat.min_eq_left (by omega)]
theorem tLen (g : Gram) : ∀ (rs : List Rule) (i : Nat), (tFrags g rs i).length = (tRules g rs).length
  | [], _ => rfl
  | r :: rs, i => by
    have ih := tLen g rs (i + 1)
    unfold tRules at ih ⊢
    rw [tFrags]
    by_cases hs : stay g r = true
    · rw [if_pos hs, List.filter_cons_of_pos hs]; simp only [List.map_cons, List.length_cons, ih]
    · rw [if_neg hs, List.filter_cons_of_neg hs]; exact ih

/-! ### Numbers -/
theorem listB_listN (K : List Bool) : listB K = listN (setN K) K.length := (listN_set (Nat.le_refl _)).symm
theorem listN_split (s : Nat) {n m : Nat} (h : n ≤ m) : ∃ r, listN s m = listN s n ++ r := by
  obtain ⟨d, rfl⟩ : ∃ d, m = n + d := ⟨m - n, by omega⟩
  clear h
  induction d with
  | zero => exact ⟨[], by simp⟩
  | succ d ih =>
    obtain ⟨r, hr⟩ := ih
    exact ⟨r ++ (if s.testBit (n + d) = true then [((n + d : Nat) : Int)] else []), by rw [← Nat.add_assoc, listN_snoc, hr, List.append_assoc]⟩
theorem listN_lt {s n : Nat} {x : Int} (h : x ∈ listN s n) : 0 ≤ x ∧ x < n := by
  unfold listN at h
  obtain ⟨k, hk, rfl⟩ := List.mem_map.1 h
  have := List.mem_range.1 (List.mem_filter.1 hk).1
  omega
theorem listB_at {K : List Bool} {v : Int} (h : has K v = true) : ∃ r, listB K = listN (setN K) v.toNat ++ v :: r := by
  obtain ⟨h0, h1⟩ := has_lt h
  obtain ⟨k, rfl⟩ : ∃ k : Nat, v = (k : Int) := ⟨v.toNat, by omega⟩
  obtain ⟨r, hr⟩ := listN_split (setN K) (show k + 1 ≤ K.length by omega)
  rw [has_nat] at h
  rw [listN_snoc (setN K) k, setN_bit, h, if_pos rfl, List.append_assoc] at hr
  exact ⟨r, by rw [listB_listN, hr]; rfl⟩
theorem idx_skip {p : Int → Bool} {x : Int} {r : List Int} (hx : p x = true) : ∀ (a : List Int) (i : Nat), (∀ y ∈ a, p y = false) → idxR p (a ++ x :: r) i = ((i + a.length : Nat) : Int)
  | [], i, _ => by simp [idxR, hx]
  | y :: a, i, h => by
    rw [List.cons_append, idxR, h y (by simp), cond_false, idx_skip hx a (i + 1) (fun z hz => h z (by simp [hz]))]
    congr 1
    simp only [List.length_cons]; omega
theorem idx_rk {K : List Bool} {v : Int} (h : has K v = true) : idxR (fun y => decide (v = y)) (listB K) 0 = rk K v := by
  obtain ⟨r, hr⟩ := listB_at h
  have h0 := (has_lt h).1
  rw [hr, idx_skip (by simp) _ _ (fun y hy => decide_eq_false (by have := (listN_lt hy).2; omega))]
  simp [rk]
theorem rk_lt {K : List Bool} {v : Int} (h : has K v = true) : 0 ≤ rk K v ∧ rk K v < (listB K).length := by
  obtain ⟨r, hr⟩ := listB_at h
  rw [hr, rk]; simp; omega
theorem trim_kids (K : List Bool) : ∀ xs : List Int, (kids (xs.map (trimS1 K))).length = (kids xs).length
  | [] => rfl
  | x :: xs => by
    have ih := trim_kids K xs
    unfold kids at ih ⊢
    rw [List.map_cons]
    by_cases h : 0 ≤ x
    · have h2 : 0 ≤ trimS1 K x := by rw [trimS1, if_pos h]; unfold rk; omega
      rw [List.filter_cons_of_pos (by simpa using h2), List.filter_cons_of_pos (by simpa using h)]
      simp [ih]
    · have h2 : ¬ 0 ≤ trimS1 K x := by rw [trimS1, if_neg h]; exact h
      rw [List.filter_cons_of_neg (by simpa using h2), List.filter_cons_of_neg (by simpa using h)]
      exact ih

/-! ### A step -/
theorem subG_ok {g : Gram} (hg : g.ok) : (subG g).ok := by
  have hs : ∀ r ∈ (subG g).rules, r ∈ g.rules := fun r hr => by
    unfold subG at hr
    dsimp only at hr
    split at hr
    · exact (List.mem_filter.1 hr).1
    · cases hr
  have hl : (subG g).rules.length ≤ g.rules.length := by
    unfold subG
    dsimp only
    split
    · exact List.length_filter_le _ _
    · simp
  have := hg.rules
  exact ⟨hg.vars1, hg.vars, hg.terms0, hg.terms, hg.start0, hg.start, by omega, fun r hr => hg.right r (hs r hr), fun r hr => hg.left0 r (hs r hr), fun r hr => hg.left r (hs r hr), fun r hr => hg.lo r (hs r hr), fun r hr => hg.hi r (hs r hr)⟩
theorem keep_len (g : Gram) : (keepB g).length = g.vars.toNat := reachOf_len (subG g)
theorem keep_start {g : Gram} (hg : g.ok) : has (keepB g) g.start = true := reachOf_start (subG_ok hg)
theorem keep_goes {g : Gram} (hg : g.ok) {r : Rule} (hr : r ∈ g.rules) (hs : stay g r = true) : ∀ v ∈ kids r.right, has (keepB g) v = true := by
  simp only [stay, Bool.and_eq_true] at hs
  refine reachOf_goes (subG_ok hg) r ?_ hs.2.2
  show r ∈ (if has (goodB g) g.start = true then onlyR g else [])
  rw [if_pos hs.1]
  exact List.mem_filter.2 ⟨hr, hs.2.1⟩
theorem trim_parts {g : Gram} (hg : g.ok) : ∀ (rs : List Rule) (i : Nat), (∀ r ∈ rs, r ∈ g.rules) → i + rs.length ≤ g.rules.length → PartsOk g (tFrags g rs i) (tRules g rs)
  | [], _, _, _ => .nil
  | r :: rs, i, h, hi => by
    simp only [List.length_cons] at hi
    have ih := trim_parts hg rs (i + 1) (fun q hq => h q (by simp [hq])) (by omega)
    unfold tRules at ih ⊢
    rw [tFrags]
    by_cases hs : stay g r = true
    · rw [if_pos hs, List.filter_cons_of_pos hs, List.map_cons]
      refine .cons ?_ ih
      have hk := trim_kids (keepB g) r.right
      have h10 := hg.right r (h r (by simp))
      have hkl := kids_le r.right
      show partFault g (nodeF i (kids r.right).length) (r.right.map (trimS1 (keepB g))) = 0
      rw [← hk]
      exact part_node (by omega) (by omega)
    · rw [if_neg hs, List.filter_cons_of_neg hs]; exact ih
theorem trimOut_ok {g : Gram} (hg : g.ok) : (trimOut g).g.ok := by
  have hl := listB_le (keepB g)
  have hkl := keep_len g
  have hv := hg.vars
  have hs := rk_lt (keep_start hg)
  have hm : ∀ r ∈ (trimOut g).g.rules, ∃ q ∈ g.rules, stay g q = true ∧ r = trimR (keepB g) q := fun r hr => by
    obtain ⟨q, hq, rfl⟩ := List.mem_map.1 hr
    obtain ⟨h1, h2⟩ := List.mem_filter.1 hq
    exact ⟨q, h1, h2, rfl⟩
  have hrl : (trimOut g).g.rules.length ≤ g.rules.length := by
    show ((g.rules.filter (stay g)).map (trimR (keepB g))).length ≤ _
    rw [List.length_map]; exact List.length_filter_le _ _
  have := hg.rules
  have hK : (trimOut g).g.vars = ((listB (keepB g)).length : Int) := rfl
  have hleft : ∀ r ∈ (trimOut g).g.rules, 0 ≤ r.left ∧ r.left < (trimOut g).g.vars := fun r hr => by
    obtain ⟨q, h1, h2, rfl⟩ := hm r hr
    simp only [stay, Bool.and_eq_true] at h2
    exact rk_lt h2.2.2
  have hsym : ∀ r ∈ (trimOut g).g.rules, ∀ s ∈ r.right, -g.terms ≤ s ∧ s < (trimOut g).g.vars := fun r hr s hs => by
    obtain ⟨q, h1, h2, rfl⟩ := hm r hr
    obtain ⟨x, hx, rfl⟩ := List.mem_map.1 hs
    have ht := hg.terms0
    by_cases h0 : 0 ≤ x
    · rw [trimS1, if_pos h0]
      have := rk_lt (keep_goes hg h1 h2 x (by simp [kids, hx, h0]))
      rw [hK]; omega
    · rw [trimS1, if_neg h0]
      have := hg.lo q h1 x hx
      rw [hK]; omega
  refine ⟨by rw [hK]; omega, by rw [hK]; omega, hg.terms0, hg.terms, hs.1, hs.2, by omega, fun r hr => ?_, fun r hr => (hleft r hr).1, fun r hr => (hleft r hr).2, fun r hr s hs => (hsym r hr s hs).1, fun r hr s hs => (hsym r hr s hs).2⟩
  obtain ⟨q, h1, h2, rfl⟩ := hm r hr
  show (q.right.map _).length ≤ 10
  rw [List.length_map]; exact hg.right q h1
theorem trim_step {g : Gram} (hg : g.ok) : stepFault g (trimOut g) = ⟨0, 0⟩ :=
  step_ok hg (trimOut_ok hg) rfl (trim_parts hg g.rules 0 (fun _ h => h) (by omega))
end Go.Proofs.Ytpaeihifcmohkaa
namespace Go.Proofs.Ytpaeihifcmohkaa
open Go.RowKit

def mkB (n : Nat) (P : Nat → Bool) : List Bool := (List.range n).map P
theorem mkB_len (n : Nat) (P : Nat → Bool) : (mkB n P).length = n := by simp [mkB]
theorem mkB_has {n : Nat} {P : Nat → Bool} {v : Int} : has (mkB n P) v = true ↔ 0 ≤ v ∧ v < n ∧ P v.toNat = true := by
  unfold has mkB
  simp only [Bool.and_eq_true, decide_eq_true_eq, List.getD_eq_getElem?_getD, List.getElem?_map]
  by_cases h : v.toNat < n
  · rw [List.getElem?_range h]; simp only [Option.map_some, Option.getD_some]
    constructor
    · rintro ⟨a, b⟩; exact ⟨a, by omega, b⟩
    · rintro ⟨a, _, b⟩; exact ⟨a, b⟩
  · rw [List.getElem?_eq_none (by simpa using h)]; simp only [Option.map_none, Option.getD_none, Bool.false_eq_true, and_false, false_iff]
    omega
theorem rk_zero (K : List Bool) : rk K ((0 : Nat) : Int) = 0 := by simp [rk, listN]
theorem rk_next (K : List Bool) (k : Nat) : rk K ((k + 1 : Nat) : Int) = rk K (k : Int) + (if has K k = true then 1 else 0) := by
  unfold rk
  rw [Int.toNat_natCast, Int.toNat_natCast, listN_snoc, has_nat, setN_bit]
  split <;> simp
theorem rk_all (K : List Bool) : rk K (K.length : Nat) = (listB K).length := by rw [rk, Int.toNat_natCast, listB_listN]
theorem rk_surj {K : List Bool} : ∀ (n : Nat) (u : Int), 0 ≤ u → u < rk K (n : Int) → ∃ v, has K v = true ∧ rk K v = u
  | 0, u, h0, h => by rw [rk_zero] at h; omega
  | n + 1, u, h0, h => by
    rw [rk_next] at h
    by_cases hb : has K n = true
    · rw [if_pos hb] at h
      by_cases e : u = rk K n
      · exact ⟨n, hb, e.symm⟩
      · exact rk_surj n u h0 (by omega)
    · rw [if_neg hb] at h
      exact rk_surj n u h0 (by omega)
theorem rk_true {K : List Bool} {n : Nat} (h : ∀ k : Nat, k < n → has K k = true) : ∀ k : Nat, k ≤ n → rk K (k : Int) = k
  | 0, _ => by rw [rk_zero]; rfl
  | k + 1, hk => by
    rw [rk_next, rk_true h k (by omega), if_pos (h k (by omega))]; simp
theorem rk_one {K : List Bool} {s : Nat} (h : ∀ v : Int, has K v = true ↔ v = s) : ∀ k : Nat, rk K (k : Int) = if k ≤ s then 0 else 1
  | 0 => by rw [rk_zero]; simp
  | k + 1 => by
    rw [rk_next, rk_one h k]
    by_cases e : k = s
    · subst e
      have ht : has K (k : Int) = true := (h _).2 rfl
      rw [if_pos ht, if_pos (Nat.le_refl _), if_neg (by omega)]; rfl
    · have hf : ¬ has K (k : Int) = true := fun hh => e (by have := (h _).1 hh; omega)
      rw [if_neg hf]
      by_cases h2 : k ≤ s
      · rw [if_pos h2, if_pos (by omega)]; rfl
      · rw [if_neg h2, if_neg (by omega)]; rfl

section
variable {g : Gram} (hg : g.ok)
theorem trim_rule {r : Rule} (hr : r ∈ g.rules) (hs : stay g r = true) : trimR (keepB g) r ∈ (trimOut g).g.rules :=
  List.mem_map.2 ⟨r, List.mem_filter.2 ⟨hr, hs⟩, rfl⟩
theorem trimS1_kids {K : List Bool} {xs : List Int} {v : Int} (h : v ∈ kids xs) : rk K v ∈ kids (xs.map (trimS1 K)) := by
  have h0 := kids_nonneg _ h
  simp only [kids, List.mem_filter, List.mem_map, decide_eq_true_eq]
  exact ⟨⟨v, kids_mem h, by rw [trimS1, if_pos h0]⟩, by unfold rk; omega⟩
theorem trimS1_back {K : List Bool} {xs : List Int} {x : Int} (h : x ∈ kids (xs.map (trimS1 K))) : ∃ y ∈ kids xs, x = rk K y := by
  simp only [kids, List.mem_filter, List.mem_map, decide_eq_true_eq] at h
  obtain ⟨⟨y, hy, rfl⟩, h0⟩ := h
  by_cases h1 : 0 ≤ y
  · exact ⟨y, by simp [kids, hy, h1], by rw [trimS1, if_pos h1]⟩
  · rw [trimS1, if_neg h1] at h0; omega
include hg
theorem only_sub (hs : has (goodB g) g.start = true) : (subG g).rules = onlyR g := by
  show (if has (goodB g) g.start = true then onlyR g else []) = onlyR g
  rw [if_pos hs]
theorem keep_good (hs : has (goodB g) g.start = true) : Sub (keepB g) (goodB g) := by
  refine reachOf_least (leftsOf_len hg) hs (fun r hr _ v hv => ?_)
  rw [only_sub hg hs] at hr
  have h2 := (List.mem_filter.1 hr).2
  simp only [rOk, Bool.and_eq_true, inAll, List.all_eq_true] at h2
  exact h2.2 v hv
theorem trim_reach (hs : has (goodB g) g.start = true) {v : Int} (hv : has (keepB g) v = true) : has (reachOf (trimOut g).g) (rk (keepB g) v) = true := by
  have hT := trimOut_ok hg
  have hS : Sub (keepB g) (mkB g.vars.toNat (fun k => has (keepB g) k && has (reachOf (trimOut g).g) (rk (keepB g) k))) := by
    have hk : ∀ u, has (keepB g) u = true → has (reachOf (trimOut g).g) (rk (keepB g) u) = true → has (mkB g.vars.toNat (fun k => has (keepB g) k && has (reachOf (trimOut g).g) (rk (keepB g) k))) u = true := fun u h1 h2 => by
      have h3 := has_lt h1
      rw [keep_len] at h3
      refine mkB_has.2 ⟨h3.1, h3.2, ?_⟩
      rw [show ((u.toNat : Nat) : Int) = u by omega, h1, h2]; rfl
    refine reachOf_least (mkB_len _ _) (hk _ (keep_start hg) (reachOf_start hT)) (fun r hr hl v hv => ?_)
    rw [only_sub hg hs] at hr
    obtain ⟨h1, h2⟩ := List.mem_filter.1 hr
    obtain ⟨l0, l1, l2⟩ := mkB_has.1 hl
    simp only [Bool.and_eq_true] at l2
    rw [show ((r.left.toNat : Nat) : Int) = r.left by omega] at l2
    have hst : stay g r = true := by simp only [stay, Bool.and_eq_true]; exact ⟨hs, h2, l2.1⟩
    have hkv := keep_goes hg h1 hst v hv
    exact hk v hkv (reachOf_goes hT _ (trim_rule h1 hst) l2.2 _ (trimS1_kids hv))
  have h1 := hS.sub v hv
  obtain ⟨l0, l1, l2⟩ := mkB_has.1 h1
  simp only [Bool.and_eq_true] at l2
  rw [show ((v.toNat : Nat) : Int) = v by omega] at l2
  exact l2.2
theorem trim_good (hs : has (goodB g) g.start = true) {v : Int} (hv : has (keepB g) v = true) : has (goodB (trimOut g).g) (rk (keepB g) v) = true := by
  have hT := trimOut_ok hg
  have hgl : (goodB g).length = g.vars.toNat := leftsOf_len hg
  have hS : Sub (goodB g) (mkB g.vars.toNat (fun k => has (goodB g) k && (!has (keepB g) k || has (goodB (trimOut g).g) (rk (keepB g) k)))) := by
    refine leftsOf_least (mkB_len _ _) (fun r hr hin => ?_)
    simp only [asks, cond_true, inAll, List.all_eq_true] at hin
    have hkid : ∀ v ∈ kids r.right, has (goodB g) v = true ∧ (has (keepB g) v = true → has (goodB (trimOut g).g) (rk (keepB g) v) = true) := fun v hv => by
      obtain ⟨l0, l1, l2⟩ := mkB_has.1 (hin v hv)
      simp only [Bool.and_eq_true, Bool.or_eq_true, Bool.not_eq_true'] at l2
      rw [show ((v.toNat : Nat) : Int) = v by omega] at l2
      exact ⟨l2.1, fun h => by rcases l2.2 with h2 | h2 <;> simp_all⟩
    have hin2 : inAll (asks true r) (goodB g) = true := by
      simp only [asks, cond_true, inAll, List.all_eq_true]; exact fun v hv => (hkid v hv).1
    have hl := leftsOf_holds (t := true) hg r hr hin2
    have hl' := hg.left0 r hr
    have hl2 := hg.left r hr
    refine mkB_has.2 ⟨hl', by omega, ?_⟩
    rw [show ((r.left.toNat : Nat) : Int) = r.left by omega]
    change has (goodB g) r.left = true at hl
    rw [hl, Bool.true_and]
    cases hk : has (keepB g) r.left with
    | false => rfl
    | true =>
      rw [Bool.not_true, Bool.false_or]
      have hst : stay g r = true := by
        simp only [stay, rOk, Bool.and_eq_true]
        exact ⟨hs, ⟨hl, hin2⟩, hk⟩
      refine leftsOf_holds (t := true) hT _ (trim_rule hr hst) ?_
      simp only [asks, cond_true, inAll, List.all_eq_true]
      intro x hx
      obtain ⟨y, hy, rfl⟩ := trimS1_back hx
      exact (hkid y hy).2 (keep_goes hg hr hst y hy)
  have h1 := hS.sub v ((keep_good hg hs).sub v hv)
  obtain ⟨l0, l1, l2⟩ := mkB_has.1 h1
  simp only [Bool.and_eq_true, Bool.or_eq_true, Bool.not_eq_true'] at l2
  rw [show ((v.toNat : Nat) : Int) = v by omega] at l2
  rcases l2.2 with h2 | h2
  · rw [hv] at h2; cases h2
  · exact h2
theorem trim_vars : ((trimOut g).g.vars.toNat : Int) = rk (keepB g) (g.vars.toNat : Int) := by
  have h1 := rk_all (keepB g)
  rw [keep_len] at h1
  rw [h1]
  show (((listB (keepB g)).length : Int).toNat : Int) = _
  omega
theorem trim_whole (hs : has (goodB g) g.start = true) {u : Int} (h0 : 0 ≤ u) (h1 : u < (trimOut g).g.vars) : has (goodB (trimOut g).g) u = true ∧ has (reachOf (trimOut g).g) u = true := by
  have hv := trim_vars hg
  obtain ⟨v, hk, rfl⟩ := rk_surj (K := keepB g) g.vars.toNat u h0 (by omega)
  exact ⟨trim_good hg hs hk, trim_reach hg hs hk⟩
/-- All of it is good and comes of the start: it stays as it is. -/
theorem trim_idem (hgo : ∀ u, 0 ≤ u → u < g.vars → has (goodB g) u = true ∧ has (reachOf g) u = true) : (trimOut g).g = g := by
  have hok : ∀ r ∈ g.rules, rOk (goodB g) r = true := fun r hr => by
    simp only [rOk, Bool.and_eq_true, inAll, List.all_eq_true]
    exact ⟨(hgo _ (hg.left0 r hr) (hg.left r hr)).1, fun v hv => (hgo v (kids_nonneg _ hv) (hg.hi r hr v (kids_mem hv))).1⟩
  have hst := (hgo _ hg.start0 hg.start).1
  have hon : onlyR g = g.rules := List.filter_eq_self.2 hok
  have hsub : subG g = g := by
    rw [subG, if_pos hst, hon]
  have hkeep : keepB g = reachOf g := by rw [keepB, hsub]
  have hkl := keep_len g
  have hall : ∀ k : Nat, k < g.vars.toNat → has (keepB g) k = true := fun k hk => by rw [hkeep]; exact (hgo k (by omega) (by omega)).2
  have hrk : ∀ v : Int, 0 ≤ v → v ≤ g.vars → rk (keepB g) v = v := fun v h0 h1 => by
    obtain ⟨k, rfl⟩ : ∃ k : Nat, v = (k : Int) := ⟨v.toNat, by omega⟩
    exact rk_true hall k (by omega)
  have hv1 := hg.vars1
  have hvars : ((listB (keepB g)).length : Int) = g.vars := by
    have h1 := rk_all (keepB g)
    rw [hkl, hrk _ (by omega) (by omega)] at h1
    omega
  have hrules : tRules g g.rules = g.rules := by
    have hf : g.rules.filter (stay g) = g.rules := List.filter_eq_self.2 (fun r hr => by
      simp only [stay, Bool.and_eq_true]
      exact ⟨hst, hok r hr, by rw [hkeep]; exact (hgo _ (hg.left0 r hr) (hg.left r hr)).2⟩)
    rw [tRules, hf]
    refine (List.map_congr_left (g := id) (fun r hr => ?_)).trans (List.map_id _)
    have h1 := hrk _ (hg.left0 r hr) (Int.le_of_lt (hg.left r hr))
    have h2 : r.right.map (trimS1 (keepB g)) = r.right := by
      refine (List.map_congr_left (g := id) (fun s hs => ?_)).trans (List.map_id _)
      by_cases h0 : 0 ≤ s
      · rw [trimS1, if_pos h0, hrk s h0 (Int.le_of_lt (hg.hi r hr s hs))]; rfl
      · rw [trimS1, if_neg h0]; rfl
    rw [trimR, h1, h2]; rfl
  show Gram.mk _ _ _ _ = g
  rw [hvars, hrk _ hg.start0 (Int.le_of_lt hg.start), hrules]
theorem bad_keep (hs : ¬ has (goodB g) g.start = true) : ∀ v : Int, has (keepB g) v = true ↔ v = g.start.toNat := by
  have hst := hg.start0
  have hst2 := hg.start
  intro v
  constructor
  · intro h
    have h1 : Sub (keepB g) (put (none_ g) g.start) := reachOf_least (by rw [put_length, none_length]; rfl) (by show has (put (none_ g) g.start) g.start = true; rw [has_put hst (by rw [none_length]; omega)]; simp) (fun r hr => by
      have : (subG g).rules = [] := by
        show (if has (goodB g) g.start = true then onlyR g else []) = []
        rw [if_neg hs]
      rw [this] at hr; cases hr)
    have h2 := h1.sub v h
    rw [has_put hst (by rw [none_length]; omega), none_has] at h2
    have h3 : v = g.start := by simpa using h2
    omega
  · rintro rfl
    rw [show ((g.start.toNat : Nat) : Int) = g.start by omega]
    exact keep_start hg
theorem bad_out (hs : ¬ has (goodB g) g.start = true) : (trimOut g).g = ⟨1, g.terms, 0, []⟩ := by
  have hk := bad_keep hg hs
  have hst := hg.start0
  have hst2 := hg.start
  have h1 := rk_all (keepB g)
  have hkl := keep_len g
  rw [hkl, rk_one hk, if_neg (by omega)] at h1
  have h2 := rk_one hk g.start.toNat
  rw [if_pos (Nat.le_refl _), show ((g.start.toNat : Nat) : Int) = g.start by omega] at h2
  have h3 : tRules g g.rules = [] := by
    have : g.rules.filter (stay g) = [] := List.filter_eq_nil_iff.2 (fun r hr => by
      simp only [stay, Bool.and_eq_true]
      exact fun h => hs h.1)
    rw [tRules, this]; rfl
  show Gram.mk _ _ _ _ = _
  rw [← h1, h2, h3]
/-- What trimming makes. -/
theorem trim_trims : (∀ u, 0 ≤ u → u < (trimOut g).g.vars → (u ≠ (trimOut g).g.start → has (goodB (trimOut g).g) u = true) ∧ has (reachOf (trimOut g).g) u = true) ∧ (trimOut (trimOut g).g).g = (trimOut g).g := by
  have hT := trimOut_ok hg
  by_cases hs : has (goodB g) g.start = true
  · have hw := fun u h0 h1 => trim_whole hg hs (u := u) h0 h1
    exact ⟨fun u h0 h1 => ⟨fun _ => (hw u h0 h1).1, (hw u h0 h1).2⟩, trim_idem hT hw⟩
  · have he := bad_out hg hs
    have hst := reachOf_start hT
    rw [he] at hT hst ⊢
    have hs2 : ¬ has (goodB ⟨1, g.terms, 0, []⟩) 0 = true := fun h => by
      have h1 : Sub (goodB ⟨1, g.terms, 0, []⟩) (none_ ⟨1, g.terms, 0, []⟩) := leftsOf_least (none_length _) (fun r hr => by cases hr)
      have := h1.sub _ h
      rw [none_has] at this; cases this
    refine ⟨fun u h0 h1 => ?_, bad_out hT hs2⟩
    obtain rfl : u = 0 := by dsimp only at h1; omega
    exact ⟨fun h => absurd rfl h, hst⟩
end
theorem trim_vars_le (g : Gram) (hg : g.ok) : (trimOut g).g.vars ≤ g.vars := by
  have h1 := listB_le (keepB g)
  have h2 := keep_len g
  have h3 := hg.vars1
  show ((listB (keepB g)).length : Int) ≤ _
  omega
theorem trim_rules_le (g : Gram) : (trimOut g).g.rules.length ≤ g.rules.length := by
  show ((g.rules.filter (stay g)).map (trimR (keepB g))).length ≤ _
  rw [List.length_map]; exact List.length_filter_le _ _
end Go.Proofs.Ytpaeihifcmohkaa
