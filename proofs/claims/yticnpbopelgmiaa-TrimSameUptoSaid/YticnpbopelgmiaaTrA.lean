/-
  Sim: slices.Index, Contains; IndexFunc, ContainsFunc over rules; trim's only. Sim: trim's only.
-/
import Derived.Test.YticnpbopelgmiaaTrP
import Derived.Test.YticnpbopelgmiaaSlc
import Derived.Test.YticnpbopelgmiaaF2
import Derived.Test.YticnpbopelgmiaaQTreeA
set_option linter.unusedVariables false
set_option linter.unusedSimpArgs false
set_option linter.unusedSectionVars false
namespace Go.Proofs.Yticnpbopelgmiaa
open Go.RowKit
set_option maxRecDepth 100000

theorem any_listB (K : List Bool) (v : Int) : (listB K).any (fun y => decide (v = y)) = has K v := by
  rw [Bool.eq_iff_iff, List.any_eq_true]
  constructor
  · rintro ⟨x, hx, h⟩
    have := of_decide_eq_true h
    subst this
    exact listB_mem.1 hx
  · intro h; exact ⟨v, listB_mem.2 h, by simp⟩

/-! ### Over rules -/
def idxQ (p : Rule → Bool) : List Rule → Nat → Int
  | [], _ => -1
  | x :: xs, i => bif p x then (i : Int) else idxQ p xs (i + 1)
theorem idxQ_any (p : Rule → Bool) : ∀ (xs : List Rule) (i : Nat), decide (0 ≤ idxQ p xs i) = xs.any p
  | [], _ => by simp [idxQ]
  | x :: xs, i => by
    simp only [idxQ, List.any_cons]
    by_cases h : p x = true
    · simp [h]
    · simp only [Bool.not_eq_true] at h
      simpa [h] using idxQ_any p xs (i + 1)
theorem idxQ_step {p : Rule → Bool} {xs : List Rule} {k : Nat} (h : k < xs.length) : idxQ p (xs.drop k) k = bif p xs[k] then (k : Int) else idxQ p (xs.drop (k + 1)) (k + 1) := by
  rw [List.drop_eq_getElem_cons h, idxQ]
theorem idxQ_end {p : Rule → Bool} {xs : List Rule} {k : Nat} (h : ¬ k < xs.length) : idxQ p (xs.drop k) k = -1 := by
  rw [List.drop_of_length_le (by omega), idxQ]
theorem indexFuncR_sim {t : Bool} {clos : Nat} {caps : List V} {H : Hp} {xs : List Rule} {p : Rule → Bool} (hC : Clo H caps) (hc : ∀ x ∈ xs, ACalls Try.prog clos (.d (ruleD t x) :: caps) H (B (p x)) H) (hl : xs.length ≤ 100000000 := by ((try simp only [List.length_map, List.length_append, List.length_cons, List.length_nil, List.length_replicate, List.length_set, List.length_take, List.length_drop]); first | omega | assumption)) :
    ACalls Try.prog 127 [.d (rulesD t xs), .fn (.func clos) [] caps] H (I (idxQ p xs 0)) H := by
  refine ACalls.intro (n := 19) Try.func127 rfl rfl (by simp) (by rfl) ?_
  simp only [argFr]
  have h1 := hC.self
  have h2 := hC.inn
  have h3 := hC.caps
  repeat (first | refine wk ?_)
  refine t_loop (X := Nat) (fun k => k ≤ xs.length ∧ idxQ p xs 0 = idxQ p (xs.drop k) k) (fun k => [(8, I k), (7, I xs.length), (1, .fn (.func clos) [] caps), (0, .d (rulesD t xs))]) (fun _ => H) (fun k => xs.length - k) 0 ⟨Nat.zero_le _, rfl⟩ ?_
  rintro k ⟨hk, hp⟩
  by_cases hlt : k < xs.length
  · have hs := idxQ_step (p := p) hlt
    repeat (first | refine wk ?_)
    refine s_clos hC (hA := hc xs[k] (List.getElem_mem hlt)) (hr := ?_)
    cases hpx : p xs[k] with
    | true =>
      rw [hpx] at hs
      repeat (first | refine wk ?_)
      rw [hp, hs]
      exact fin
    | false =>
      rw [hpx] at hs
      repeat (first | refine wk ?_)
      exact t_next (k + 1) (a := ⟨by omega, hp.trans hs⟩)
  · repeat (first | refine wk ?_)
    rw [hp, idxQ_end hlt]
    exact fin
theorem containsFuncR_sim {t : Bool} {clos : Nat} {caps : List V} {H : Hp} {xs : List Rule} {p : Rule → Bool} (hC : Clo H caps) (hc : ∀ x ∈ xs, ACalls Try.prog clos (.d (ruleD t x) :: caps) H (B (p x)) H) (hl : xs.length ≤ 100000000 := by ((try simp only [List.length_map, List.length_append, List.length_cons, List.length_nil, List.length_replicate, List.length_set, List.length_take, List.length_drop]); first | omega | assumption)) :
    ACalls Try.prog 80 [.d (rulesD t xs), .fn (.func clos) [] caps] H (B (xs.any p)) H := by
  refine ACalls.intro (n := 9) Try.func80 rfl rfl (by simp) (by rfl) ?_
  simp only [argFr]
  have h1 := hC.self
  have h2 := hC.inn
  have h3 := hC.caps
  repeat (first | refine wk ?_)
  refine s_clos hC.bare (hA := indexFuncR_sim hC hc) (hr := ?_)
  repeat (first | refine wk ?_)
  rw [← idxQ_any p xs 0]
  exact fin
theorem make1_sim {t u : Bool} {x r : Rule} (hx : x.right.length ≤ 100000000 := by ((try simp only [List.length_map, List.length_append, List.length_cons, List.length_nil, List.length_replicate, List.length_set, List.length_take, List.length_drop]); first | omega | assumption)) (hr : r.right.length ≤ 100000000 := by ((try simp only [List.length_map, List.length_append, List.length_cons, List.length_nil, List.length_replicate, List.length_set, List.length_take, List.length_drop]); first | omega | assumption)) :
    ACalls Try.prog 81 [.d (ruleD t x), .ptr 1000 0] [(1000, ruleBox u r)] (B (decide (x = r))) [(1000, ruleBox u r)] := by
  refine ACalls.intro (n := 16) Try.func81 rfl rfl (by simp) (by rfl) ?_
  simp only [argFr]
  by_cases h : x.left = r.left
  · have e : decide (x = r) = decide (x.right = r.right) := decide_eq_decide.2 ⟨fun h => h ▸ rfl, fun h2 => by cases x; cases r; simp_all⟩
    rw [e]
    repeat (first | refine wk ?_)
    refine s_call [] (hA := equal_sim) (hr := ?_)
    repeat (first | refine wk ?_)
    exact fin
  · have e : decide (x = r) = false := decide_eq_false (fun h2 => h (h2 ▸ rfl))
    rw [e]
    repeat (first | refine wk ?_)
    exact fin

/-! ### only -/
abbrev intsBox (u : Bool) (xs : List Int) : Ob := .box 39 [.d (ints u xs)]
theorem only1_sim {u : Bool} {ks : List Int} {v : Int} (hl : ks.length ≤ 100000000 := by ((try simp only [List.length_map, List.length_append, List.length_cons, List.length_nil, List.length_replicate, List.length_set, List.length_take, List.length_drop]); first | omega | assumption)) :
    ACalls Try.prog 125 [I v, .ptr 1000 0] [(1000, intsBox u ks)] (B (!ks.any (fun y => decide (v = y)))) [(1000, intsBox u ks)] := by
  refine ACalls.intro (n := 8) Try.func125 rfl rfl (by simp) (by rfl) ?_
  simp only [argFr]
  repeat (first | refine wk ?_)
  refine s_call [] (hA := contains_sim) (hr := ?_)
  repeat (first | refine wk ?_)
  exact fin
def onlyN (K : List Bool) : List Rule → Nat → List Int
  | [], _ => []
  | r :: rs, i => if rOk K r = true then (i : Int) :: onlyN K rs (i + 1) else onlyN K rs (i + 1)
theorem onlyN_append (K : List Bool) : ∀ (a b : List Rule) (i : Nat), onlyN K (a ++ b) i = onlyN K a i ++ onlyN K b (i + a.length)
  | [], b, i => by simp [onlyN]
  | r :: a, b, i => by
    simp only [List.cons_append, onlyN, onlyN_append K a b (i + 1), List.length_cons]
    rw [show i + 1 + a.length = i + (a.length + 1) by omega]
    split <;> rfl
theorem onlyN_snoc {K : List Bool} {rs : List Rule} {i : Nat} (h : i < rs.length) : onlyN K (rs.take (i + 1)) 0 = onlyN K (rs.take i) 0 ++ (if rOk K rs[i] = true then [(i : Int)] else []) := by
  rw [List.take_succ_eq_append_getElem h, onlyN_append]
  simp only [onlyN, List.length_take, Nat.zero_add]
  rw [Nat.min_eq_left (by omega)]
theorem onlyN_le (K : List Bool) : ∀ (rs : List Rule) (i : Nat), (onlyN K rs i).length ≤ rs.length
  | [], i => by simp [onlyN]
  | r :: rs, i => by
    have := onlyN_le K rs (i + 1)
    simp only [onlyN]; split <;> simp <;> omega
theorem onlyF_snoc {K : List Bool} {rs : List Rule} {i : Nat} (h : i < rs.length) : (rs.take (i + 1)).filter (rOk K) = (rs.take i).filter (rOk K) ++ (if rOk K rs[i] = true then [rs[i]] else []) := by
  rw [List.take_succ_eq_append_getElem h, List.filter_append]
  congr 1
  by_cases hs : rOk K rs[i] = true <;> simp [hs]
theorem only_any (K : List Bool) (r : Rule) : (kids r.right ++ [r.left]).any (fun v => !(listB K).any (fun y => decide (v = y))) = !rOk K r := by
  simp only [any_listB]
  rw [Bool.eq_iff_iff]
  simp only [rOk, inAll, List.any_append, List.any_cons, List.any_nil, Bool.or_false, Bool.or_eq_true, Bool.not_eq_true', Bool.and_eq_false_iff, List.any_eq_true, List.all_eq_false, Bool.not_eq_true]
  constructor
  · rintro (⟨x, h1, h2⟩ | h) 
    · exact .inr ⟨x, h1, by simpa using h2⟩
    · exact .inl h
  · rintro (h | ⟨x, h1, h2⟩)
    · exact .inr h
    · exact .inl ⟨x, h1, by simpa using h2⟩
end Go.Proofs.Yticnpbopelgmiaa
namespace Go.Proofs.Yticnpbopelgmiaa
open Go.RowKit
set_option maxRecDepth 100000

set_option maxHeartbeats 400000 in
theorem only_sim {g : Gram} {K : List Bool} (hg : g.ok) (hK : K.length ≤ 100000 := by ((try simp only [List.length_map, List.length_append, List.length_cons, List.length_nil, List.length_replicate, List.length_set, List.length_take, List.length_drop]); first | omega | assumption)) :
    ACalls Try.prog 76 [.d (gramD false g), .d (ints false (listB K))] [] (.tup [.d (rulesD false (g.rules.filter (rOk K))), .d (ints false (onlyN K g.rules 0))]) [] := by
  refine ACalls.intro (n := 38) Try.func76 rfl rfl (by simp) (by rfl) ?_
  simp only [argFr]
  have hlen := hg.rules
  have hB := listB_le K
  repeat (first | refine wk ?_)
  refine aw_nil 6 900 41 2 rfl rfl rfl ?_
  refine aw_nil 7 901 3 1 rfl rfl rfl ?_
  refine t_loop (X := Nat) (fun i => i ≤ g.rules.length) (fun i => [(13, I i), (12, I g.rules.length), (11, .d (rulesD false g.rules)), (6, .own 900 ((g.rules.take i).filter (rOk K)).length), (7, .own 901 (onlyN K (g.rules.take i) 0).length), (2, .ptr 2 0), (3, .ptr 3 0)]) (fun i => [(900, .row 41 2 (((g.rules.take i).filter (rOk K)).map (ruleD false))), (901, .row 3 1 ((onlyN K (g.rules.take i) 0).map iD)), (2, gramBox false g), (3, intsBox false (listB K))]) (fun i => g.rules.length - i) 0 (Nat.zero_le _) ?_
  intro i hi
  by_cases hlt : i < g.rules.length
  · have hmem := List.getElem_mem hlt
    have a3 := hg.right _ hmem
    have hkl := kids_le g.rules[i].right
    have e1 := onlyF_snoc (K := K) hlt
    have e2 := onlyN_snoc (K := K) hlt
    have l1 : ((g.rules.take i).filter (rOk K)).length ≤ g.rules.length := Nat.le_trans (List.length_filter_le _ _) (by simp; omega)
    have l2 : (onlyN K (g.rules.take i) 0).length ≤ g.rules.length := Nat.le_trans (onlyN_le K _ 0) (by simp; omega)
    have hany := only_any K g.rules[i]
    have hc := containsFunc_sim (t := true) (clos := 125) (caps := [.ptr 1000 0]) (H := [(1000, intsBox false (listB K))]) (xs := kids g.rules[i].right ++ [g.rules[i].left]) (p := fun v => !(listB K).any (fun y => decide (v = y))) ⟨rfl, rfl, rfl, rfl, trivial⟩ (fun x _ => only1_sim) (by simp; omega)
    rw [hany] at hc
    have hm : (kids g.rules[i].right).map iD ++ [iD g.rules[i].left] = (kids g.rules[i].right ++ [g.rules[i].left]).map iD := by simp
    cases hb : rOk K g.rules[i] with
    | true =>
      rw [hb, if_pos rfl] at e1 e2
      rw [hb] at hc
      have e3 : ((g.rules.take (i + 1)).filter (rOk K)).map (ruleD false) = ((g.rules.take i).filter (rOk K)).map (ruleD false) ++ [D.agg [iD g.rules[i].left, ints false g.rules[i].right]] := by rw [e1]; simp [ruleD]
      have e3' := e3.symm
      have e := And.intro e1 e2
      repeat (first | refine wk ?_)
      refine s_call [(3, 902)] (hA := kids_sim) (hr := ?_)
      repeat (first | refine wk ?_)
      rw [hm]
      refine s_call [(1000, 3)] (hA := hc) (hr := ?_)
      repeat (first | refine wk ?_)
      exact t_next (i + 1)
    | false =>
      rw [hb, if_neg (by decide), List.append_nil] at e1 e2
      rw [hb] at hc
      have e := And.intro e1 e2
      repeat (first | refine wk ?_)
      refine s_call [(3, 902)] (hA := kids_sim) (hr := ?_)
      repeat (first | refine wk ?_)
      rw [hm]
      refine s_call [(1000, 3)] (hA := hc) (hr := ?_)
      repeat (first | refine wk ?_)
      exact t_next (i + 1)
  · obtain rfl : i = g.rules.length := by omega
    rw [List.take_length]
    refine aw_froz 900 rfl ?_
    refine aw_froz 901 rfl ?_
    repeat (first | refine wk ?_)
    exact Fin.r2 rfl (.of_tmp rfl) (.of_tmp rfl) (Co.tup ⟨Co.froz rfl (by simp), Co.froz rfl (by simp), trivial⟩) trivial rfl
end Go.Proofs.Yticnpbopelgmiaa
