/-
  Sim: lists of names: Index, Contains, PlaceOf, SameStrings, Names, NamesOf, named. Sim: terminals of definitions: each, Terms, the reference's TermsOf. Sim: the reference's TermsOf; defs.Check's closure.
-/
import Derived.Test.YtkfeccbahpmadaaDefsP
import Derived.Test.YtkfeccbahpmadaaRnG
import Derived.Test.YtkfeccbahpmadaaS5
set_option linter.unusedVariables false
set_option linter.unusedSimpArgs false
set_option linter.unusedSectionVars false
namespace Go.Proofs.Ytkfeccbahpmadaa
open Go.RowKit
set_option maxRecDepth 100000
-- SimX

abbrev strs (t : Bool) (l : List ByteArray) : D := .sl t 1 (l.map sD)
/-- Where a name stands first; -1: nowhere. -/
def plc (l : List ByteArray) (s : ByteArray) : Int := match l.findIdx? (fun x => decide (x = s)) with | some i => (i : Int) | none => -1
theorem plc_at {l : List ByteArray} {s : ByteArray} {i : Nat} (h : i < l.length) (h1 : ∀ j, j < i → ∀ (h : j < l.length), l[j] ≠ s) (h2 : l[i] = s) : plc l s = i := by
  unfold plc
  have e : l.findIdx? (fun x => decide (x = s)) = some i := by
    rw [List.findIdx?_eq_some_iff_getElem]
    exact ⟨h, by simpa using h2, fun j hj => by simpa using h1 j hj (by omega)⟩
  rw [e]
theorem plc_no {l : List ByteArray} {s : ByteArray} (h1 : ∀ j, (h : j < l.length) → l[j] ≠ s) : plc l s = -1 := by
  unfold plc
  have e : l.findIdx? (fun x => decide (x = s)) = none := by
    rw [List.findIdx?_eq_none_iff]
    intro x hx
    obtain ⟨j, hj, rfl⟩ := List.getElem_of_mem hx
    simpa using h1 j hj
  rw [e]
theorem plc_cases (l : List ByteArray) (s : ByteArray) : (s ∉ l ∧ plc l s = -1) ∨ (s ∈ l ∧ ∃ i, ∃ h : i < l.length, plc l s = ((i : Nat) : Int) ∧ l[i] = s) := by
  unfold plc
  cases e : l.findIdx? (fun x => decide (x = s)) with
  | none =>
    rw [List.findIdx?_eq_none_iff] at e
    exact .inl ⟨fun h => by simpa using e s h, rfl⟩
  | some i =>
    rw [List.findIdx?_eq_some_iff_getElem] at e
    obtain ⟨h, h2, _⟩ := e
    have h3 : l[i] = s := by simpa using h2
    exact .inr ⟨h3 ▸ List.getElem_mem h, i, h, rfl, h3⟩
theorem plc_mem {l : List ByteArray} {s : ByteArray} : decide (0 ≤ plc l s) = decide (s ∈ l) := by
  rcases plc_cases l s with ⟨h, e⟩ | ⟨h, i, _, e, _⟩
  · rw [e, decide_eq_false h]; rfl
  · rw [e, decide_eq_true h, decide_eq_true (by omega)]
theorem plc_lt {l : List ByteArray} {s : ByteArray} : decide (plc l s < 0) = !decide (s ∈ l) := by
  rcases plc_cases l s with ⟨h, e⟩ | ⟨h, i, _, e, _⟩
  · rw [e, decide_eq_false h]; rfl
  · rw [e, decide_eq_true h, decide_eq_false (by omega)]; rfl
theorem indexS_sim {t : Bool} {l : List ByteArray} {s : ByteArray} (hl : l.length ≤ 100000000 := by ((try simp only [List.length_map, List.length_append, List.length_cons, List.length_nil, List.length_replicate, List.length_set, List.length_take, List.length_drop]); first | omega | assumption)) : ACalls Try.prog 147 [.d (strs t l), Str s] [] (I (plc l s)) [] := by
  refine ACalls.intro (n := 19) Try.func147 rfl rfl (by simp) (by rfl) ?_
  simp only [argFr]
  repeat (first | refine wk ?_ | refine s_field (hr := ?_))
  refine t_loop (X := Nat) (fun i => i ≤ l.length ∧ ∀ j, j < i → ∀ (h : j < l.length), l[j] ≠ s) (fun i => [(8, I i), (7, I l.length), (0, .d (strs t l)), (1, Str s)]) (fun _ => []) (fun i => l.length - i) 0 ⟨Nat.zero_le _, fun _ h => by omega⟩ ?_
  rintro i ⟨hi, hp⟩
  by_cases hlt : i < l.length
  · by_cases h : l[i] = s
    · have h' : s = l[i] := h.symm
      rw [plc_at hlt hp h]
      repeat (first | refine wk ?_ | refine s_field (hr := ?_))
      exact fin
    · have h' : ¬ s = l[i] := fun e => h e.symm
      repeat (first | refine wk ?_ | refine s_field (hr := ?_))
      exact t_next (i + 1) (a := ⟨by omega, upto_succ hp (fun _ => h)⟩)
  · rw [plc_no (fun j h => hp j (by omega) h)]
    repeat (first | refine wk ?_ | refine s_field (hr := ?_))
    exact fin
theorem containsS_sim {t : Bool} {l : List ByteArray} {s : ByteArray} (hl : l.length ≤ 100000000 := by ((try simp only [List.length_map, List.length_append, List.length_cons, List.length_nil, List.length_replicate, List.length_set, List.length_take, List.length_drop]); first | omega | assumption)) : ACalls Try.prog 84 [.d (strs t l), Str s] [] (B (decide (s ∈ l))) [] := by
  refine ACalls.intro (n := 9) Try.func84 rfl rfl (by simp) (by rfl) ?_
  simp only [argFr]
  have hx := indexS_sim (t := t) (l := l) (s := s) hl
  rw [← plc_mem]
  repeat (first | refine wk ?_ | refine s_field (hr := ?_))
  refine s_call [] (hA := hx) (hr := ?_)
  repeat (first | refine wk ?_ | refine s_field (hr := ?_))
  exact fin
theorem placeOf_sim {t : Bool} {l : List ByteArray} {s : ByteArray} (hl : l.length ≤ 100000000 := by ((try simp only [List.length_map, List.length_append, List.length_cons, List.length_nil, List.length_replicate, List.length_set, List.length_take, List.length_drop]); first | omega | assumption)) : ACalls Try.prog 38 [.d (strs t l), Str s] [] (I (plc l s)) [] := by
  refine ACalls.intro (n := 19) Try.func38 rfl rfl (by simp) (by rfl) ?_
  simp only [argFr]
  repeat (first | refine wk ?_ | refine s_field (hr := ?_))
  refine t_loop (X := Nat) (fun i => i ≤ l.length ∧ ∀ j, j < i → ∀ (h : j < l.length), l[j] ≠ s) (fun i => [(5, I i), (0, .d (strs t l)), (1, Str s)]) (fun _ => []) (fun i => l.length - i) 0 ⟨Nat.zero_le _, fun _ h => by omega⟩ ?_
  rintro i ⟨hi, hp⟩
  by_cases hlt : i < l.length
  · by_cases h : l[i] = s
    · rw [plc_at hlt hp h]
      repeat (first | refine wk ?_ | refine s_field (hr := ?_))
      exact fin
    · repeat (first | refine wk ?_ | refine s_field (hr := ?_))
      exact t_next (i + 1) (a := ⟨by omega, upto_succ hp (fun _ => h)⟩)
  · rw [plc_no (fun j h => hp j (by omega) h)]
    repeat (first | refine wk ?_ | refine s_field (hr := ?_))
    exact fin
theorem sameStrings_sim {t u : Bool} {a b : List ByteArray} (hla : a.length ≤ 100000000 := by ((try simp only [List.length_map, List.length_append, List.length_cons, List.length_nil, List.length_replicate, List.length_set, List.length_take, List.length_drop]); first | omega | assumption)) (hlb : b.length ≤ 100000000 := by ((try simp only [List.length_map, List.length_append, List.length_cons, List.length_nil, List.length_replicate, List.length_set, List.length_take, List.length_drop]); first | omega | assumption)) : ACalls Try.prog 31 [.d (strs t a), .d (strs u b)] [] (B (decide (a = b))) [] := by
  refine ACalls.intro (n := 26) Try.func31 rfl rfl (by simp) (by rfl) ?_
  simp only [argFr]
  by_cases hl : a.length = b.length
  rotate_left
  · rw [decide_eq_false (fun e => hl (by rw [e]))]
    repeat (first | refine wk ?_ | refine s_field (hr := ?_))
    exact fin
  repeat (first | refine wk ?_ | refine s_field (hr := ?_))
  refine t_loop (X := Nat) (fun i => i ≤ a.length ∧ ∀ j, j < i → ∀ (h : j < a.length) (h' : j < b.length), a[j] = b[j]) (fun i => [(5, I i), (0, .d (strs t a)), (1, .d (strs u b))]) (fun _ => []) (fun i => a.length - i) 0 ⟨Nat.zero_le _, fun _ h => by omega⟩ ?_
  rintro i ⟨hi, hp⟩
  by_cases hlt : i < a.length
  · have hlt2 : i < b.length := by omega
    by_cases h : a[i] = b[i]
    · repeat (first | refine wk ?_ | refine s_field (hr := ?_))
      exact t_next (i + 1) (a := ⟨by omega, upto_succ hp (fun _ _ => h)⟩)
    · rw [decide_eq_false (fun e => h (by subst e; rfl))]
      repeat (first | refine wk ?_ | refine s_field (hr := ?_))
      exact fin
  · rw [decide_eq_true (List.ext_getElem hl (fun j g1 g2 => hp j (by omega) g1 g2))]
    repeat (first | refine wk ?_ | refine s_field (hr := ?_))
    exact fin
theorem nms_take {l : List Dfn} {i : Nat} (h : i < l.length) : nms (l.take (i + 1)) = nms (l.take i) ++ [l[i].name] := by
  unfold nms; rw [List.take_succ_eq_append_getElem h, List.map_append]; rfl
theorem names_sim {t : Bool} {l : List Dfn} (hl : l.length ≤ 100000000 := by ((try simp only [List.length_map, List.length_append, List.length_cons, List.length_nil, List.length_replicate, List.length_set, List.length_take, List.length_drop]); first | omega | assumption)) : ACalls Try.prog 32 [.d (textD t l)] [] (.d (strs false (nms l))) [] := by
  refine ACalls.intro (n := 20) Try.func32 rfl rfl (by simp) (by rfl) ?_
  simp only [argFr]
  repeat (first | refine wk ?_ | refine s_field (hr := ?_))
  refine aw_nil 3 900 9 1 rfl rfl rfl ?_
  refine t_loop (X := Nat) (fun i => i ≤ l.length) (fun i => [(9, I i), (8, I l.length), (7, .d (dfnsD t l)), (3, .own 900 (nms (l.take i)).length)]) (fun i => [(900, .row 9 1 ((nms (l.take i)).map sD))]) (fun i => l.length - i) 0 (Nat.zero_le _) ?_
  intro i hi
  have hnl : (nms (l.take i)).length ≤ 100000000 := by unfold nms; rw [List.length_map, List.length_take]; omega
  by_cases hlt : i < l.length
  · have e1 : (nms (l.take i)).map sD ++ [sD l[i].name] = (nms (l.take (i + 1))).map sD := by rw [nms_take hlt, List.map_append]; rfl
    have e2 := congrArg List.length e1
    rw [List.length_map sD] at e2
    generalize nms (l.take i) = W at *
    repeat (first | refine wk ?_ | refine s_field (hr := ?_))
    exact t_next (i + 1)
  · rw [show l.take i = l from List.take_of_length_le (by omega)]
    refine aw_froz 900 rfl ?_
    repeat (first | refine wk ?_ | refine s_field (hr := ?_))
    exact fin
theorem namesOf_sim {t : Bool} {l : List Dfn} (hl : l.length ≤ 100000000 := by ((try simp only [List.length_map, List.length_append, List.length_cons, List.length_nil, List.length_replicate, List.length_set, List.length_take, List.length_drop]); first | omega | assumption)) : ACalls Try.prog 33 [.d (textD t l)] [] (.d (strs false (nms l))) [] := by
  refine ACalls.intro (n := 22) Try.func33 rfl rfl (by simp) (by rfl) ?_
  simp only [argFr]
  repeat (first | refine wk ?_ | refine s_field (hr := ?_))
  refine aw_nil 3 900 9 1 rfl rfl rfl ?_
  refine t_loop (X := Nat) (fun i => i ≤ l.length) (fun i => [(4, I i), (3, .own 900 (nms (l.take i)).length), (1, .ptr 1 0)]) (fun i => [(1, .box 44 [.d (dfnsD t l)]), (900, .row 9 1 ((nms (l.take i)).map sD))]) (fun i => l.length - i) 0 (Nat.zero_le _) ?_
  intro i hi
  have hnl : (nms (l.take i)).length ≤ 100000000 := by unfold nms; rw [List.length_map, List.length_take]; omega
  by_cases hlt : i < l.length
  · have e1 : (nms (l.take i)).map sD ++ [sD l[i].name] = (nms (l.take (i + 1))).map sD := by rw [nms_take hlt, List.map_append]; rfl
    have e2 := congrArg List.length e1
    rw [List.length_map sD] at e2
    generalize nms (l.take i) = W at *
    repeat (first | refine wk ?_ | refine s_field (hr := ?_))
    exact t_next (i + 1)
  · rw [show l.take i = l from List.take_of_length_le (by omega)]
    refine aw_froz 900 rfl ?_
    repeat (first | refine wk ?_ | refine s_field (hr := ?_))
    exact fin
set_option maxHeartbeats 2000000 in
theorem named_gen : ∀ (N : Nat) {t : Bool} {x : Expr} {op : Int}, esz x < N → esz x ≤ 10000000 → (op = 1 ∨ op = 2) → ACalls Try.prog 87 [.d (exprA t x), I op] [] (.d (strs false (nmd op x))) [] := by
  intro N
  induction N with
  | zero => intro t x op h; omega
  | succ N ih =>
  intro t x op hn hN ho
  refine ACalls.intro (n := 33) Try.func87 rfl rfl (by simp) (by rfl) ?_
  simp only [argFr]
  have hx := esz_eq x
  have hl := eszs_len x.l
  rw [nmd_eq ho]
  generalize hW0 : (if x.op = op then [x.name] else []) = W0
  have hW : W0.length ≤ 1 := by rw [← hW0]; split <;> simp
  repeat (first | refine wk ?_ | refine s_field (hr := ?_))
  refine aw_cut1 [(5, .own 900 W0.length), (2, .ptr 2 0), (1, I op)] [(2, exprBox t x), (900, .row 9 1 (W0.map sD))] rfl ?_ ?_
  · refine aw_nil 5 900 9 1 rfl rfl rfl ?_
    by_cases h : x.op = op
    · rw [if_pos h] at hW0
      subst hW0
      repeat (first | refine wk ?_ | refine s_field (hr := ?_))
      exact meet
    · rw [if_neg h] at hW0
      subst hW0
      repeat (first | refine wk ?_ | refine s_field (hr := ?_))
      exact meet
  repeat (first | refine wk ?_ | refine s_field (hr := ?_))
  refine t_loop (X := Nat) (fun i => i ≤ x.l.length) (fun i => [(6, I i), (5, .own 900 (W0 ++ nmds op (x.l.take i)).length), (2, .ptr 2 0), (1, I op)]) (fun i => [(2, exprBox t x), (900, .row 9 1 ((W0 ++ nmds op (x.l.take i)).map sD))]) (fun i => x.l.length - i) 0 (Nat.zero_le _) ?_ (hf := ?_) (hh := ?_)
  rotate_left
  · exact ⟨.of rfl, own_eq rfl (by simp [nmds, atL]), .of rfl, .of rfl, trivial⟩
  · exact ⟨.of rfl, row_eq rfl (by simp [nmds, atL]), trivial⟩
  intro i hi
  have hil := nmds_len op (x.l.take i)
  have hsz : eszs (x.l.take i) ≤ eszs x.l := by have := eszs_append (x.l.take i) (x.l.drop i); rw [List.take_append_drop] at this; omega
  have hnl : (W0 ++ nmds op (x.l.take i)).length ≤ 20000000 := by rw [List.length_append]; omega
  by_cases hlt : i < x.l.length
  · have hm := eszs_mem (List.getElem_mem hlt)
    have hih := ih (t := t) (x := x.l[i]) (op := op) (by omega) (by omega) ho
    have hnd := nmd_len op x.l[i]
    have e1 : (W0 ++ nmds op (x.l.take i)).map sD ++ (nmd op x.l[i]).map sD = (W0 ++ nmds op (x.l.take (i + 1))).map sD := by rw [nmds_take hlt, ← List.map_append, List.append_assoc]
    have e2 := congrArg List.length e1
    rw [List.length_map sD] at e2
    generalize W0 ++ nmds op (x.l.take i) = W at *
    generalize nmd op x.l[i] = W2 at *
    repeat (first | refine wk ?_ | refine s_field (hr := ?_))
    refine s_call [] (hA := hih) (hr := ?_)
    repeat (first | refine wk ?_ | refine s_field (hr := ?_))
    exact t_next (i + 1)
  · rw [show x.l.take i = x.l from List.take_of_length_le (by omega)]
    refine aw_froz 900 rfl ?_
    repeat (first | refine wk ?_ | refine s_field (hr := ?_))
    exact fin
end Go.Proofs.Ytkfeccbahpmadaa
namespace Go.Proofs.Ytkfeccbahpmadaa
open Go.RowKit
set_option maxRecDepth 100000
-- SimX

abbrev tmH (out : List ByteArray) : Hp := [(1001, .box 49 [.own 1002 out.length]), (1002, .row 9 1 (out.map sD))]
def tmS (out : List ByteArray) (x : Expr) : List ByteArray := if x.op = 1 then addT out x.name else out
theorem termsF_sim {t : Bool} {x : Expr} {out : List ByteArray} (hl : out.length ≤ 50000000) : ACalls Try.prog 88 [.d (exprA t x), .ptr 1001 0] (tmH out) (.tup []) (tmH (tmS out x)) := by
  refine ACalls.intro (n := 18) Try.func88 rfl rfl (by simp) (by rfl) ?_
  simp only [argFr]
  unfold tmS
  by_cases h1 : x.op = 1
  rotate_left
  · rw [if_neg h1]
    simp only [tmH]
    (repeat (first | refine wkz ?_ | refine s_field (hr := ?_)))
    exact fin
  rw [if_pos h1]
  have hc := containsS_sim (t := true) (l := out) (s := x.name) (by omega)
  by_cases hm : x.name ∈ out
  · rw [decide_eq_true hm] at hc
    rw [show addT out x.name = out by unfold addT; rw [if_pos hm]]
    simp only [tmH]
    repeat (first | refine wk ?_ | refine s_field (hr := ?_))
    refine s_call [] (hA := hc) (hr := ?_)
    repeat (first | refine wk ?_ | refine s_field (hr := ?_))
    exact fin
  · rw [decide_eq_false hm] at hc
    have e1 : out.map sD ++ [sD x.name] = (addT out x.name).map sD := by unfold addT; rw [if_neg hm, List.map_append]; rfl
    have e2 := congrArg List.length e1
    rw [List.length_map sD] at e2
    simp only [tmH]
    generalize addT out x.name = O2 at *
    repeat (first | refine wk ?_ | refine s_field (hr := ?_))
    refine s_call [] (hA := hc) (hr := ?_)
    repeat (first | refine wk ?_ | refine s_field (hr := ?_))
    exact Fin.norm (Fin.r0 rfl ⟨box_eq rfl (by rw [e2]), row_eq rfl e1, trivial⟩ rfl)
theorem addTs_one (out : List ByteArray) (s : ByteArray) : addTs out [s] = addT out s := rfl
theorem terms_x (out : List ByteArray) (x : Expr) : addTs out (nmd 1 x) = addTs (if x.op = 1 ∨ x.op = 2 then tmS out x else out) (nmds 1 x.l) := by
  rw [nmd_eq (.inl rfl), addTs_append]
  congr 1
  unfold tmS
  by_cases h : x.op = 1
  · rw [if_pos h, if_pos (.inl h), if_pos h]; rfl
  · rw [if_neg h, if_neg h]
    simp [addTs]
set_option maxHeartbeats 2000000 in
theorem eachT_gen : ∀ (N : Nat) {t : Bool} {x : Expr} {out : List ByteArray}, esz x < N → esz x ≤ 10000000 → out.length + esz x ≤ 40000000 →
    ACalls Try.prog 85 [.d (exprA t x), .fn (.func 88) [] [.ptr 1001 0]] (tmH out) (.tup []) (tmH (addTs out (nmd 1 x))) := by
  intro N
  induction N with
  | zero => intro t x out h; omega
  | succ N ih =>
  intro t x out hn hN ho
  refine ACalls.intro (n := 28) Try.func85 rfl rfl (by simp) (by rfl) ?_
  simp only [argFr]
  have hx := esz_eq x
  have hl := eszs_len x.l
  rw [terms_x]
  have hcl := termsF_sim (t := t) (x := x) (out := out) (by omega)
  have hO0 : (tmS out x).length ≤ out.length + 1 := by unfold tmS; split; exact addT_len _ _; omega
  generalize hO : (if x.op = 1 ∨ x.op = 2 then tmS out x else out) = O1
  have hO1 : O1.length ≤ out.length + 1 := by rw [← hO]; split; exact hO0; omega
  simp only [tmH] at hcl ⊢
  iterate 5 (refine wk1 ?_)
  refine aw_cut1 [(2, .ptr 2 0), (1, .fn (.func 88) [] [.ptr 1001 0])] [(2, exprBox t x), (1001, .box 49 [.own 1002 O1.length]), (1002, .row 9 1 (O1.map sD))] rfl ?_ ?_
  · by_cases h1 : x.op = 1
    · rw [if_pos (.inl h1)] at hO
      subst hO
      (repeat (first | refine wkz ?_ | refine s_field (hr := ?_)))
      refine s_call [] (hA := hcl) (hr := ?_)
      (repeat (first | refine wkz ?_ | refine s_field (hr := ?_)))
      exact meet
    · by_cases h2 : x.op = 2
      · rw [if_pos (.inr h2)] at hO
        subst hO
        (repeat (first | refine wkz ?_ | refine s_field (hr := ?_)))
        refine s_call [] (hA := hcl) (hr := ?_)
        (repeat (first | refine wkz ?_ | refine s_field (hr := ?_)))
        exact meet
      · rw [if_neg (by omega)] at hO
        subst hO
        (repeat (first | refine wkz ?_ | refine s_field (hr := ?_)))
        exact meet
  repeat (first | refine wk ?_ | refine s_field (hr := ?_))
  refine t_loop (X := Nat) (fun i => i ≤ x.l.length) (fun i => [(20, I i), (19, I x.l.length), (18, .d (exprsD t x.l)), (2, .ptr 2 0), (1, .fn (.func 88) [] [.ptr 1001 0])]) (fun i => [(2, exprBox t x), (1001, .box 49 [.own 1002 (addTs O1 (nmds 1 (x.l.take i))).length]), (1002, .row 9 1 ((addTs O1 (nmds 1 (x.l.take i))).map sD))]) (fun i => x.l.length - i) 0 (Nat.zero_le _) ?_ (hh := ?_)
  rotate_left
  · exact ⟨.of rfl, box_eq rfl (by simp [nmds, atL, addTs]), row_eq rfl (by simp [nmds, atL, addTs]), trivial⟩
  intro i hi
  have hil := nmds_len 1 (x.l.take i)
  have hsz : eszs x.l = eszs (x.l.take i) + eszs (x.l.drop i) := by rw [← eszs_append, List.take_append_drop]
  have hal := addTs_len (nmds 1 (x.l.take i)) O1
  by_cases hlt : i < x.l.length
  · have hm := eszs_drop hlt
    have hp := esz_pos x.l[i]
    have hih := ih (t := t) (x := x.l[i]) (out := addTs O1 (nmds 1 (x.l.take i))) (by omega) (by omega) (by omega)
    rw [← addTs_append, ← nmds_take hlt] at hih
    simp only [tmH] at hih
    generalize addTs O1 (nmds 1 (x.l.take i)) = W at *
    repeat (first | refine wk ?_ | refine s_field (hr := ?_))
    refine s_call [] (hA := hih) (hr := ?_)
    repeat (first | refine wk ?_ | refine s_field (hr := ?_))
    exact t_next (i + 1)
  · rw [show x.l.take i = x.l from List.take_of_length_le (by omega)]
    repeat (first | refine wk ?_ | refine s_field (hr := ?_))
    exact fin
set_option maxHeartbeats 2000000 in
theorem terms_sim {t : Bool} {l : List Dfn} (hl : l.length ≤ 100) (hx : ∀ d ∈ l, esz d.e ≤ 100000) : ACalls Try.prog 34 [.d (textD t l)] [] (.d (strs false (trms l))) [] := by
  refine ACalls.intro (n := 19) Try.func34 rfl rfl (by simp) (by rfl) ?_
  simp only [argFr]
  have hb : ∀ i, i ≤ l.length → (trms (l.take i)).length ≤ i * 100000 := by
    intro i
    induction i with
    | zero => intro _; simp [trms, addTs]
    | succ i ih =>
      intro hi
      have h1 := addTs_len (nmd 1 l[i].e) (trms (l.take i))
      have h2 := nmd_len 1 l[i].e
      have h3 := hx _ (List.getElem_mem (show i < l.length by omega))
      have h4 := ih (by omega)
      rw [trms_take (by omega), Nat.add_mul]; omega
  repeat (first | refine wk ?_ | refine s_field (hr := ?_))
  refine aw_nilCell 3 0 900 9 1 rfl rfl rfl rfl ?_
  refine t_loop (X := Nat) (fun i => i ≤ l.length) (fun i => [(9, I i), (8, I l.length), (7, .d (dfnsD t l)), (3, .ptr 3 0)]) (fun i => [(3, .box 49 [.own 900 (trms (l.take i)).length]), (900, .row 9 1 ((trms (l.take i)).map sD))]) (fun i => l.length - i) 0 (Nat.zero_le _) ?_
  intro i hi
  have hbi := hb i hi
  have hbi2 : i * 100000 ≤ 100 * 100000 := Nat.mul_le_mul_right _ (by omega)
  by_cases hlt : i < l.length
  · have h3 := hx _ (List.getElem_mem hlt)
    have he := eachT_gen _ (t := t) (x := l[i].e) (out := trms (l.take i)) (Nat.lt_succ_self _) (by omega) (by omega)
    rw [← trms_take hlt] at he
    simp only [tmH] at he
    generalize trms (l.take i) = W at *
    repeat (first | refine wk ?_ | refine s_field (hr := ?_))
    refine s_call [(1001, 3), (1002, 900)] (hA := he) (hr := ?_)
    repeat (first | refine wk ?_ | refine s_field (hr := ?_))
    exact t_next (i + 1)
  · rw [show l.take i = l from List.take_of_length_le (by omega)]
    refine aw_froz 900 rfl ?_
    repeat (first | refine wk ?_ | refine s_field (hr := ?_))
    exact fin
end Go.Proofs.Ytkfeccbahpmadaa
namespace Go.Proofs.Ytkfeccbahpmadaa
open Go.RowKit
set_option maxRecDepth 100000
-- SimX

theorem addTs_take {O W : List ByteArray} {k : Nat} (h : k < W.length) : addTs O (W.take (k + 1)) = addT (addTs O (W.take k)) W[k] := by
  rw [List.take_succ_eq_append_getElem h, addTs_append]; rfl
set_option maxHeartbeats 4000000 in
theorem termsOf_sim {t : Bool} {l : List Dfn} (hl : l.length ≤ 100) (hx : ∀ d ∈ l, esz d.e ≤ 100000) : ACalls Try.prog 35 [.d (textD t l)] [] (.d (strs false (trms l))) [] := by
  refine ACalls.intro (n := 42) Try.func35 rfl rfl (by simp) (by rfl) ?_
  simp only [argFr]
  have hb : ∀ i, i ≤ l.length → (trms (l.take i)).length ≤ i * 100000 := by
    intro i
    induction i with
    | zero => intro _; simp [trms, addTs]
    | succ i ih =>
      intro hi
      have h1 := addTs_len (nmd 1 l[i].e) (trms (l.take i))
      have h2 := nmd_len 1 l[i].e
      have h3 := hx _ (List.getElem_mem (show i < l.length by omega))
      have h4 := ih (by omega)
      rw [trms_take (by omega), Nat.add_mul]; omega
  repeat (first | refine wk ?_ | refine s_field (hr := ?_))
  refine aw_nil 3 900 9 1 rfl rfl rfl ?_
  refine t_loop (X := Nat) (fun i => i ≤ l.length) (fun i => [(4, I i), (3, .own 900 (trms (l.take i)).length), (1, .ptr 1 0)]) (fun i => [(1, .box 44 [.d (dfnsD t l)]), (900, .row 9 1 ((trms (l.take i)).map sD))]) (fun i => l.length - i) 0 (Nat.zero_le _) ?_
  intro i hi
  have hbi := hb i hi
  have hbi2 : i * 100000 ≤ 100 * 100000 := Nat.mul_le_mul_right _ (by omega)
  by_cases hlt : i < l.length
  · have h3 := hx _ (List.getElem_mem hlt)
    have hnm := named_gen _ (t := t) (x := l[i].e) (op := 1) (Nat.lt_succ_self _) (by omega) (.inl rfl)
    have hnl := nmd_len 1 l[i].e
    have htk := trms_take hlt
    generalize nmd 1 l[i].e = W at *
    generalize trms (l.take i) = O at *
    repeat (first | refine wk ?_ | refine s_field (hr := ?_))
    refine d_loadEP TY rfl gOk_none rfl (IsElt.dfnP hlt) rfl rfl rfl rfl ?_
    repeat (first | refine wk ?_ | refine s_field (hr := ?_))
    refine s_call [] (hA := hnm) (hr := ?_)
    repeat (first | refine wk ?_ | refine s_field (hr := ?_))
    refine t_loop (X := Nat) (fun k => k ≤ W.length) (fun k => [(6, I k), (5, .d (strs false W)), (4, I i), (3, .own 900 (addTs O (W.take k)).length), (1, .ptr 1 0)]) (fun k => [(1, .box 44 [.d (dfnsD t l)]), (900, .row 9 1 ((addTs O (W.take k)).map sD))]) (fun k => W.length - k) 0 (Nat.zero_le _) ?_
    intro k hk
    have hal := addTs_len (W.take k) O
    rw [List.length_take] at hal
    by_cases hlk : k < W.length
    · have hst := addTs_take (O := O) hlk
      have hpo := placeOf_sim (t := true) (l := addTs O (W.take k)) (s := W[k]) (by omega)
      generalize hV : addTs O (W.take k) = V at *
      have hcm := plc_lt (l := V) (s := W[k])
      by_cases hm : W[k] ∈ V
      · have e : addT V W[k] = V := by unfold addT; rw [if_pos hm]
        rw [e] at hst
        rw [decide_eq_true hm] at hcm
        have hpl : ¬ plc V W[k] < 0 := by simpa using hcm
        repeat (first | refine wk ?_ | refine s_field (hr := ?_))
        refine s_call [] (hA := hpo) (hr := ?_)
        repeat (first | refine wk ?_ | refine s_field (hr := ?_))
        exact t_next (k + 1) (c := ⟨.of rfl, .of rfl, .of rfl, own_eq rfl (by rw [hst]), .of rfl, trivial⟩) (d := ⟨.of rfl, row_eq rfl (by rw [hst]), trivial⟩)
      · have e1 : V.map sD ++ [sD W[k]] = (addTs O (W.take (k + 1))).map sD := by rw [hst]; unfold addT; rw [if_neg hm, List.map_append]; rfl
        have e2 := congrArg List.length e1
        rw [List.length_map sD] at e2
        rw [decide_eq_false hm] at hcm
        have hpl : plc V W[k] < 0 := by simpa using hcm
        repeat (first | refine wk ?_ | refine s_field (hr := ?_))
        refine s_call [] (hA := hpo) (hr := ?_)
        repeat (first | refine wk ?_ | refine s_field (hr := ?_))
        exact t_next (k + 1)
    · rw [show W.take k = W from List.take_of_length_le (by omega), ← htk]
      repeat (first | refine wk ?_ | refine s_field (hr := ?_))
      exact t_next (i + 1)
  · rw [show l.take i = l from List.take_of_length_le (by omega)]
    refine aw_froz 900 rfl ?_
    repeat (first | refine wk ?_ | refine s_field (hr := ?_))
    exact fin
/-! ### Names that are not known -/
abbrev ukH (names : List ByteArray) (b : Bool) : Hp := [(1001, .box 4 [B b]), (1002, .box 49 [.d (strs false names)])]
def ukS (names : List ByteArray) (b : Bool) (x : Expr) : Bool := b || (decide (x.op = 2) && !decide (x.name ∈ names))
theorem ukF_sim {t : Bool} {x : Expr} {names : List ByteArray} {b : Bool} (hl : names.length ≤ 50000000) : ACalls Try.prog 86 [.d (exprA t x), .ptr 1001 0, .ptr 1002 0] (ukH names b) (.tup []) (ukH names (ukS names b x)) := by
  refine ACalls.intro (n := 17) Try.func86 rfl rfl (by simp) (by rfl) ?_
  simp only [argFr]
  unfold ukS
  cases b with
  | true =>
    simp only [ukH, Bool.true_or]
    (repeat (first | refine wkz ?_ | refine s_field (hr := ?_)))
    exact fin
  | false =>
    rw [Bool.false_or]
    by_cases h2 : x.op = 2
    · have hc := containsS_sim (t := false) (l := names) (s := x.name) (by omega)
      rw [decide_eq_true h2, Bool.true_and]
      simp only [ukH]
      (repeat (first | refine wkz ?_ | refine s_field (hr := ?_)))
      refine s_call [] (hA := hc) (hr := ?_)
      (repeat (first | refine wkz ?_ | refine s_field (hr := ?_)))
      exact fin
    · rw [decide_eq_false h2, Bool.false_and]
      simp only [ukH]
      (repeat (first | refine wkz ?_ | refine s_field (hr := ?_)))
      exact fin
end Go.Proofs.Ytkfeccbahpmadaa
