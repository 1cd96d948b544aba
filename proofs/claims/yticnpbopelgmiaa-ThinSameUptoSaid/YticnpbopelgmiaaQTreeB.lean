/-
  Sim: trees: Check, Own, words. Sim: templates: counted, which kids they use, the same, Plain, Node. Sim: templates: which kids they use; Node; steps that are the same. Templates put into templates, plain. Sim: templates put into templates: moved, gaps, put, Own, Plug.
-/
import Derived.Test.YticnpbopelgmiaaQThP
import Derived.Test.YticnpbopelgmiaaT1
import Derived.Test.YticnpbopelgmiaaS4
import Derived.Test.YticnpbopelgmiaaP1
set_option linter.unusedVariables false
set_option linter.unusedSimpArgs false
set_option linter.unusedSectionVars false
namespace Go.Proofs.Yticnpbopelgmiaa
open Go.RowKit
set_option maxRecDepth 100000

theorem treeCheck_sim {t u : Bool} {g : Gram} {x : Tree} {v : Int} (hl : g.rules.length ≤ 100000000) (hr : ∀ r ∈ g.rules, r.right.length ≤ 100000000) (hx : cnt x ≤ 100000000) :
    ACalls Try.prog 132 [.d (gramD t g), .d (treeA u x), I v] [] (.d (faultD (treeFault g x v))) [] := by
  refine ACalls.intro (n := 25) Try.func132 rfl rfl (by simp) (by rfl) ?_
  simp only [argFr]
  repeat (first | refine wk ?_)
  refine s_call [] (hA := gramCheck_sim) (hr := ?_)
  by_cases h0 : (gramFault g).code = 0
  · rw [show treeFault g x v = if cnt x ≤ 400 then (if fits g x v = true then ⟨0, 0⟩ else ⟨13, -1⟩) else ⟨6, -1⟩ by rw [treeFault, if_pos h0]]
    repeat (first | refine wk ?_)
    refine s_call [] (hA := size_sim x hx (m := 400) (by omega)) (hr := ?_)
    by_cases h4 : cnt x ≤ 400
    · rw [if_pos h4, show left_ ((400 : Nat) : Int) (cnt x) = ((400 - cnt x : Nat) : Int) by unfold left_; rw [if_pos (by omega)]; omega]
      repeat (first | refine wk ?_)
      refine s_call [] (hA := fits_sim hl hr x hx (v := v)) (hr := ?_)
      cases hf : fits g x v with
      | true =>
        rw [if_pos rfl]
        repeat (first | refine wk ?_)
        exact fin
      | false =>
        rw [if_neg (by simp)]
        repeat (first | refine wk ?_)
        exact fin
    · rw [if_neg h4, show left_ ((400 : Nat) : Int) (cnt x) = -1 by unfold left_; rw [if_neg (by omega)]]
      repeat (first | refine wk ?_)
      exact fin
  · rw [show treeFault g x v = gramFault g by rw [treeFault, if_neg h0]]
    repeat (first | refine wk ?_)
    exact fin
theorem treeOwn_sim {t : Bool} : ∀ (x : Tree), cnt x ≤ 100000000 → ACalls Try.prog 134 [.d (treeA t x)] [] (.d (treeA false x)) [] := by
  refine Tree.ind fun x ih hx => ?_
  refine ACalls.intro (n := 25) Try.func134 rfl rfl (by simp) (by rfl) ?_
  simp only [argFr]
  have hk := kids_len hx
  repeat (first | refine wk ?_)
  refine aw_nilCell 3 1 900 49 2 rfl rfl rfl rfl ?_
  refine t_loop (X := Nat) (fun i => i ≤ x.kids.length) (fun i => [(12, I i), (11, I x.kids.length), (10, .d (treesD t x.kids)), (3, .ptr 3 0), (2, .ptr 2 0), (1, .ptr 1 0)]) (fun i => [(1, .box 49 [.d (iD x.rule), .d (treesD t x.kids)]), (2, .box 49 [.d (iD 0), .d (.raw (.slice none 0 0))]), (3, .box 49 [.d (iD x.rule), .own 900 (x.kids.take i).length]), (900, .row 49 2 ((x.kids.take i).map (treeD false)))]) (fun i => x.kids.length - i) 0 (Nat.zero_le _) ?_
  intro i hi
  by_cases hlt : i < x.kids.length
  · have e : (x.kids.take (i + 1)).map (treeD false) = (x.kids.take i).map (treeD false) ++ [treeA false x.kids[i]] := by
      rw [List.take_succ_eq_append_getElem hlt, List.map_append]; simp [treeA_eq]
    repeat (first | refine wk ?_)
    refine s_call [] (hA := ih x.kids[i] (List.getElem_mem hlt) (kid_le hx hlt).1) (hr := ?_)
    repeat (first | refine wk ?_)
    exact t_next (i + 1)
  · rw [show x.kids.take i = x.kids from List.take_of_length_le (by omega)]
    refine aw_froz 900 rfl ?_
    repeat (first | refine wk ?_)
    exact fin

/-! ### Words -/
theorem word_sim {t u : Bool} {g : Gram} (hg : g.ok) : ∀ (x : Tree) (v : Int), fits g x v = true → cnt x ≤ 400 → ∀ out : List Int, out.length + 10 * cnt x ≤ 1000000 →
    ACalls Try.prog 174 [.d (gramD t g), .d (treeA u x), .own 1000 out.length] [(1000, .row 3 1 (out.map iD))] (.own 1000 (out ++ wordT g x).length) [(1000, .row 3 1 ((out ++ wordT g x).map iD))] := by
  refine Tree.ind fun x ih v hf hx out ho => ?_
  refine ACalls.intro (n := 41) Try.func174 rfl rfl (by simp) (by rfl) ?_
  simp only [argFr]
  obtain ⟨i, hi, e1, e2, e3, e4, e5⟩ := fits_parts hf
  have hk := kids_len hx
  have hlen := hg.rules
  have hrt := hg.right _ (List.getElem_mem hi)
  have hwl := wordT_le 10 hg.right x
  repeat (first | refine wk ?_)
  refine t_loop (X := Nat × Nat × List Int) (fun y => y.1 ≤ g.rules[i].right.length ∧ y.2.1 = (kids (g.rules[i].right.take y.1)).length ∧ wordT g x = y.2.2 ++ wordL g (g.rules[i].right.drop y.1) (x.kids.drop y.2.1) ∧ y.2.2.length ≤ y.1 + 10 * cnts (x.kids.take y.2.1))
    (fun y => [(18, I y.1), (17, I g.rules[i].right.length), (16, .d (ints t g.rules[i].right)), (7, I y.2.1), (4, .ptr 4 0), (3, .ptr 3 0), (2, .own 1000 (out ++ y.2.2).length)])
    (fun y => [(3, gramBox t g), (4, .box 49 [.d (iD x.rule), .d (treesD u x.kids)]), (1000, .row 3 1 ((out ++ y.2.2).map iD))]) (fun y => g.rules[i].right.length - y.1) (0, 0, []) ⟨Nat.zero_le _, by simp [kids], by simpa using e5, by simp⟩ ?_
  rintro ⟨j, q, pre⟩ ⟨h1, h2, h3, h4⟩
  dsimp only at h1 h2 h3 h4 ⊢
  have hpl : (wordT g x).length = pre.length + (wordL g (g.rules[i].right.drop j) (x.kids.drop q)).length := by rw [h3, List.length_append]
  have hol : (out ++ pre).length = out.length + pre.length := List.length_append
  by_cases hlt : j < g.rules[i].right.length
  · have hlo := hg.lo _ (List.getElem_mem hi) _ (List.getElem_mem hlt)
    have hte := hg.terms
    by_cases hs : g.rules[i].right[j] < 0
    · rw [wordL_t hlt hs, List.length_cons] at hpl
      rw [wordL_t hlt hs] at h3
      have e := kids_snoc g.rules[i].right j hlt
      rw [kids_neg hs, List.append_nil] at e
      repeat (first | refine wk ?_)
      exact t_next (j + 1, q, pre ++ [-1 - g.rules[i].right[j]]) (a := ⟨by omega, by dsimp only; rw [e]; exact h2, by simpa using h3, by simp; omega⟩) (b := by dsimp only; omega)
    · have hq : q < x.kids.length := by have := kids_take_le hlt hs; omega
      have hq2 : q < (kids g.rules[i].right).length := by omega
      have e := kids_snoc g.rules[i].right j hlt
      rw [kids_pos (by omega)] at e
      have hfk := fitss_at e4 hq hq2
      have hkl := kid_le hx hq
      rw [wordL_v hlt hs hq, List.length_append] at hpl
      rw [wordL_v hlt hs hq] at h3
      have hc1 := cnt_eq x
      have hc2 := cnts_take hq
      have hc3 := cnts_drop hq
      have hc4 : cnts x.kids = cnts (x.kids.take q) + cnts (x.kids.drop q) := by rw [← cnts_append, List.take_append_drop]
      have hc5 := wordT_le 10 hg.right x.kids[q]
      have hol2 : (out ++ pre).length + 10 * cnt x.kids[q] ≤ 1000000 := by omega
      repeat (first | refine wk ?_)
      refine s_call [] (hA := ih x.kids[q] (List.getElem_mem hq) _ hfk hkl.1 (out ++ pre) hol2) (hr := ?_)
      repeat (first | refine wk ?_)
      exact t_next (j + 1, q + 1, pre ++ wordT g x.kids[q]) (a := ⟨by omega, by dsimp only; rw [e, List.length_append]; simp; omega, by simpa using h3, by simp only [List.length_append]; omega⟩) (b := by dsimp only; omega)
  · rw [wordL_end hlt, List.append_nil] at h3
    repeat (first | refine wk ?_)
    rw [h3]
    exact fin
theorem word0_sim {t u : Bool} {g : Gram} {x : Tree} {v : Int} (hg : g.ok) (hf : fits g x v = true) (hx : cnt x ≤ 400) :
    ACalls Try.prog 174 [.d (gramD t g), .d (treeA u x), .d (.raw (.slice none 0 0))] [] (.own 900 (wordT g x).length) [(900, .row 3 1 ((wordT g x).map iD))] :=
  ACalls.nilArg (pre := [gramD t g, treeA u x]) (post := []) (word_sim hg x v hf hx [] (by simp; omega))
end Go.Proofs.Yticnpbopelgmiaa
namespace Go.Proofs.Yticnpbopelgmiaa
open Go.RowKit
set_option maxRecDepth 100000

/-! ### Counted -/
/-! ### The same -/
theorem sameTrees_sim {t u : Bool} {l : List Tree} (hN : cnts l ≤ 100000000) : ACalls Try.prog 49 [.d (treesD t l), .d (treesD u l)] [] (B true) [] := by
  have hl := Nat.le_trans (cnts_len l) hN
  refine ACalls.intro (n := 27) Try.func49 rfl rfl (by simp) (by rfl) ?_
  simp only [argFr]
  repeat (first | refine wk ?_)
  refine t_loop (X := Nat) (fun x => x ≤ l.length) (fun x => [(5, I x), (0, .d (treesD t l)), (1, .d (treesD u l))]) (fun _ => []) (fun x => l.length - x) 0 (Nat.zero_le _) ?_
  intro i h1
  by_cases hlt : i < l.length
  · have e3 := cnts_mem (List.getElem_mem hlt)
    have s1 := sameTree_sim (t := t) (u := u) (x := l[i]) (y := l[i]) (by omega) (by omega)
    rw [ordT_refl, decide_eq_true rfl] at s1
    repeat (first | refine wk ?_)
    refine s_call [] (hA := s1) (hr := ?_)
    repeat (first | refine wk ?_)
    exact t_next (i + 1)
  · repeat (first | refine wk ?_)
    exact fin

/-! ### The template of a rule that stays -/
end Go.Proofs.Yticnpbopelgmiaa
namespace Go.Proofs.Yticnpbopelgmiaa
open Go.RowKit
set_option maxRecDepth 100000

theorem bump_row {u : List Int} {n : Int} (hn : n.toNat < u.length) : (u.map iD).set n.toNat (iD (u[n.toNat] + 1)) = (bump u n).map iD := by
  rw [bump, List.map_set, List.getD_eq_getElem?_getD, List.getElem?_eq_getElem hn]; rfl
end Go.Proofs.Yticnpbopelgmiaa
namespace Go.Proofs.Yticnpbopelgmiaa
open Go.RowKit

/-- The number of a hole that is moved. -/
def mvN (o n over by_ : Int) : Int := if (o = 2 ∨ o = 4) ∧ over < n then n + by_ else n
mutual
def movF (over by_ : Int) : Frag → Frag
  | .mk o n l => .mk o (mvN o n over by_) (movL over by_ l)
def movL (over by_ : Int) : List Frag → List Frag
  | [] => []
  | x :: r => movF over by_ x :: movL over by_ r
end
theorem movF_eq (o b : Int) (x : Frag) : movF o b x = .mk x.op (mvN x.op x.n o b) (movL o b x.l) := by cases x; rw [movF]; rfl
theorem movL_append (o b : Int) : ∀ (x y : List Frag), movL o b (x ++ y) = movL o b x ++ movL o b y
  | [], y => rfl
  | a :: x, y => by simp only [List.cons_append, movL, movL_append o b x y]
theorem movL_take {o b : Int} {l : List Frag} {i : Nat} (h : i < l.length) : movL o b (l.take (i + 1)) = movL o b (l.take i) ++ [movF o b l[i]] := by
  rw [List.take_succ_eq_append_getElem h, movL_append]; simp [movL]
theorem movL_len (o b : Int) : ∀ l : List Frag, (movL o b l).length = l.length
  | [] => rfl
  | x :: l => by simp [movL, movL_len o b l]
mutual
theorem movF_zero (o : Int) : ∀ x : Frag, movF o 0 x = x
  | .mk a n l => by
    rw [movF, movL_zero o l, mvN]
    split <;> simp
theorem movL_zero (o : Int) : ∀ l : List Frag, movL o 0 l = l
  | [] => rfl
  | x :: l => by rw [movL, movF_zero o x, movL_zero o l]
end
/-! ### Numbers that are not too great -/
mutual
def NbF (B : Int) : Frag → Prop
  | .mk _ n l => (-B ≤ n ∧ n ≤ B) ∧ NbL B l
def NbL (B : Int) : List Frag → Prop
  | [] => True
  | x :: r => NbF B x ∧ NbL B r
end
theorem NbF_eq {B : Int} {x : Frag} (h : NbF B x) : (-B ≤ x.n ∧ x.n ≤ B) ∧ NbL B x.l := by cases x; exact h
theorem NbL_mem {B : Int} {x : Frag} : ∀ {l : List Frag}, NbL B l → x ∈ l → NbF B x
  | y :: l, h, hm => by
    rcases List.mem_cons.1 hm with rfl | hm
    · exact h.1
    · exact NbL_mem h.2 hm
/-! ### All that comes in between is not too great -/
end Go.Proofs.Yticnpbopelgmiaa
namespace Go.Proofs.Yticnpbopelgmiaa
open Go.RowKit
set_option maxRecDepth 100000
-- SimX

set_option maxHeartbeats 4000000 in
theorem moved_gen : ∀ (N : Nat) {t : Bool} {l : List Frag} {o b : Int}, fszs l < N → fszs l ≤ 100000000 → NbL 1000000000 l → -1000000000 ≤ b → b ≤ 1000000000 → ACalls Try.prog 115 [.d (fragsD t l), I o, I b] [] (.d (fragsD false (movL o b l))) [] := by
  intro N
  induction N with
  | zero => intro t l o b h; omega
  | succ N ih =>
  intro t l o b hn hN hB hb0 hb1
  have hl := Nat.le_trans (fszs_len l) hN
  refine ACalls.intro (n := 52) Try.func115 rfl rfl (by simp) (by rfl) ?_
  simp only [argFr]
  repeat (first | refine wk ?_ | refine s_field (hr := ?_))
  refine aw_nil 7 900 67 3 rfl rfl rfl ?_
  refine t_loop (X := Nat) (fun i => i ≤ l.length) (fun i => [(13, I i), (12, I l.length), (11, .d (fragsD t l)), (7, .own 900 (movL o b (l.take i)).length), (1, I o), (2, I b)]) (fun i => [(900, .row 67 3 ((movL o b (l.take i)).map (fragD false)))]) (fun i => l.length - i) 0 (Nat.zero_le _) ?_
  intro i h1
  by_cases hlt : i < l.length
  · have e1 := movL_take (o := o) (b := b) hlt
    have e2 := movF_eq o b l[i]
    have e3 := fszs_mem (List.getElem_mem hlt)
    have e4 := fsz_eq l[i]
    have hm := movL_len o b (l.take i)
    obtain ⟨⟨n0, n1⟩, hB2⟩ := NbF_eq (NbL_mem hB (List.getElem_mem hlt))
    have hih := ih (t := t) (l := l[i].l) (o := o) (b := b) (by omega) (by omega) hB2 hb0 hb1
    have e : (movL o b (l.take i)).map (fragD false) ++ [D.agg [iD l[i].op, iD (mvN l[i].op l[i].n o b), fragsD false (movL o b l[i].l)]] = (movL o b (l.take (i + 1))).map (fragD false) := by rw [e1, e2, List.map_append]; simp only [List.map_cons, List.map_nil, fragA_eq]; rfl
    have hlen : (movL o b (l.take i)).length ≤ 100000000 := by rw [hm, List.length_take]; omega
    by_cases hop : l[i].op = 2 ∨ l[i].op = 4
    · by_cases hov : o < l[i].n
      · rw [show mvN l[i].op l[i].n o b = l[i].n + b from if_pos ⟨hop, hov⟩] at e
        replace e : (movL o b (l.take i)).map (fragD false) ++ [D.agg [iD l[i].op, .raw (.int .i64 (l[i].n + b)), fragsD false (movL o b l[i].l)]] = (movL o b (l.take (i + 1))).map (fragD false) := e
        rcases hop with hop | hop
        · repeat (first | refine wk ?_ | refine s_field (hr := ?_))
          refine s_call [] (hA := hih) (hr := ?_)
          repeat (first | refine wk ?_ | refine s_field (hr := ?_))
          rw [e, List.length_map]
          exact t_next (i + 1)
        · repeat (first | refine wk ?_ | refine s_field (hr := ?_))
          refine s_call [] (hA := hih) (hr := ?_)
          repeat (first | refine wk ?_ | refine s_field (hr := ?_))
          rw [e, List.length_map]
          exact t_next (i + 1)
      · rw [show mvN l[i].op l[i].n o b = l[i].n from if_neg (fun h => hov h.2)] at e
        rcases hop with hop | hop
        · repeat (first | refine wk ?_ | refine s_field (hr := ?_))
          refine s_call [] (hA := hih) (hr := ?_)
          repeat (first | refine wk ?_ | refine s_field (hr := ?_))
          rw [e, List.length_map]
          exact t_next (i + 1)
        · repeat (first | refine wk ?_ | refine s_field (hr := ?_))
          refine s_call [] (hA := hih) (hr := ?_)
          repeat (first | refine wk ?_ | refine s_field (hr := ?_))
          rw [e, List.length_map]
          exact t_next (i + 1)
    · rw [show mvN l[i].op l[i].n o b = l[i].n from if_neg (fun h => hop h.1)] at e
      have h2 : ¬ l[i].op = 2 := fun h => hop (.inl h)
      have h4 : ¬ l[i].op = 4 := fun h => hop (.inr h)
      repeat (first | refine wk ?_ | refine s_field (hr := ?_))
      refine s_call [] (hA := hih) (hr := ?_)
      repeat (first | refine wk ?_ | refine s_field (hr := ?_))
      --@
      (repeat (first | refine wkz ?_ | refine s_field (hr := ?_)))
      repeat (first | refine wk ?_ | refine s_field (hr := ?_))
      rw [e, List.length_map]
      exact t_next (i + 1)
  · rw [show l.take i = l from List.take_of_length_le (by omega)]
    refine aw_froz 900 rfl ?_
    repeat (first | refine wk ?_ | refine s_field (hr := ?_))
    exact fin
theorem ownP_sim {t : Bool} {l : List Frag} (h1 : fszs l ≤ 100000000) (h2 : NbL 1000000000 l) : ACalls Try.prog 63 [.d (fragsD t l)] [] (.d (fragsD false l)) [] := by
  have hm := moved_gen _ (t := t) (l := l) (o := 0) (b := 0) (Nat.lt_succ_self _) h1 h2 (by decide) (by decide)
  rw [movL_zero] at hm
  refine ACalls.intro (n := 5) Try.func63 rfl rfl (by simp) (by rfl) ?_
  simp only [argFr]
  repeat (first | refine wk ?_ | refine s_field (hr := ?_))
  refine s_call [] (hA := hm) (hr := ?_)
  repeat (first | refine wk ?_ | refine s_field (hr := ?_))
  exact fin
end Go.Proofs.Yticnpbopelgmiaa
