/-
  Sim: short: unit, parts, count. Short, plain: what the rules of a nonterminal give, one behind the other. Sim: short: rule. Sim: the length of a row of the call's own, that operations of the same region may write in any order, as long as its length stays.
-/
import Derived.Test.YticnpbopelgmiaaQPlugP
import Derived.Test.YticnpbopelgmiaaF2
import Derived.Test.YticnpbopelgmiaaQTreeA
import Derived.Test.YticnpbopelgmiaaS5
set_option linter.unusedVariables false
set_option linter.unusedSimpArgs false
set_option linter.unusedSectionVars false
namespace Go.Proofs.Yticnpbopelgmiaa
open Go.RowKit
set_option maxRecDepth 100000
-- SimX

theorem unit_sim {t : Bool} {l : Int} {right : List Int} (hl : right.length ≤ 100000000) : ACalls Try.prog 139 [.d (.agg [iD l, ints t right])] [] (I (unitOf right)) [] := by
  refine ACalls.intro (n := 12) Try.func139 rfl rfl (by simp) (by rfl) ?_
  simp only [argFr]
  unfold unitOf
  by_cases h1 : right.length = 1
  · rw [if_pos h1]
    match right, h1 with
    | [x], _ =>
      by_cases h0 : 0 ≤ x
      · rw [show (if 0 ≤ [x].getD 0 0 then [x].getD 0 0 else -1) = x from if_pos h0]
        have e : maxI ([x][0]) (-1) = x := by show maxI x (-1) = x; unfold maxI; split <;> omega
        repeat (first | refine wk ?_ | refine s_field (hr := ?_))
        rw [e]
        exact fin
      · rw [show (if 0 ≤ [x].getD 0 0 then [x].getD 0 0 else -1) = -1 from if_neg h0]
        have e : maxI ([x][0]) (-1) = -1 := by show maxI x (-1) = -1; unfold maxI; split <;> omega
        repeat (first | refine wk ?_ | refine s_field (hr := ?_))
        rw [e]
        exact fin
  · rw [if_neg h1]
    repeat (first | refine wk ?_ | refine s_field (hr := ?_))
    exact fin
theorem sparts_gen : ∀ (N : Nat) {t : Bool} {l : List Frag}, fszs l < N → fszs l ≤ 100000000 → ACalls Try.prog 140 [.d (fragsD t l)] [] (I (fszs l)) [] := by
  intro N
  induction N with
  | zero => intro t l h; omega
  | succ N ih =>
  intro t l hn hN
  have hl := Nat.le_trans (fszs_len l) hN
  refine ACalls.intro (n := 21) Try.func140 rfl rfl (by simp) (by rfl) ?_
  simp only [argFr]
  repeat (first | refine wk ?_ | refine s_field (hr := ?_))
  refine t_loop (X := Nat × Nat) (fun x => x.1 ≤ l.length ∧ x.2 + x.1 = l.length + fszs (l.take x.1)) (fun x => [(10, I x.1), (9, I l.length), (8, .d (fragsD t l)), (3, I x.2)]) (fun _ => []) (fun x => l.length - x.1) (0, l.length) ⟨Nat.zero_le _, by simp [fszs]⟩ ?_
  rintro ⟨i, v⟩ ⟨h1, h2⟩
  dsimp only at h1 h2 ⊢
  by_cases hlt : i < l.length
  · have e1 := fszs_take hlt
    have e3 := fszs_mem (List.getElem_mem hlt)
    have e2 := fsz_eq l[i]
    have e4 : fszs l = fszs (l.take (i + 1)) + fszs (l.drop (i + 1)) := fszs_split _ _
    have e5 : (l.take i).length ≤ fszs (l.take i) := fszs_len _
    repeat (first | refine wk ?_ | refine s_field (hr := ?_))
    refine s_call [] (hA := ih (t := t) (l := l[i].l) (by omega) (by omega)) (hr := ?_)
    repeat (first | refine wk ?_ | refine s_field (hr := ?_))
    exact t_next (i + 1, v + fszs l[i].l) (a := ⟨by omega, by dsimp only; omega⟩) (b := by dsimp only; omega)
  · rw [List.take_of_length_le (by omega)] at h2
    obtain rfl : v = fszs l := by omega
    repeat (first | refine wk ?_ | refine s_field (hr := ?_))
    exact fin
/-- The maker's box, and its rows. -/
abbrev shH (t : Bool) (g : Gram) (gv : List Int) (R : List Rule) (F : List (List Frag)) : Hp :=
  [(1000, .box 126 [I g.vars, I g.terms, I g.start, .d (rulesD t g.rules), .own 1001 g.vars.toNat, I g.vars, I g.terms, I g.start, .own 1002 R.length, .own 1003 F.length, .d (.raw (.slice none 0 0))]), (1001, .row 3 1 (gv.map iD)), (1002, .row 41 2 (R.map (ruleD false))), (1003, .row 65 1 (F.map (fragsD false)))]
/-- How many a nonterminal's first rules give, as far as too many. -/
def cwp (g : Gram) (bl : List Int) (i : Nat) : Int := min ((((bl.take i).flatMap (wayOf g)).length : Nat) : Int) 161
theorem cwp_next {g : Gram} {bl : List Int} {i : Nat} (h : i < bl.length) : cwp g bl (i + 1) = minI (cwp g bl i + min ((wayOf g bl[i]).length : Int) 161) 161 := by
  unfold cwp minI
  rw [List.take_succ_eq_append_getElem h, List.flatMap_append, List.length_append]
  simp only [List.flatMap_cons, List.flatMap_nil, List.append_nil]
  split <;> omega
theorem wayOf_len {g : Gram} {i : Int} : min ((wayOf g i).length : Int) 161 = if unitOf (rightAt g i) < 0 then 1 else cw g (unitOf (rightAt g i)) := by
  unfold wayOf cw
  by_cases h : unitOf (rightAt g i) < 0
  · rw [if_pos h, if_pos h]; rfl
  · rw [if_neg h, if_neg h, List.length_map]
theorem cwp_range (g : Gram) (bl : List Int) (i : Nat) : 0 ≤ cwp g bl i ∧ cwp g bl i ≤ 161 := by unfold cwp; omega
theorem cw_range (g : Gram) (v : Int) : 0 ≤ cw g v ∧ cw g v ≤ 161 := by unfold cw; omega
/-- What is known once a nonterminal was counted. -/
def cntM (g : Gram) : Nat → Nat → List Int → List Int
  | 0, _, gv => gv
  | n + 1, v, gv => if 0 ≤ gv.getD v 0 then gv else ((by_ g v).foldl (fun gw i => if unitOf (rightAt g i) < 0 then gw else cntM g n (unitOf (rightAt g i)).toNat gw) gv).set v (cw g v)
def cntS (g : Gram) (n : Nat) (gw : List Int) (i : Int) : List Int := if unitOf (rightAt g i) < 0 then gw else cntM g n (unitOf (rightAt g i)).toNat gw
theorem cntM_eq (g : Gram) (n v : Nat) (gv : List Int) : cntM g (n + 1) v gv = if 0 ≤ gv.getD v 0 then gv else ((by_ g v).foldl (cntS g n) gv).set v (cw g v) := by rw [cntM]; rfl
theorem foldl_ok {g : Gram} {f : List Int → Int → List Int} (h : ∀ gw i, GOk g gw → GOk g (f gw i)) : ∀ (l : List Int) (gv : List Int), GOk g gv → GOk g (l.foldl f gv)
  | [], _, hg => hg
  | x :: l, gv, hg => foldl_ok h l _ (h _ x hg)
theorem cntM_ok {g : Gram} : ∀ (n v : Nat) (gv : List Int), GOk g gv → GOk g (cntM g n v gv)
  | 0, _, _, h => by rw [cntM]; exact h
  | n + 1, v, gv, h => by
    rw [cntM_eq]
    split
    · exact h
    · exact (foldl_ok (fun gw i hw => by unfold cntS; split; exact hw; exact cntM_ok n _ _ hw) _ _ h).set v
theorem cntS_ok {g : Gram} {n : Nat} {gw : List Int} {i : Int} (h : GOk g gw) : GOk g (cntS g n gw i) := by
  unfold cntS
  split
  · exact h
  · exact cntM_ok _ _ _ h
theorem foldl_take {f : List Int → Int → List Int} {l : List Int} {gv : List Int} {i : Nat} (h : i < l.length) : (l.take (i + 1)).foldl f gv = f ((l.take i).foldl f gv) l[i] := by
  rw [List.take_succ_eq_append_getElem h, List.foldl_append]; rfl
theorem byl_le (g : Gram) (v : Int) : (by_ g v).length ≤ g.rules.length := by
  have key : ∀ (v : Int) (rs : List Rule) (i : Nat), (byR rs v i).length ≤ rs.length := fun v rs => by
    induction rs with
    | nil => intro i; simp [byR]
    | cons r rs ih => intro i; have := ih (i + 1); rw [byR]; split <;> simp <;> omega
  exact key v g.rules 0
set_option maxHeartbeats 1000000 in
theorem count_gen {g : Gram} (hg : g.ok) (hc : cycL g = []) {t : Bool} {R : List Rule} {F : List (List Frag)} : ∀ (n : Nat) (v : Nat) (gv : List Int), rnk g v < n → (v : Int) < g.vars → GOk g gv →
    ACalls Try.prog 90 [.ptr 1000 0, I v] (shH t g gv R F) (I (cw g v)) (shH t g (cntM g n v gv) R F) := by
  intro n
  induction n with
  | zero => intro v gv h; omega
  | succ n ih =>
  intro v gv hn hv hgv
  have hvl := hgv.1
  have hvv := hg.vars
  have hlt : v < gv.length := by omega
  have hgd : gv.getD v 0 = gv[v] := by simp [List.getD_eq_getElem?_getD, hlt]
  rw [cntM_eq, hgd]
  by_cases hpos : 0 ≤ gv[v]
  · have hval : gv[v] = cw g v := by
      rcases hgv.2 v hlt with h | h
      · omega
      · exact h
    rw [if_pos hpos, ← hval]
    refine ACalls.intro (n := 63) Try.func90 rfl rfl (by simp) (by rfl) ?_
    simp only [argFr]
    repeat (first | refine wk ?_ | refine s_field (hr := ?_))
    exact fin
  · rw [if_neg hpos]
    have hby := by_sim (t := t) (g := g) (v := (v : Int)) (by have := hg.rules; omega)
    have hw := ways_eq hg hc (v := (v : Int)) (by omega) hv
    have hbll := byl_le g v
    have hrl := hg.rules
    have hin : ∀ i (h : i < (by_ g v).length), ∃ k, ∃ hk : k < g.rules.length, (by_ g v)[i] = (k : Int) ∧ (by_ g v)[i] ∈ by_ g v := fun i h => by
      obtain ⟨k, hk, e1, e2⟩ := by_mem.1 (List.getElem_mem h)
      exact ⟨k, hk, e1, List.getElem_mem h⟩
    have step : ∀ i (h : i < (by_ g v).length) (gw : List Int), GOk g gw → unitOf (rightAt g (by_ g v)[i]) < 0 ∨ ∃ u : Nat, unitOf (rightAt g (by_ g v)[i]) = (u : Int) ∧ ACalls Try.prog 90 [.ptr 1000 0, I u] (shH t g gw R F) (I (cw g u)) (shH t g (cntM g n u gw) R F) := fun i h gw hgw => by
      by_cases hu : unitOf (rightAt g (by_ g v)[i]) < 0
      · exact .inl hu
      · obtain ⟨k, hk, e1, hm⟩ := hin i h
        have hs := unit_step hm (by omega)
        obtain ⟨u0, u1⟩ := step_in hg (by omega) hv hs
        have hr := rnk_lt hg hc (by omega) hv hs
        obtain ⟨u, hu2⟩ : ∃ u : Nat, unitOf (rightAt g (by_ g v)[i]) = (u : Int) := ⟨(unitOf (rightAt g (by_ g v)[i])).toNat, by omega⟩
        rw [hu2] at hr u1
        exact .inr ⟨u, hu2, ih u gw (by omega) u1 hgw⟩
    have hend : cwp g (by_ g v) (by_ g v).length = cw g v := by unfold cwp cw; rw [hw, List.take_length]
    generalize by_ g v = bl at *
    refine ACalls.intro (n := 63) Try.func90 rfl rfl (by simp) (by rfl) ?_
    simp only [argFr]
    repeat (first | refine wk ?_ | refine s_field (hr := ?_))
    refine s_call [] (hA := hby) (hr := ?_)
    repeat (first | refine wk ?_ | refine s_field (hr := ?_))
    have e : (0 : Int) = cwp g bl 0 := by show (0 : Int) = min ((0 : Nat) : Int) 161; decide
    refine t_loop (X := Nat) (fun i => i ≤ bl.length) (fun i => [(32, I i), (31, I bl.length), (30, .own 5 bl.length), (5, I (cwp g bl i)), (1, I v), (0, .ptr 1000 0)]) (fun i => (5, .row 3 1 (bl.map iD)) :: shH t g ((bl.take i).foldl (cntS g n) gv) R F) (fun i => bl.length - i) 0 (Nat.zero_le _) ?_
    intro i hi
    have hgw := foldl_ok (g := g) (f := cntS g n) (fun gw i hw => cntS_ok (n := n) (i := i) hw) (bl.take i) gv hgv
    have hgwl := hgw.1
    by_cases hlt2 : i < bl.length
    · obtain ⟨k, hk, e1, hm⟩ := hin i hlt2
      have hft := foldl_take (f := cntS g n) (gv := gv) hlt2
      have hcn := cwp_next (g := g) hlt2
      have hwl := wayOf_len (g := g) (i := bl[i])
      have hcr := cwp_range g bl i
      have hrk : rightAt g bl[i] = g.rules[k].right := by rw [e1]; exact rightAt_nat hk
      have hrr := hg.right _ (List.getElem_mem hk)
      have hun : ACalls Try.prog 139 [.d (.agg [iD g.rules[k].left, ints t g.rules[k].right])] [] (I (unitOf (rightAt g bl[i]))) [] := by rw [hrk]; exact unit_sim (by omega)
      generalize (bl.take i).foldl (cntS g n) gv = gw at *
      rcases step i hlt2 gw hgw with hu | ⟨u, hu, hih⟩
      · rw [if_pos hu] at hwl
        rw [hwl] at hcn
        have e : cntS g n gw bl[i] = gw := by unfold cntS; rw [if_pos hu]
        rw [e] at hft
        clear e
        have e : gw.map iD = ((bl.take (i + 1)).foldl (cntS g n) gv).map iD := by rw [hft]
        have hge := unitOf_ge (rightAt g bl[i])
        generalize unitOf (rightAt g bl[i]) = un at *
        repeat (first | refine wk ?_ | refine s_field (hr := ?_))
        refine s_call [] (hA := hun) (hr := ?_)
        repeat (first | refine wk ?_ | refine s_field (hr := ?_))
        --@
        exact t_next (i + 1) (c := ⟨.of rfl, .of rfl, .of rfl, int_eq rfl hcn.symm, .of rfl, .of rfl, trivial⟩)
      · rw [hu] at hun hwl
        rw [if_neg (by omega)] at hwl
        rw [hwl] at hcn
        have e : cntS g n gw bl[i] = cntM g n u gw := by unfold cntS; rw [hu, if_neg (by omega)]; rfl
        rw [e] at hft
        have hcu := cw_range g u
        clear e
        generalize cntM g n u gw = gz at *
        have e : gz.map iD = ((bl.take (i + 1)).foldl (cntS g n) gv).map iD := by rw [hft]
        repeat (first | refine wk ?_ | refine s_field (hr := ?_))
        refine s_call [] (hA := hun) (hr := ?_)
        repeat (first | refine wk ?_ | refine s_field (hr := ?_))
        refine s_call [] (hA := hih) (hr := ?_)
        repeat (first | refine wk ?_ | refine s_field (hr := ?_))
        --@
        exact t_next (i + 1) (c := ⟨.of rfl, .of rfl, .of rfl, int_eq rfl hcn.symm, .of rfl, .of rfl, trivial⟩)
    · have hie : i = bl.length := by omega
      have hfl : bl.take i = bl := List.take_of_length_le (by omega)
      rw [hfl] at hgw hgwl
      rw [hfl, show cwp g bl i = cw g v by rw [hie, hend]]
      have hvl2 : v < (bl.foldl (cntS g n) gv).length := by omega
      generalize bl.foldl (cntS g n) gv = gw at *
      have e : (gw.map iD).set v (iD (cw g v)) = (gw.set v (cw g v)).map iD := by rw [List.map_set]
      repeat (first | refine wk ?_ | refine s_field (hr := ?_))
      --@
      exact fin
end Go.Proofs.Yticnpbopelgmiaa
namespace Go.Proofs.Yticnpbopelgmiaa
open Go.RowKit

structure SS where
  gv : List Int
  R : List Rule
  F : List (List Frag)
def rulL (f : Int → SS → Bool × SS) : List Int → SS → Bool × SS
  | [], s => (true, s)
  | x :: l, s => if (f x s).1 = true then rulL f l (f x s).2 else (false, (f x s).2)
def rulM (g : Gram) (v : Int) : Nat → List Int → Int → SS → Bool × SS
  | 0, _, _, s => (true, s)
  | n + 1, p, i, s => if unitOf (rightAt g i) < 0 then (decide (fszs (wrapF p (nodeF i (kN g i))) ≤ 60), ⟨s.gv, s.R ++ [⟨v, rightAt g i⟩], s.F ++ [wrapF p (nodeF i (kN g i))]⟩)
    else if cw g (unitOf (rightAt g i)) = 0 then (true, ⟨cntM g 65 (unitOf (rightAt g i)).toNat s.gv, s.R, s.F⟩)
    else rulL (fun k s => rulM g v n (p ++ [i]) k s) (by_ g (unitOf (rightAt g i))) ⟨cntM g 65 (unitOf (rightAt g i)).toNat s.gv, s.R, s.F⟩
/-- What came of rules from E on: all of them, or one is too great. -/
structure Gives (g : Gram) (v : Int) (p : List Int) (E : List (List Int)) (s : SS) (r : Bool × SS) : Prop where
  gv : GOk g s.gv → GOk g r.2.gv
  len : s.F.length = s.R.length → r.2.F.length = r.2.R.length
  le : r.2.R.length ≤ s.R.length + E.length
  all : r.1 = true → r.2.R = s.R ++ E.map (ruleW g v) ∧ r.2.F = s.F ++ E.map (fun w => wrapF p (wayF g w)) ∧ ∀ w ∈ E, fszs (wrapF p (wayF g w)) ≤ 60
  one : r.1 = false → ∃ w ∈ E, 60 < fszs (wrapF p (wayF g w))
theorem rulL_gives {g : Gram} {v : Int} {p : List Int} {f : Int → SS → Bool × SS} : ∀ (l : List Int) (s : SS), (∀ k ∈ l, ∀ s, Gives g v p (wayOf g k) s (f k s)) → Gives g v p (l.flatMap (wayOf g)) s (rulL f l s)
  | [], s, _ => ⟨id, id, by simp [rulL], fun _ => by simp [rulL], fun h => by cases h⟩
  | x :: l, s, h => by
    have h1 := h x (by simp) s
    have h2 := rulL_gives l (f x s).2 (fun k hk => h k (by simp [hk]))
    rw [rulL, List.flatMap_cons]
    cases hb : (f x s).1 with
    | true =>
      rw [if_pos rfl]
      obtain ⟨a1, a2, a3⟩ := h1.all hb
      refine ⟨fun q => h2.gv (h1.gv q), fun q => h2.len (h1.len q), ?_, fun hr => ?_, fun hr => ?_⟩
      · have := h2.le
        rw [a1, List.length_append, List.length_map] at this
        rw [List.length_append]; omega
      · obtain ⟨b1, b2, b3⟩ := h2.all hr
        rw [b1, b2, a1, a2, List.map_append, List.map_append]
        refine ⟨by simp, by simp, fun w hw => ?_⟩
        rcases List.mem_append.1 hw with hw | hw
        · exact a3 w hw
        · exact b3 w hw
      · obtain ⟨w, hw, hs⟩ := h2.one hr
        exact ⟨w, List.mem_append.2 (.inr hw), hs⟩
    | false =>
      rw [if_neg (by decide)]
      obtain ⟨w, hw, hs⟩ := h1.one hb
      refine ⟨h1.gv, h1.len, ?_, fun h => (by cases h), fun _ => ⟨w, List.mem_append.2 (.inl hw), hs⟩⟩
      have := h1.le
      rw [List.length_append]; dsimp only; omega
section
variable {g : Gram} (hg : g.ok) (hc : cycL g = [])
include hg hc
theorem rulM_gives (v : Int) : ∀ (n : Nat) (v0 : Int) (p : List Int) (i : Int) (s : SS), 0 ≤ v0 → v0 < g.vars → i ∈ by_ g v0 → rnk g v0 < n → Gives g v p (wayOf g i) s (rulM g v n p i s) := by
  intro n
  induction n with
  | zero => intro v0 p i s _ _ _ h; omega
  | succ n ih =>
  intro v0 p i s h0 h1 hi hn
  rw [rulM]
  by_cases hu : unitOf (rightAt g i) < 0
  · rw [if_pos hu]
    have hE : wayOf g i = [[i]] := by unfold wayOf; rw [if_pos hu]
    have hw : wayF g [i] = nodeF i (kN g i) := by rw [wayF]
    rw [hE]
    refine ⟨id, fun h => by simp [h], by simp, fun hr => ?_, fun hr => ?_⟩
    · refine ⟨by simp [ruleW, lastW], by simp [hw], fun w hm => ?_⟩
      rw [List.mem_singleton] at hm; subst hm; rw [hw]; exact of_decide_eq_true hr
    · refine ⟨[i], by simp, ?_⟩
      rw [hw]
      have := of_decide_eq_false hr
      omega
  · rw [if_neg hu]
    have hs := unit_step hi (by omega)
    obtain ⟨u0, u1⟩ := step_in hg h0 h1 hs
    have hr := rnk_lt hg hc h0 h1 hs
    have hwe := ways_eq hg hc u0 u1
    have hE : wayOf g i = (ways g (unitOf (rightAt g i))).map (i :: ·) := by unfold wayOf; rw [if_neg hu]
    generalize unitOf (rightAt g i) = u at *
    by_cases h0c : cw g u = 0
    · rw [if_pos h0c]
      have hz : ways g u = [] := List.length_eq_zero_iff.1 (by unfold cw at h0c; omega)
      rw [hE, hz]
      exact ⟨fun h => cntM_ok _ _ _ h, id, by simp, fun _ => by simp, fun h => by cases h⟩
    · rw [if_neg h0c]
      have hL := rulL_gives (g := g) (v := v) (p := p ++ [i]) (f := fun k s => rulM g v n (p ++ [i]) k s) (by_ g u) ⟨cntM g 65 u.toNat s.gv, s.R, s.F⟩ (fun k hk s => ih u (p ++ [i]) k s u0 u1 hk (by omega))
      rw [← hwe] at hL
      have hne : ∀ w ∈ ways g u, w ≠ [] := fun w hw => by
        rw [hwe] at hw
        obtain ⟨k, _, hk⟩ := List.mem_flatMap.1 hw
        exact wayOf_ne hk
      have hF : ∀ w ∈ ways g u, wrapF (p ++ [i]) (wayF g w) = wrapF p (wayF g (i :: w)) := fun w hw => by rw [wrapF_snoc, wayF_cons g i (hne w hw)]
      have hR : ∀ w ∈ ways g u, ruleW g v w = ruleW g v (i :: w) := fun w hw => by unfold ruleW; rw [lastW_cons i (hne w hw)]
      rw [hE]
      refine ⟨fun h => hL.gv (cntM_ok _ _ _ h), hL.len, by have := hL.le; simpa using this, fun hr => ?_, fun hr => ?_⟩
      · obtain ⟨a1, a2, a3⟩ := hL.all hr
        refine ⟨?_, ?_, fun w hw => ?_⟩
        · rw [a1, List.map_map]
          congr 1
          exact List.map_congr_left hR
        · rw [a2, List.map_map]
          congr 1
          exact List.map_congr_left hF
        · obtain ⟨x, hx, rfl⟩ := List.mem_map.1 hw
          rw [← hF x hx]; exact a3 x hx
      · obtain ⟨w, hw, hs⟩ := hL.one hr
        exact ⟨i :: w, List.mem_map.2 ⟨w, hw, rfl⟩, by rw [← hF w hw]; exact hs⟩
end
end Go.Proofs.Yticnpbopelgmiaa
namespace Go.Proofs.Yticnpbopelgmiaa
open Go.RowKit
set_option maxRecDepth 100000
-- SimX

set_option maxHeartbeats 4000000 in
theorem srule_gen {g : Gram} (hg : g.ok) (hc : cycL g = []) {t : Bool} {v : Int} : ∀ (n : Nat) (v0 : Int) (p : List Int) (i : Int) (s : SS), 0 ≤ v0 → v0 < g.vars → i ∈ by_ g v0 → rnk g v0 < n → p.length + n ≤ 70 → (∀ x ∈ p, 0 ≤ x ∧ x ≤ 160) → GOk g s.gv → s.F.length = s.R.length → s.R.length + (wayOf g i).length ≤ 160 →
    ACalls Try.prog 91 [.ptr 1000 0, I v, I i, .d (fragsD false (wrapF p (nodeF i (kN g i))))] (shH t g s.gv s.R s.F) (B (rulM g v n p i s).1) (shH t g (rulM g v n p i s).2.gv (rulM g v n p i s).2.R (rulM g v n p i s).2.F) := by
  intro n
  induction n with
  | zero => intro v0 p i s _ _ _ h; omega
  | succ n ih =>
  intro v0 p i s h0 h1 hi hn hp hpb hgv hF hR
  obtain ⟨k, hk, ek, _⟩ := by_mem.1 hi
  have hrk : rightAt g i = g.rules[k].right := by rw [ek]; exact rightAt_nat hk
  have hrr := hg.right _ (List.getElem_mem hk)
  have hrl := hg.rules
  have hun : ACalls Try.prog 139 [.d (.agg [iD g.rules[k].left, ints t g.rules[k].right])] [] (I (unitOf (rightAt g i))) [] := by rw [hrk]; exact unit_sim (by omega)
  have hkn : kN g i ≤ 10 := by
    unfold kN
    rw [hrk]
    have := kids_le g.rules[k].right
    omega
  obtain ⟨gv, R, F⟩ := s
  dsimp only at hgv hF hR ⊢
  rw [rulM]
  by_cases hu : unitOf (rightAt g i) < 0
  · rw [if_pos hu]
    have hE : wayOf g i = [[i]] := by unfold wayOf; rw [if_pos hu]
    rw [hE] at hR
    simp only [List.length_singleton] at hR
    have hsz := wrapF_size p (nodeF i (kN g i))
    rw [nodeF_size] at hsz
    have hpt := sparts_gen _ (t := false) (l := wrapF p (nodeF i (kN g i))) (Nat.lt_succ_self _) (by omega)
    have hge := unitOf_ge (rightAt g i)
    have e : R.map (ruleD false) ++ [.agg [.raw (.int .i64 v), .sl false 1 ([] ++ g.rules[k].right.map iD)]] = (R ++ [(⟨v, rightAt g i⟩ : Rule)]).map (ruleD false) := by rw [hrk, List.map_append]; rfl
    generalize wrapF p (nodeF i (kN g i)) = W at *
    have e2 : F.map (fragsD false) ++ [fragsD false W] = (F ++ [W]).map (fragsD false) := by rw [List.map_append]; rfl
    have e3 : decide ((fszs W : Int) ≤ 60) = decide (fszs W ≤ 60) := decide_eq_decide.2 (by omega)
    rw [← e3]
    generalize unitOf (rightAt g i) = un at *
    refine ACalls.intro (n := 96) Try.func91 rfl rfl (by simp) (by rfl) ?_
    simp only [argFr]
    repeat (first | refine wk ?_ | refine s_field (hr := ?_))
    refine s_call [] (hA := hun) (hr := ?_)
    repeat (first | refine wk ?_ | refine s_field (hr := ?_))
    refine s_call [] (hA := hpt) (hr := ?_)
    repeat (first | refine wkr ?_ | refine s_field (hr := ?_))
    rw [e, e2, List.length_map, List.length_map]
    repeat (first | refine wk ?_ | refine s_field (hr := ?_))
    exact fin
  · rw [if_neg hu]
    have hs := unit_step hi (by omega)
    obtain ⟨u0, u1⟩ := step_in hg h0 h1 hs
    have hr := rnk_lt hg hc h0 h1 hs
    have hwe := ways_eq hg hc u0 u1
    have hE : wayOf g i = (ways g (unitOf (rightAt g i))).map (i :: ·) := by unfold wayOf; rw [if_neg hu]
    rw [hE, List.length_map, hwe] at hR
    rw [kN_unit (g := g) (i := i) (by omega)]
    obtain ⟨u, hu2⟩ : ∃ u : Nat, unitOf (rightAt g i) = (u : Int) := ⟨(unitOf (rightAt g i)).toNat, by omega⟩
    rw [hu2] at hun u0 u1 hr hR ⊢
    have hct := count_gen hg hc (t := t) (R := R) (F := F) 65 u gv (by have := rnk_le hg u0 u1; omega) u1 hgv
    have hok1 := cntM_ok (g := g) 65 u gv hgv
    rw [Int.toNat_natCast]
    generalize cntM g 65 u gv = gv1 at *
    have hcr := cw_range g u
    by_cases hz : cw g u = 0
    · rw [if_pos hz]
      rw [hz] at hct
      refine ACalls.intro (n := 96) Try.func91 rfl rfl (by simp) (by rfl) ?_
      simp only [argFr]
      repeat (first | refine wk ?_ | refine s_field (hr := ?_))
      refine s_call [] (hA := hun) (hr := ?_)
      repeat (first | refine wk ?_ | refine s_field (hr := ?_))
      refine s_call [] (hA := hct) (hr := ?_)
      repeat (first | refine wk ?_ | refine s_field (hr := ?_))
      exact fin
    · rw [if_neg hz]
      have hby := by_sim (t := t) (g := g) (v := (u : Int)) (by omega)
      have hbll := byl_le g u
      have hin : ∀ x ∈ by_ g u, x ∈ by_ g (u : Int) := fun x h => h
      generalize hbl : by_ g (u : Int) = bl at *
      generalize cw g u = cu at *
      obtain ⟨b, sf, hres⟩ : ∃ b sf, rulL (fun k s => rulM g v n (p ++ [i]) k s) bl ⟨gv1, R, F⟩ = (b, sf) := ⟨_, _, rfl⟩
      rw [hres]
      obtain ⟨fg, fR, fF⟩ := sf
      dsimp only
      refine ACalls.intro (n := 96) Try.func91 rfl rfl (by simp) (by rfl) ?_
      simp only [argFr]
      repeat (first | refine wk ?_ | refine s_field (hr := ?_))
      refine s_call [] (hA := hun) (hr := ?_)
      repeat (first | refine wk ?_ | refine s_field (hr := ?_))
      refine s_call [] (hA := hct) (hr := ?_)
      repeat (first | refine wk ?_ | refine s_field (hr := ?_))
      refine s_call [] (hA := hby) (hr := ?_)
      repeat (first | refine wk ?_ | refine s_field (hr := ?_))
      --@
      refine t_loop (X := Nat × SS) (fun x => x.1 ≤ bl.length ∧ rulL (fun k s => rulM g v n (p ++ [i]) k s) (bl.drop x.1) x.2 = (b, ⟨fg, fR, fF⟩) ∧ GOk g x.2.gv ∧ x.2.F.length = x.2.R.length ∧ x.2.R.length + ((bl.drop x.1).flatMap (wayOf g)).length ≤ 160)
        (fun x => [(70, I x.1), (69, I bl.length), (68, .own 5 bl.length), (3, .d (fragsD false (wrapF p (nodeF i 1)))), (1, I v), (0, .ptr 1000 0)]) (fun x => (5, .row 3 1 (bl.map iD)) :: shH t g x.2.gv x.2.R x.2.F) (fun x => bl.length - x.1) (0, ⟨gv1, R, F⟩) ⟨Nat.zero_le _, hres, hok1, hF, hR⟩ ?_
      rintro ⟨j, gw, Rw, Fw⟩ ⟨j1, j2, j3, j4, j5⟩
      dsimp only at j1 j2 j3 j4 j5 ⊢
      by_cases hlt : j < bl.length
      · have hm : bl[j] ∈ by_ g (u : Int) := by rw [hbl]; exact List.getElem_mem hlt
        obtain ⟨k2, hk2, ek2, _⟩ := by_mem.1 hm
        have hrk2 : rightAt g bl[j] = g.rules[k2].right := by rw [ek2]; exact rightAt_nat hk2
        have hrr2 := hg.right _ (List.getElem_mem hk2)
        have hkn2 : kN g bl[j] = (kids g.rules[k2].right).length := by unfold kN; rw [hrk2]
        have hkl := kids_le g.rules[k2].right
        have hkd := kids_sim (t := t) (l := g.rules[k2].left) (xs := g.rules[k2].right) (by omega)
        rw [List.drop_eq_getElem_cons hlt, rulL] at j2
        rw [List.drop_eq_getElem_cons hlt, List.flatMap_cons, List.length_append] at j5
        have hpb2 : ∀ x ∈ p ++ [i], 0 ≤ x ∧ x ≤ 160 := fun x hx => by
          rcases List.mem_append.1 hx with hx | hx
          · exact hpb x hx
          · rw [List.mem_singleton.1 hx]; omega
        have hG := rulM_gives hg hc v n u (p ++ [i]) bl[j] ⟨gw, Rw, Fw⟩ u0 u1 hm (by omega)
        have hih := ih u (p ++ [i]) bl[j] ⟨gw, Rw, Fw⟩ u0 u1 hm (by omega) (by simp; omega) hpb2 j3 j4 (by dsimp only; omega)
        have hnd := node_sim (r := bl[j]) (k := kN g bl[j]) (by omega)
        have hplug : ACalls Try.prog 111 [.d (fragsD false (wrapF p (nodeF i 1))), I 0, .d (fragsD true (nodeF bl[j] (kN g bl[j]))), I (kN g bl[j])] [] (.d (fragsD false (wrapF (p ++ [i]) (nodeF bl[j] (kN g bl[j]))))) [] := by
          have hs1 := wrapF_size p (nodeF i 1)
          rw [nodeF_size] at hs1
          have hs2 := nodeF_size bl[j] (kN g bl[j])
          have hnb2 : NbL 1000000000 (nodeF bl[j] (kN g bl[j])) := nodeF_nb (by omega) (by omega) (by omega)
          have h := plug_sim (t := false) (u := true) (l := wrapF p (nodeF i 1)) (inn := nodeF bl[j] (kN g bl[j])) (k := 0) (n := (kN g bl[j] : Int)) (by omega) (by omega) (by rw [movL_zero]; exact wrapF_pt (by omega) (by omega)) (wrapF_nb (nodeF_nb (by omega) (by omega) (by omega)) (fun x hx => by have := hpb x hx; omega)) hnb2 (by rw [plug_wrap]; exact wrapF_nb hnb2 (fun x hx => by have := hpb2 x hx; omega)) (by omega) (by omega) (by omega) (by omega)
          rw [plug_wrap] at h
          exact h
        dsimp only at hih
        rw [hkn2] at hnd hplug hih
        generalize rulM g v n (p ++ [i]) bl[j] ⟨gw, Rw, Fw⟩ = q at *
        obtain ⟨b2, gz, Rz, Fz⟩ := q
        have hG3 := hG.gv j3
        have hG4 := hG.len j4
        have hGa := hG.all
        dsimp only at hih hG3 hG4 hGa j2
        have hWl : (nodeF bl[j] (kids g.rules[k2].right).length).length = 1 := rfl
        generalize hWW : nodeF bl[j] (kids g.rules[k2].right).length = WW at *
        generalize wrapF (p ++ [i]) WW = W2 at *
        generalize wrapF p (nodeF i 1) = W1 at *
        cases b2 with
        | true =>
          rw [if_pos rfl] at j2
          have hlen : Rz.length = Rw.length + (wayOf g bl[j]).length := by rw [(hGa rfl).1, List.length_append, List.length_map]
          repeat (first | refine wk ?_ | refine s_field (hr := ?_))
          refine s_call [] (hA := hkd) (hr := ?_)
          repeat (first | refine wk ?_ | refine s_field (hr := ?_))
          --@
          refine s_call [] (hA := hnd) (hr := ?_)
          repeat (first | refine wk ?_ | refine s_field (hr := ?_))
          refine s_call [] (hA := hplug) (hr := ?_)
          repeat (first | refine wk ?_ | refine s_field (hr := ?_))
          refine s_call [] (hA := hih) (hr := ?_)
          repeat (first | refine wk ?_ | refine s_field (hr := ?_))
          exact t_next (j + 1, ⟨gz, Rz, Fz⟩) (a := ⟨by omega, j2, hG3, hG4, by dsimp only; omega⟩) (b := by dsimp only; omega)
        | false =>
          rw [if_neg (by decide)] at j2
          obtain ⟨rfl, rfl, rfl, rfl⟩ : false = b ∧ gz = fg ∧ Rz = fR ∧ Fz = fF := by injection j2 with a1 a2; injection a2 with a2 a3 a4; exact ⟨a1, a2, a3, a4⟩
          repeat (first | refine wk ?_ | refine s_field (hr := ?_))
          refine s_call [] (hA := hkd) (hr := ?_)
          repeat (first | refine wk ?_ | refine s_field (hr := ?_))
          refine s_call [] (hA := hnd) (hr := ?_)
          repeat (first | refine wk ?_ | refine s_field (hr := ?_))
          refine s_call [] (hA := hplug) (hr := ?_)
          repeat (first | refine wk ?_ | refine s_field (hr := ?_))
          refine s_call [] (hA := hih) (hr := ?_)
          repeat (first | refine wk ?_ | refine s_field (hr := ?_))
          exact fin
      · rw [List.drop_of_length_le (by omega), rulL] at j2
        obtain ⟨rfl, rfl, rfl, rfl⟩ : true = b ∧ gw = fg ∧ Rw = fR ∧ Fw = fF := by injection j2 with a1 a2; injection a2 with a2 a3 a4; exact ⟨a1, a2, a3, a4⟩
        repeat (first | refine wk ?_ | refine s_field (hr := ?_))
        exact fin
end Go.Proofs.Yticnpbopelgmiaa
namespace Go.Proofs.Yticnpbopelgmiaa
open Go.RowKit

def RowIs (sz m : Nat) (ob : Ob) : Prop := ∃ e xs, ob = .row e sz xs ∧ xs.length = m
section
variable {P : Program} {n : Nat} {ops : Array Oper} {K : Exit → Fr → Hp → Prop} {dr : Bool} {rest : List Oper} {log : List Rec} {fr : Fr} {h : Hp} {d : Nat} {ty : TypeId} {pos : String} {after : Array Edge} {g : Option (Nat × Bool)}
variable (T : TT P)
theorem d_lenW {x : Operand} {t e sz k m : Nat} {et : TypeId} {ys : List D} {y : Ty} (hdn : Nat.blt d n = true) (hg : gOk ops fr g) (hx : oev fr x = .own k m) (hk : hget h k = some (.row et sz ys)) (hm : ys.length = m) (ht : T.rows[t]? = some y) (hel : y.elem = some e) (hlog : (log.all fun r => r.wk.all fun j => !Nat.beq j k) = true)
    (hr : dops P n dr ops rest (⟨(gIns ops g ++ insOf x (.own k m)).map Prod.fst, [d], [], []⟩ :: log) (fun e fr' h' => K e fr' h' ∧ (e = .normal → ∃ u, h' = u ++ h ∧ ∀ q ∈ u, q.1 = k → RowIs sz m q.2)) ((d, I m) :: fr) h) : dops P n dr ops (⟨some d, .call { callee := .builtin .len, args := #[x], argTypes := #[t] }, ty, pos, after, g⟩ :: rest) log K fr h := by
  refine .inr ⟨gIns ops g ++ insOf x (.own k m), k, RowIs sz m, I m, ?_, fun p hp => ?_, ⟨_, hk, et, ys, rfl, hm⟩, fun r hr hm' => ?_, hr⟩
  · intro G E fr' h' a w K Q hPan hn C hi ho hK
    obtain ⟨ob, hk', et', ys', rfl, hm'⟩ := ho
    have hgo : gOk ops fr' g := gOk_of hg (fun p hp => hi p (List.mem_append.2 (.inl hp)))
    obtain ⟨r, _⟩ := C.oev (oev_of hx (fun p hp => hi p (List.mem_append.2 (.inr hp)))) (oneOpd_spec (oneOpd_of hx rfl))
    have ha : ArgIs h' sz (.own k m) ys' [(k, some (.row et' sz ys'))] := .own hk' hm'
    obtain ⟨ad, c, news, h1, _⟩ := ha.slArg C r
    obtain ⟨_, ds, _, k2, _, _, _, _, k7, _⟩ := tyOf_spec (T.at ht)
    have hds := k7 e hel
    subst hds
    have he : (execOp a.eval ⟨some d, .call { callee := .builtin .len, args := #[x], argTypes := #[t] }, ty, pos, after, g⟩).run P w = .ok (.value (.int .i64 ys'.length)) w := by
      refine run_lenCall ?_
      rw [h1]
      simp [Builtin.len_, run_underlying k2, goInt]
    unfold wpS
    rw [if_pos (gOk_wanted C hgo)]
    refine .inl ?_
    unfold Oper.wp
    rw [he]
    simp only [Oper.upon]
    refine hK E _ w ?_
    refine C.put (by rw [hn]; simpa [Nat.blt_eq] using hdn) ?_ (fun j hj => by simp [V.keys] at hj)
    rw [hm']
    simp [V.Rep, D.RepV, D.Rep, Value.oneCell']
  · rcases List.mem_append.1 hp with hp | hp
    · exact gOk_ins hg p hp
    · exact oev_ins hx p hp
  · rw [List.all_eq_true] at hlog
    have h1 := hlog r hr
    rw [List.all_eq_true] at h1
    have h2 := h1 k hm'
    rw [Nat.beq_refl] at h2; cases h2
end
end Go.Proofs.Yticnpbopelgmiaa
