/-
  Sim: short: unit, parts, count.
-/
import Derived.Test.YtkfeccbahpmadaaShortP
import Derived.Test.YtkfeccbahpmadaaF2
import Derived.Test.YtkfeccbahpmadaaPlugA
set_option linter.unusedVariables false
set_option linter.unusedSimpArgs false
set_option linter.unusedSectionVars false
namespace Go.Proofs.Ytkfeccbahpmadaa
open Go.RowKit
set_option maxRecDepth 100000
-- SimX

theorem unit_sim {t : Bool} {l : Int} {right : List Int} (hl : right.length ≤ 100000000) : ACalls Try.prog 137 [.d (.agg [iD l, ints t right])] [] (I (unitOf right)) [] := by
  refine ACalls.intro (n := 12) Try.func137 rfl rfl (by simp) (by rfl) ?_
  simp only [argFr]
  unfold unitOf
  by_cases h1 : right.length = 1
  · rw [if_pos h1]
    match right, h1 with
    | [x], _ =>
      by_cases h0 : 0 ≤ x
      · rw [show (if 0 ≤ [x].getD 0 0 then [x].getD 0 0 else -1) = x from if_pos h0]
        have e : maxI ([x][0]) (-1) = x := by show maxI x (-1) = x; unfold maxI; split <;> omega
        repeat (first | refine wk ?_ | refine s_field (hr := ?_))
        rw [e]
        exact fin
      · rw [show (if 0 ≤ [x].getD 0 0 then [x].getD 0 0 else -1) = -1 from if_neg h0]
        have e : maxI ([x][0]) (-1) = -1 := by show maxI x (-1) = -1; unfold maxI; split <;> omega
        repeat (first | refine wk ?_ | refine s_field (hr := ?_))
        rw [e]
        exact fin
  · rw [if_neg h1]
    repeat (first | refine wk ?_ | refine s_field (hr := ?_))
    exact fin
theorem sparts_gen : ∀ (N : Nat) {t : Bool} {l : List Frag}, fszs l < N → fszs l ≤ 100000000 → ACalls Try.prog 138 [.d (fragsD t l)] [] (I (fszs l)) [] := by
  intro N
  induction N with
  | zero => intro t l h; omega
  | succ N ih =>
  intro t l hn hN
  have hl := Nat.le_trans (fszs_len l) hN
  refine ACalls.intro (n := 21) Try.func138 rfl rfl (by simp) (by rfl) ?_
  simp only [argFr]
  repeat (first | refine wk ?_ | refine s_field (hr := ?_))
  refine t_loop (X := Nat × Nat) (fun x => x.1 ≤ l.length ∧ x.2 + x.1 = l.length + fszs (l.take x.1)) (fun x => [(10, I x.1), (9, I l.length), (8, .d (fragsD t l)), (3, I x.2)]) (fun _ => []) (fun x => l.length - x.1) (0, l.length) ⟨Nat.zero_le _, by simp [fszs]⟩ ?_
  rintro ⟨i, v⟩ ⟨h1, h2⟩
  dsimp only at h1 h2 ⊢
  by_cases hlt : i < l.length
  · have e1 := fszs_take hlt
    have e3 := fszs_mem (List.getElem_mem hlt)
    have e2 := fsz_eq l[i]
    have e4 : fszs l = fszs (l.take (i + 1)) + fszs (l.drop (i + 1)) := fszs_split _ _
    have e5 : (l.take i).length ≤ fszs (l.take i) := fszs_len _
    repeat (first | refine wk ?_ | refine s_field (hr := ?_))
    refine s_call [] (hA := ih (t := t) (l := l[i].l) (by omega) (by omega)) (hr := ?_)
    repeat (first | refine wk ?_ | refine s_field (hr := ?_))
    exact t_next (i + 1, v + fszs l[i].l) (a := ⟨by omega, by dsimp only; omega⟩) (b := by dsimp only; omega)
  · rw [List.take_of_length_le (by omega)] at h2
    obtain rfl : v = fszs l := by omega
    repeat (first | refine wk ?_ | refine s_field (hr := ?_))
    exact fin
/-- The maker's box, and its rows. -/
abbrev shH (t : Bool) (g : Gram) (gv : List Int) (R : List Rule) (F : List (List Frag)) : Hp :=
  [(1000, .box 96 [I g.vars, I g.terms, I g.start, .d (rulesD t g.rules), .own 1001 g.vars.toNat, I g.vars, I g.terms, I g.start, .own 1002 R.length, .own 1003 F.length, .d (.raw (.slice none 0 0))]), (1001, .row 3 1 (gv.map iD)), (1002, .row 41 2 (R.map (ruleD false))), (1003, .row 89 1 (F.map (fragsD false)))]
/-- How many a nonterminal's first rules give, as far as too many. -/
def cwp (g : Gram) (bl : List Int) (i : Nat) : Int := min ((((bl.take i).flatMap (wayOf g)).length : Nat) : Int) 161
theorem cwp_next {g : Gram} {bl : List Int} {i : Nat} (h : i < bl.length) : cwp g bl (i + 1) = minI (cwp g bl i + min ((wayOf g bl[i]).length : Int) 161) 161 := by
  unfold cwp minI
  rw [List.take_succ_eq_append_getElem h, List.flatMap_append, List.length_append]
  simp only [List.flatMap_cons, List.flatMap_nil, List.append_nil]
  split <;> omega
theorem wayOf_len {g : Gram} {i : Int} : min ((wayOf g i).length : Int) 161 = if unitOf (rightAt g i) < 0 then 1 else cw g (unitOf (rightAt g i)) := by
  unfold wayOf cw
  by_cases h : unitOf (rightAt g i) < 0
  · rw [if_pos h, if_pos h]; rfl
  · rw [if_neg h, if_neg h, List.length_map]
theorem cwp_range (g : Gram) (bl : List Int) (i : Nat) : 0 ≤ cwp g bl i ∧ cwp g bl i ≤ 161 := by unfold cwp; omega
theorem cw_range (g : Gram) (v : Int) : 0 ≤ cw g v ∧ cw g v ≤ 161 := by unfold cw; omega
/-- What is known once a nonterminal was counted. -/
def cntM (g : Gram) : Nat → Nat → List Int → List Int
  | 0, _, gv => gv
  | n + 1, v, gv => if 0 ≤ gv.getD v 0 then gv else ((by_ g v).foldl (fun gw i => if unitOf (rightAt g i) < 0 then gw else cntM g n (unitOf (rightAt g i)).toNat gw) gv).set v (cw g v)
def cntS (g : Gram) (n : Nat) (gw : List Int) (i : Int) : List Int := if unitOf (rightAt g i) < 0 then gw else cntM g n (unitOf (rightAt g i)).toNat gw
theorem cntM_eq (g : Gram) (n v : Nat) (gv : List Int) : cntM g (n + 1) v gv = if 0 ≤ gv.getD v 0 then gv else ((by_ g v).foldl (cntS g n) gv).set v (cw g v) := by rw [cntM]; rfl
theorem foldl_ok {g : Gram} {f : List Int → Int → List Int} (h : ∀ gw i, GOk g gw → GOk g (f gw i)) : ∀ (l : List Int) (gv : List Int), GOk g gv → GOk g (l.foldl f gv)
  | [], _, hg => hg
  | x :: l, gv, hg => foldl_ok h l _ (h _ x hg)
theorem cntM_ok {g : Gram} : ∀ (n v : Nat) (gv : List Int), GOk g gv → GOk g (cntM g n v gv)
  | 0, _, _, h => by rw [cntM]; exact h
  | n + 1, v, gv, h => by
    rw [cntM_eq]
    split
    · exact h
    · exact (foldl_ok (fun gw i hw => by unfold cntS; split; exact hw; exact cntM_ok n _ _ hw) _ _ h).set v
theorem cntS_ok {g : Gram} {n : Nat} {gw : List Int} {i : Int} (h : GOk g gw) : GOk g (cntS g n gw i) := by
  unfold cntS
  split
  · exact h
  · exact cntM_ok _ _ _ h
theorem foldl_take {f : List Int → Int → List Int} {l : List Int} {gv : List Int} {i : Nat} (h : i < l.length) : (l.take (i + 1)).foldl f gv = f ((l.take i).foldl f gv) l[i] := by
  rw [List.take_succ_eq_append_getElem h, List.foldl_append]; rfl
theorem byl_le (g : Gram) (v : Int) : (by_ g v).length ≤ g.rules.length := by
  have key : ∀ (v : Int) (rs : List Rule) (i : Nat), (byR rs v i).length ≤ rs.length := fun v rs => by
    induction rs with
    | nil => intro i; simp [byR]
    | cons r rs ih => intro i; have := ih (i + 1); rw [byR]; split <;> simp <;> omega
  exact key v g.rules 0
set_option maxHeartbeats 1000000 in
theorem count_gen {g : Gram} (hg : g.ok) (hc : cycL g = []) {t : Bool} {R : List Rule} {F : List (List Frag)} : ∀ (n : Nat) (v : Nat) (gv : List Int), rnk g v < n → (v : Int) < g.vars → GOk g gv →
    ACalls Try.prog 63 [.ptr 1000 0, I v] (shH t g gv R F) (I (cw g v)) (shH t g (cntM g n v gv) R F) := by
  intro n
  induction n with
  | zero => intro v gv h; omega
  | succ n ih =>
  intro v gv hn hv hgv
  have hvl := hgv.1
  have hvv := hg.vars
  have hlt : v < gv.length := by omega
  have hgd : gv.getD v 0 = gv[v] := by simp [List.getD_eq_getElem?_getD, hlt]
  rw [cntM_eq, hgd]
  by_cases hpos : 0 ≤ gv[v]
  · have hval : gv[v] = cw g v := by
      rcases hgv.2 v hlt with h | h
      · omega
      · exact h
    rw [if_pos hpos, ← hval]
    refine ACalls.intro (n := 63) Try.func63 rfl rfl (by simp) (by rfl) ?_
    simp only [argFr]
    repeat (first | refine wk ?_ | refine s_field (hr := ?_))
    exact fin
  · rw [if_neg hpos]
    have hby := by_sim (t := t) (g := g) (v := (v : Int)) (by have := hg.rules; omega)
    have hw := ways_eq hg hc (v := (v : Int)) (by omega) hv
    have hbll := byl_le g v
    have hrl := hg.rules
    have hin : ∀ i (h : i < (by_ g v).length), ∃ k, ∃ hk : k < g.rules.length, (by_ g v)[i] = (k : Int) ∧ (by_ g v)[i] ∈ by_ g v := fun i h => by
      obtain ⟨k, hk, e1, e2⟩ := by_mem.1 (List.getElem_mem h)
      exact ⟨k, hk, e1, List.getElem_mem h⟩
    have step : ∀ i (h : i < (by_ g v).length) (gw : List Int), GOk g gw → unitOf (rightAt g (by_ g v)[i]) < 0 ∨ ∃ u : Nat, unitOf (rightAt g (by_ g v)[i]) = (u : Int) ∧ ACalls Try.prog 63 [.ptr 1000 0, I u] (shH t g gw R F) (I (cw g u)) (shH t g (cntM g n u gw) R F) := fun i h gw hgw => by
      by_cases hu : unitOf (rightAt g (by_ g v)[i]) < 0
      · exact .inl hu
      · obtain ⟨k, hk, e1, hm⟩ := hin i h
        have hs := unit_step hm (by omega)
        obtain ⟨u0, u1⟩ := step_in hg (by omega) hv hs
        have hr := rnk_lt hg hc (by omega) hv hs
        obtain ⟨u, hu2⟩ : ∃ u : Nat, unitOf (rightAt g (by_ g v)[i]) = (u : Int) := ⟨(unitOf (rightAt g (by_ g v)[i])).toNat, by omega⟩
        rw [hu2] at hr u1
        exact .inr ⟨u, hu2, ih u gw (by omega) u1 hgw⟩
    have hend : cwp g (by_ g v) (by_ g v).length = cw g v := by unfold cwp cw; rw [hw, List.take_length]
    generalize by_ g v = bl at *
    refine ACalls.intro (n := 63) Try.func63 rfl rfl (by simp) (by rfl) ?_
    simp only [argFr]
    repeat (first | refine wk ?_ | refine s_field (hr := ?_))
    refine s_call [] (hA := hby) (hr := ?_)
    repeat (first | refine wk ?_ | refine s_field (hr := ?_))
    have e : (0 : Int) = cwp g bl 0 := by show (0 : Int) = min ((0 : Nat) : Int) 161; decide
    refine t_loop (X := Nat) (fun i => i ≤ bl.length) (fun i => [(32, I i), (31, I bl.length), (30, .own 5 bl.length), (5, I (cwp g bl i)), (1, I v), (0, .ptr 1000 0)]) (fun i => (5, .row 3 1 (bl.map iD)) :: shH t g ((bl.take i).foldl (cntS g n) gv) R F) (fun i => bl.length - i) 0 (Nat.zero_le _) ?_
    intro i hi
    have hgw := foldl_ok (g := g) (f := cntS g n) (fun gw i hw => cntS_ok (n := n) (i := i) hw) (bl.take i) gv hgv
    have hgwl := hgw.1
    by_cases hlt2 : i < bl.length
    · obtain ⟨k, hk, e1, hm⟩ := hin i hlt2
      have hft := foldl_take (f := cntS g n) (gv := gv) hlt2
      have hcn := cwp_next (g := g) hlt2
      have hwl := wayOf_len (g := g) (i := bl[i])
      have hcr := cwp_range g bl i
      have hrk : rightAt g bl[i] = g.rules[k].right := by rw [e1]; exact rightAt_nat hk
      have hrr := hg.right _ (List.getElem_mem hk)
      have hun : ACalls Try.prog 137 [.d (.agg [iD g.rules[k].left, ints t g.rules[k].right])] [] (I (unitOf (rightAt g bl[i]))) [] := by rw [hrk]; exact unit_sim (by omega)
      generalize (bl.take i).foldl (cntS g n) gv = gw at *
      rcases step i hlt2 gw hgw with hu | ⟨u, hu, hih⟩
      · rw [if_pos hu] at hwl
        rw [hwl] at hcn
        have e : cntS g n gw bl[i] = gw := by unfold cntS; rw [if_pos hu]
        rw [e] at hft
        clear e
        have e : gw.map iD = ((bl.take (i + 1)).foldl (cntS g n) gv).map iD := by rw [hft]
        have hge := unitOf_ge (rightAt g bl[i])
        generalize unitOf (rightAt g bl[i]) = un at *
        repeat (first | refine wk ?_ | refine s_field (hr := ?_))
        refine s_call [] (hA := hun) (hr := ?_)
        repeat (first | refine wk ?_ | refine s_field (hr := ?_))
        --@
        exact t_next (i + 1) (c := ⟨.of rfl, .of rfl, .of rfl, int_eq rfl hcn.symm, .of rfl, .of rfl, trivial⟩)
      · rw [hu] at hun hwl
        rw [if_neg (by omega)] at hwl
        rw [hwl] at hcn
        have e : cntS g n gw bl[i] = cntM g n u gw := by unfold cntS; rw [hu, if_neg (by omega)]; rfl
        rw [e] at hft
        have hcu := cw_range g u
        clear e
        generalize cntM g n u gw = gz at *
        have e : gz.map iD = ((bl.take (i + 1)).foldl (cntS g n) gv).map iD := by rw [hft]
        repeat (first | refine wk ?_ | refine s_field (hr := ?_))
        refine s_call [] (hA := hun) (hr := ?_)
        repeat (first | refine wk ?_ | refine s_field (hr := ?_))
        refine s_call [] (hA := hih) (hr := ?_)
        repeat (first | refine wk ?_ | refine s_field (hr := ?_))
        --@
        exact t_next (i + 1) (c := ⟨.of rfl, .of rfl, .of rfl, int_eq rfl hcn.symm, .of rfl, .of rfl, trivial⟩)
    · have hie : i = bl.length := by omega
      have hfl : bl.take i = bl := List.take_of_length_le (by omega)
      rw [hfl] at hgw hgwl
      rw [hfl, show cwp g bl i = cw g v by rw [hie, hend]]
      have hvl2 : v < (bl.foldl (cntS g n) gv).length := by omega
      generalize bl.foldl (cntS g n) gv = gw at *
      have e : (gw.map iD).set v (iD (cw g v)) = (gw.set v (cw g v)).map iD := by rw [List.map_set]
      repeat (first | refine wk ?_ | refine s_field (hr := ?_))
      --@
      exact fin
end Go.Proofs.Ytkfeccbahpmadaa
