/-
  Sim: the reference's TurnOf.
-/
import Derived.Test.YticnpbopelgmiaaTurnG
import Derived.Test.YticnpbopelgmiaaQFactsK
set_option linter.unusedVariables false
set_option linter.unusedSimpArgs false
set_option linter.unusedSectionVars false
namespace Go.Proofs.Yticnpbopelgmiaa
open Go.RowKit
set_option maxRecDepth 100000
-- SimX

abbrev rwBox (x : Work) : Ob := .box 93 [.d (ints false x.right), .d (fragsD false x.l)]
/-- One rule's template in another's, by the reference. -/
theorem rplug_sim {t u : Bool} {g : Gram} (hg : g.ok) {B B' C N : Nat} {o : Bool} {x y : Work} {v : Int} (hx : TOk g B C N true x) (hy : TOk g B' C N o y) (hB : B ≤ 4000) (hB' : B' ≤ 100) (hC : C ≤ 20) (hu : hdI x.right = v) (h0 : 0 ≤ v) :
    ACalls Try.prog 66 [.d (fragsD t x.l), I 0, .d (fragsD u y.l), I ((kids y.right).length : Nat)] [] (.d (fragsD false (mixW x y).l)) [] := by
  have hz := hx.nz rfl (by omega)
  have s1 := hx.sz
  have s2 := hy.sz
  have r2 := hy.rl
  have hk := kids_le y.right
  have hmul : fszs x.l * fszs y.l ≤ 4000 * 100 := Nat.mul_le_mul (by omega) (by omega)
  have h3 : PtL 0 (movL (-1) 0 y.l) (((kids y.right).length : Int) - 1) x.l := by rw [movL_zero]; exact ptL_small x.l hx.wf hz (by omega)
  exact plugged_sim (t := t) (u := u) (l := x.l) (inn := y.l) (k := 0) (n := ((kids y.right).length : Nat)) (by omega) (by omega) h3 (hx.nb hg (by omega)) (hy.nb hg (by omega)) (by decide) (by decide) (by omega) (by omega)
theorem rgap_sim {t : Bool} {g : Gram} (hg : g.ok) {B C N : Nat} {x : Work} (hx : TOk g B C N true x) (hB : B ≤ 4000) (hC : C ≤ 20) (h0 : 0 ≤ hdI x.right) :
    ACalls Try.prog 66 [.d (fragsD t x.l), I 0, .d (.sl false 3 [.agg [iD 3, iD 0, nilT]]), I 0] [] (.d (fragsD false (gappedW x).l)) [] := by
  have hz := hx.nz rfl h0
  have s1 := hx.sz
  have h3 : PtL 0 (movL (-1) 0 [gapF]) ((0 : Int) - 1) x.l := by rw [movL_zero]; exact ptL_small x.l hx.wf hz (by have : fszs [gapF] = 1 := rfl; rw [this]; omega)
  have hp := plugged_sim (t := t) (u := false) (l := x.l) (inn := [gapF]) (k := 0) (n := 0) (by omega) (by decide) h3 (hx.nb hg (by omega)) ⟨⟨by decide, trivial⟩, trivial⟩ (by decide) (by decide) (by decide) (by decide)
  rw [gapF_is] at hp
  exact hp.le (args := [.d (fragsD t x.l), I 0, .d (.sl false 3 [.agg [iD 3, iD 0, nilT]]), I 0]) ⟨.refl _, .refl _, .sl (.cons (.agg (.cons (.refl _) (.cons (.refl _) (.cons (.nil _ _) .nil)))) .nil), .refl _, trivial⟩
abbrev toF : Fr := [(1, .ptr 1 0), (2, .ptr 2 0), (3, .ptr 3 0)]
abbrev toH (t : Bool) (g : Gram) (all : List (List Work)) : Hp := [(1, gramBox t g), (2, stepBox false zeroStep), (3, .box 33 [.d (iD 0), .d (iD 0)]), (903, .row 91 1 (all.map (worksD false)))]
set_option maxHeartbeats 8000000 in
theorem turnOf_sim {t : Bool} {g : Gram} (hf : g.fit) :
    ACalls Try.prog 23 [.d (gramD t g)] [] (.tup [.d (stepD false (turnS g).1), .d (faultD (turnS g).2)]) [] := by
  refine ACalls.intro (n := 212) Try.func23 rfl rfl (by simp) (by rfl) ?_
  simp only [argFr]
  have hr1 := hf.rules
  have hr2 := hf.right
  have hgf := gramFault_sim (t := t) hr1 hr2
  by_cases hc : (gramFault g).code = 0
  rotate_left
  · rw [show turnS g = (zeroStep, gramFault g) by rw [turnS, if_neg hc]]
    generalize gramFault g = gf at *
    repeat (first | refine wk ?_ | refine s_field (hr := ?_))
    refine s_call [] (hA := hgf) (hr := ?_)
    repeat (first | refine wk ?_ | refine s_field (hr := ?_))
    exact fin2
  have hg := gram_ok hc
  have hts : turnS g = match emptyAt g with
    | some i => (zeroStep, ⟨11, i⟩)
    | none => if 0 < (cycL g).length then (zeroStep, ⟨10, -1⟩) else
      match turnAll 0 g.vars.toNat (startW g) with
      | .error v => (zeroStep, ⟨6, (v : Nat)⟩)
      | .ok z => (⟨⟨(z.length : Nat), g.terms, g.start, rulesF z 0⟩, fragsF z, []⟩, ⟨0, 0⟩) := by rw [turnS, if_pos hc]; rfl
  rw [hg.fault] at hgf
  have hv := hg.vars
  have hv1 := hg.vars1
  have hr160 := hg.rules
  have hcy := cyclicOf_sim (t := t) hg
  have hcl : (cycL g).length ≤ 100000000 := by
    have h1 := hg.vars
    unfold cycL selfN
    rw [if_pos hc, List.length_map]
    have h2 := List.length_filter_le (fun (v : Nat) => has (rowM (ledM false g) v) v) (List.range g.vars.toNat)
    rw [List.length_range] at h2
    omega
  rw [show selfN (ledM false g) g.vars.toNat = cycL g by rw [cycL, if_pos hc]] at hcy
  have hwo := worksOf_sim (t := t) hg
  generalize hcl' : cycL g = cl at *
  repeat (first | refine wk ?_ | refine s_field (hr := ?_))
  refine s_call [] (hA := hgf) (hr := ?_)
  repeat (first | refine wk ?_ | refine s_field (hr := ?_))
  --@
  refine t_loop (X := Nat) (fun i => i ≤ g.rules.length ∧ ∀ (j : Nat) (h : j < g.rules.length), j < i → ¬ g.rules[j].right.length = 0) (fun i => (5, I i) :: toF) (fun _ => [(1, gramBox t g), (2, stepBox false zeroStep), (3, .box 33 [.d (iD 0), .d (iD 0)])]) (fun i => g.rules.length - i) 0 ⟨Nat.zero_le _, fun j h q => by omega⟩ ?_
  rintro i ⟨hi, hne⟩
  by_cases hlt : i < g.rules.length
  · by_cases h0 : g.rules[i].right.length = 0
    · have he : emptyAt g = some i := findIdx_at hne hlt h0
      rw [he] at hts
      rw [hts]
      repeat (first | refine wk ?_ | refine s_field (hr := ?_))
      --@
      refine s_call [] (hA := f_sim) (hr := ?_)
      repeat (first | refine wk ?_ | refine s_field (hr := ?_))
      exact fin2
    · repeat (first | refine wk ?_ | refine s_field (hr := ?_))
      --@
      exact t_next (i + 1) (a := ⟨by omega, fun j h q => by
        by_cases e : j = i
        · subst e; exact h0
        · exact hne j h (by omega)⟩)
  · obtain rfl : i = g.rules.length := by omega
    have hne' : ∀ (j : Nat) (h : j < g.rules.length), ¬ g.rules[j].right.length = 0 := fun j h => hne j h h
    have he : emptyAt g = none := findIdx_not hne'
    rw [he] at hts
    dsimp only at hts
    by_cases hn : 0 < cl.length
    · rw [if_pos hn] at hts
      rw [hts]
      repeat (first | refine wk ?_ | refine s_field (hr := ?_))
      --@
      refine s_call [] (hA := hcy) (hr := ?_)
      repeat (first | refine wk ?_ | refine s_field (hr := ?_))
      refine s_call [] (hA := f_sim) (hr := ?_)
      repeat (first | refine wk ?_ | refine s_field (hr := ?_))
      exact fin2
    rw [if_neg hn] at hts
    have hI0 := start_tinv hg fun r hr => by
      obtain ⟨j, hj, rfl⟩ := List.mem_iff_getElem.1 hr
      intro q
      exact hne' j hj (by rw [q]; rfl)
    have hSl := startW_length g
    obtain ⟨N, hN⟩ : ∃ N : Nat, g.vars = (N : Int) := ⟨g.vars.toNat, by omega⟩
    have hNt : g.vars.toNat = N := by omega
    rw [hNt] at hSl hts
    generalize hrr : turnAll 0 N (startW g) = r at *
    repeat (first | refine wk ?_ | refine s_field (hr := ?_))
    refine s_call [] (hA := hcy) (hr := ?_)
    repeat (first | refine wk ?_ | refine s_field (hr := ?_))
    refine s_call [] (hA := hwo) (hr := ?_)
    repeat (first | refine wk ?_ | refine s_field (hr := ?_))
    --@
    refine t_loop (X := Nat × List (List Work)) (fun x => x.1 ≤ N ∧ TInv g x.2 ∧ turnAll x.1 (N - x.1) x.2 = r) (fun x => (7, I x.1) :: (6, .own 903 x.2.length) :: toF) (fun x => toH t g x.2) (fun x => N - x.1) (0, startW g) ⟨Nat.zero_le _, hI0, hrr⟩ ?_
    rintro ⟨v, all⟩ ⟨k1, k2, k3⟩
    dsimp only at k1 k2 k3 ⊢
    have h64 := k2.len
    have hvars := k2.vars
    rw [hNt] at hvars
    by_cases hva : v < N
    · obtain ⟨n, hn1⟩ : ∃ n, N - v = n + 1 := ⟨N - v - 1, by omega⟩
      rw [hn1, turnAll] at k3
      have hn2 : n = N - (v + 1) := by omega
      subst hn2
      have hgv : all.getD v [] = all[v] := by rw [List.getD_eq_getElem?_getD, List.getElem?_eq_getElem (by omega)]; rfl
      have hok0 : ∀ w ∈ all[v], TOk g 60 10 all.length true w := fun w hw => by
        have := k2.ok v w (by rw [hgv]; exact hw)
        rw [decide_eq_true (by omega)] at this; exact this
      have hw0 := k2.wide _ (List.getElem_mem (show v < all.length by omega))
      have hround := fun l hl hf => round_ok hg k2 (v := v) (by omega) (l := l) hl hf
      rw [hgv] at k3 hround
      have hself : all.set v all[v] = all := by simp
      generalize hl0 : all[v] = l0 at *
      repeat (first | refine wk ?_ | refine s_field (hr := ?_))
      --@
      refine t_loop (X := Nat × List Work) (fun x => x.1 ≤ v ∧ x.2.length ≤ 160 ∧ (∀ w ∈ x.2, TOk g (60 + 60 * x.1) 10 all.length true w) ∧ aheads all 0 v l0 = aheads all x.1 (v - x.1) x.2) (fun x => (8, I x.1) :: (7, I v) :: (6, .own 903 (all.set v x.2).length) :: toF) (fun x => toH t g (all.set v x.2)) (fun x => v - x.1) (0, l0) ⟨Nat.zero_le _, hw0, hok0, rfl⟩ ?_ (hh := ⟨.of rfl, .of rfl, .of rfl, row_eq rfl (by rw [hself]), trivial⟩)
      rintro ⟨u, l⟩ ⟨j1, j2, j3, j4⟩
      dsimp only at j1 j2 j3 j4 ⊢
      have hsl : (all.set v l).length = all.length := List.length_set
      have hgu : ∀ q : v < (all.set v l).length, (all.set v l)[v]'q = l := fun q => by simp
      by_cases huv : u < v
      · have hA : ∀ y ∈ all.getD u [], TOk g 60 10 all.length true y := fun y hy => by
          have := k2.ok u y hy
          rw [decide_eq_true (by omega)] at this; exact this
        have hA160 : (all.getD u []).length ≤ 160 := by
          refine k2.wide _ ?_
          rw [List.getD_eq_getElem?_getD, List.getElem?_eq_getElem (by omega)]; exact List.getElem_mem _
        have hgA : ∀ q : u < (all.set v l).length, (all.set v l)[u]'q = all.getD u [] := fun q => by
          rw [List.getElem_set_ne (by omega), List.getD_eq_getElem?_getD, List.getElem?_eq_getElem (by omega)]; rfl
        have haok : ∀ l', aheadW (all.getD u []) u l [] = some l' → (∀ w ∈ l', TOk g (60 + 60 * u + 60) 10 all.length true w) ∧ l'.length ≤ 160 := fun l' hl' => aheadW_ok (by omega) hA j3 (fun w hw => by cases hw) hl'
        obtain ⟨m, hm⟩ : ∃ m, v - u = m + 1 := ⟨v - u - 1, by omega⟩
        rw [hm, aheads_step] at j4
        have hset2 : ∀ l', (all.set v l).set v l' = all.set v l' := fun l' => by simp
        generalize all.getD u [] = A at *
        generalize hall2 : all.set v l = all2 at *
        generalize hres : aheadW A u l [] = res at *
        repeat (first | refine wk ?_ | refine s_field (hr := ?_))
        --@
        refine aw_nil 9 907 93 2 rfl rfl rfl ?_
        refine t_loop (X := Nat × List Work) (fun y => y.1 ≤ l.length ∧ y.2.length ≤ 160 + y.1 ∧ res = aheadW A u (l.drop y.1) y.2) (fun y => (10, I y.1) :: (9, .own 907 y.2.length) :: (8, I u) :: (7, I v) :: (6, .own 903 all2.length) :: toF) (fun y => (907, .row 93 2 (y.2.map (workD false))) :: toH t g all2) (fun y => l.length - y.1) (0, []) ⟨Nat.zero_le _, Nat.zero_le _, hres.symm⟩ ?_
        rintro ⟨i, out⟩ ⟨i1, i2, i3⟩
        dsimp only at i1 i2 i3 ⊢
        have hv2 : v < all2.length := by omega
        have hu2 : u < all2.length := by omega
        have hgu := hgu hv2
        have hgA := hgA hu2
        clear hall2
        subst hgu
        subst hgA
        by_cases hil : i < all2[v].length
        · have hx := j3 _ (List.getElem_mem hil)
          have hne := hx.ne rfl
          have h0 : 0 < all2[v][i].right.length := List.length_pos_iff.2 hne
          have hhd := hdI_at h0
          rw [aheadW_step hil, hhd] at i3
          have e1 : out.map (workD false) ++ [D.agg [ints false all2[v][i].right, fragsD false all2[v][i].l]] = (out ++ [all2[v][i]]).map (workD false) := by rw [List.map_append]; rfl
          by_cases hh : all2[v][i].right[0] = (u : Int)
          · rw [if_neg (fun q => q hh)] at i3
            have hu0 : hdI all2[v][i].right = (u : Int) := by rw [hhd, hh]
            have hin : ∃ rI, aheadIn all2[v][i] (all2[u]) out = rI := ⟨_, rfl⟩
            obtain ⟨rI, hrI⟩ := hin
            rw [hrI] at i3
            have hxr := hx.rl
            repeat (first | refine wk ?_ | refine s_field (hr := ?_))
            --@
            refine t_loop (X := Nat × List Work) (fun y => y.1 ≤ all2[u].length ∧ y.2.length ≤ 160 + i ∧ rI = aheadIn all2[v][i] (all2[u].drop y.1) y.2) (fun y => (12, I y.1) :: (11, .ptr 11 0) :: (10, I i) :: (9, .own 907 y.2.length) :: (8, I u) :: (7, I v) :: (6, .own 903 all2.length) :: toF) (fun y => (11, rwBox all2[v][i]) :: (907, .row 93 2 (y.2.map (workD false))) :: toH t g all2) (fun y => all2[u].length - y.1) (0, out) ⟨Nat.zero_le _, by dsimp only; omega, hrI.symm⟩ ?_
            rintro ⟨k, L⟩ ⟨q1, q2, q3⟩
            dsimp only at q1 q2 q3 ⊢
            by_cases hkl : k < all2[u].length
            · have hy := hA _ (List.getElem_mem hkl)
              have hki := kidsOf_sim (t := false) (xs := all2[u][k].right) (by have := hy.rl; omega)
              have how := ownInts_sim (t := false) (xs := all2[u][k].right) (by have := hy.rl; omega)
              have hpl := rplug_sim (t := false) (u := false) hg hx hy (by omega) (by omega) (by omega) hu0 (by omega)
              have hyr := hy.rl
              rw [aheadIn_step hkl] at q3
              have etl : List.drop 1 (List.take (all2[v][i].right.map iD).length (all2[v][i].right.map iD)) = all2[v][i].right.tail.map iD := by
                rw [List.take_length, ← List.map_drop, List.drop_one]
              repeat (first | refine wk ?_ | refine s_field (hr := ?_))
              --@
              refine s_call [(6, 905)] (hA := how) (hr := ?_)
              repeat (first | refine wk ?_ | refine s_field (hr := ?_))
              rw [etl]
              --@
              refine s_callf [(3, 906)] (hA := hki) (hr := ?_)
              repeat (first | refine wk ?_ | refine s_field (hr := ?_))
              --@
              refine s_call [] (hA := hpl) (hr := ?_)
              --@
              have e2 : L.map (workD false) ++ [D.agg [D.sl false 1 (all2[u][k].right.map iD ++ all2[v][i].right.tail.map iD), fragsD false (mixW all2[v][i] all2[u][k]).l]] = (L ++ [mixW all2[v][i] all2[u][k]]).map (workD false) := by rw [List.map_append (f := workD false), ← List.map_append (f := iD)]; rfl
              have e3 : (mixW all2[v][i] all2[u][k]).right = all2[u][k].right ++ all2[v][i].right.tail := rfl
              by_cases q4 : 10 < all2[u][k].right.length + all2[v][i].right.tail.length
              · rw [if_pos (.inl (by rw [e3, List.length_append]; exact q4))] at q3
                subst q3
                subst i3
                rw [j4] at k3
                dsimp only at k3
                subst k3
                rw [hts]
                (repeat (first | refine wk ?_ | refine s_field (hr := ?_)))
                (repeat (first | refine wkz ?_ | refine s_field (hr := ?_)))
                repeat (first | refine wk ?_ | refine s_field (hr := ?_))
                --@
                refine s_call [] (hA := f_sim) (hr := ?_)
                repeat (first | refine wk ?_ | refine s_field (hr := ?_))
                exact fin2
              · by_cases q5 : 160 < L.length + 1
                · rw [if_pos (.inr (by rw [List.length_append, List.length_singleton]; exact q5))] at q3
                  subst q3
                  subst i3
                  rw [j4] at k3
                  dsimp only at k3
                  subst k3
                  rw [hts]
                  repeat (first | refine wk ?_ | refine s_field (hr := ?_))
                  --@
                  refine s_call [] (hA := f_sim) (hr := ?_)
                  repeat (first | refine wk ?_ | refine s_field (hr := ?_))
                  exact fin2
                · rw [if_neg (fun q => by
                    rw [e3, List.length_append, List.length_append, List.length_singleton] at q
                    omega)] at q3
                  repeat (first | refine wk ?_ | refine s_field (hr := ?_))
                  --@
                  rw [e2]
                  exact t_next (k + 1, L ++ [mixW all2[v][i] all2[u][k]]) (a := ⟨by omega, by simp; omega, q3⟩) (b := by dsimp only; omega)
            · rw [aheadIn_end hkl] at q3
              subst q3
              repeat (first | refine wk ?_ | refine s_field (hr := ?_))
              --@
              exact t_next (i + 1, L) (a := ⟨by omega, by dsimp only; omega, i3⟩) (b := by dsimp only; omega)
          · rw [if_pos hh] at i3
            repeat (first | refine wk ?_ | refine s_field (hr := ?_))
            --@
            rw [e1]
            exact t_next (i + 1, out ++ [all2[v][i]]) (a := ⟨by omega, by simp; omega, i3⟩) (b := by dsimp only; omega)
        · rw [aheadW_end hil] at i3
          by_cases hm1 : 160 < out.length
          · rw [if_pos hm1] at i3
            subst i3
            rw [j4] at k3
            dsimp only at k3
            subst k3
            rw [hts]
            repeat (first | refine wk ?_ | refine s_field (hr := ?_))
            --@
            refine s_call [] (hA := f_sim) (hr := ?_)
            repeat (first | refine wk ?_ | refine s_field (hr := ?_))
            exact fin2
          · rw [if_neg hm1] at i3
            subst i3
            have hro := haok out rfl
            have e9 : (all2.map (worksD false)).set v (worksD false out) = (all.set v out).map (worksD false) := by rw [← hset2, List.map_set]
            have e10 : all2.length = (all.set v out).length := by rw [List.length_set]; exact hsl
            obtain rfl : m = v - (u + 1) := by omega
            refine aw_froz 907 rfl ?_
            repeat (first | refine wk ?_ | refine s_field (hr := ?_))
            --@
            rw [e10]
            exact t_next (u + 1, out) (a := ⟨by omega, hro.2, fun w hw => (hro.1 w hw).mono (by omega) (Nat.le_refl _) (Nat.le_refl _), j4⟩) (b := by dsimp only; omega) (d := ⟨.of rfl, .of rfl, .of rfl, row_eq rfl e9, trivial⟩)
      · obtain rfl : u = v := by omega
        rw [Nat.sub_self, aheads] at j4
        have hgo : ∀ w ∈ ownW (u : Int) l, w.right.length ≤ 1000 := fun w hw => by
          obtain ⟨x, hx, rfl⟩ := List.mem_map.1 hw
          have := (j3 x (List.mem_filter.1 hx).1).rl
          show x.right.tail.length ≤ _
          rw [List.length_tail]; omega
        have hgr : ∀ w ∈ otherW (u : Int) l, w.right.length ≤ 1000 := fun w hw => by
          have := (j3 w (List.mem_filter.1 hw).1).rl
          omega
        have hol : (ownW (u : Int) l).length ≤ 160 := by
          unfold ownW; rw [List.length_map]; exact Nat.le_trans (List.length_filter_le _ _) j2
        have hrl : (otherW (u : Int) l).length ≤ 160 := Nat.le_trans (List.length_filter_le _ _) j2
        have hwd := itself_wide (v := u) k2.wide j2
        have hbd := itself_ok hg k2 (v := u) (by omega) (l := l) (B := 60 + 60 * u) j3
        have hat : ∀ k ∈ itselfW all l u, ∃ i, k = (itselfW all l u).getD i [] := fun k hk => by
          obtain ⟨i, hi, rfl⟩ := List.mem_iff_getElem.1 hk
          exact ⟨i, by rw [List.getD_eq_getElem?_getD, List.getElem?_eq_getElem hi]; rfl⟩
        have hbe : ∀ k ∈ itselfW all l u, ∀ w ∈ k, w.right.length ≤ 1000 ∧ fszs w.l ≤ 100000 := fun k hk w hw => by
          obtain ⟨i, rfl⟩ := hat k hk
          have := hbd i w hw
          exact ⟨Nat.le_trans this.rl (by omega), Nat.le_trans this.sz (by omega)⟩
        have hbw : ∀ k ∈ itselfW all l u, ∀ w ∈ k, wfL g.rules.length w.l := fun k hk w hw => by
          obtain ⟨i, rfl⟩ := hat k hk
          exact (hbd i w hw).wf
        have hlen : (itselfW all l u).length ≤ 65 := by
          unfold itselfW
          split
          · rw [List.length_set]; omega
          · rw [List.length_set, List.length_append, List.length_singleton]; omega
        have htm := tooMuch_sim (all := itselfW all l u) (m := g.rules.length) (by omega) (fun k hk => Nat.le_trans (hwd k hk) (by omega)) hbe hbw
        have hrd := hround l j4
        rw [j4] at k3
        dsimp only at k3
        clear hwd hbd hbe hbw hat hround
        have hS0 : ∀ q : (ownW (u : Int) l).length = 0, itselfW all l u = all.set u l := fun q => by unfold itselfW; rw [if_pos q]
        have hS1 : ∀ q : ¬ (ownW (u : Int) l).length = 0, itselfW all l u = (all.set u l).set u ((otherW (u : Int) l).flatMap (thenW all.length)) ++ [(ownW (u : Int) l).flatMap (thenW all.length)] := fun q => by
          unfold itselfW
          rw [if_neg q, List.set_append_left _ _ (by omega), List.set_set]
        generalize hS : itselfW all l u = S at *
        clear hS
        repeat (first | refine wk ?_ | refine s_field (hr := ?_))
        --@
        refine aw_nil 15 915 93 2 rfl rfl rfl ?_
        refine aw_nil 16 916 93 2 rfl rfl rfl ?_
        generalize hall2 : all.set u l = all2 at *
        have hu2 : u < all2.length := by omega
        have hgu := hgu hu2
        clear hall2 hgo hgr
        subst hgu
        refine t_loop (X := Nat) (fun i => i ≤ all2[u].length) (fun i => (18, I i) :: (17, I all.length) :: (15, .own 915 ((ownW (u : Int) (all2[u].take i)).flatMap (thenW all.length)).length) :: (16, .own 916 ((otherW (u : Int) (all2[u].take i)).flatMap (thenW all.length)).length) :: (7, I u) :: (6, .own 903 all2.length) :: toF) (fun i => (915, .row 93 2 (((ownW (u : Int) (all2[u].take i)).flatMap (thenW all.length)).map (workD false))) :: (916, .row 93 2 (((otherW (u : Int) (all2[u].take i)).flatMap (thenW all.length)).map (workD false))) :: toH t g all2) (fun i => all2[u].length - i) 0 (Nat.zero_le _) ?_
        intro i hi
        by_cases hil : i < all2[u].length
        · have hx := j3 _ (List.getElem_mem hil)
          have hne := hx.ne rfl
          have h0 : 0 < all2[u][i].right.length := List.length_pos_iff.2 hne
          have hhd := hdI_at h0
          have hxr := hx.rl
          have s1 := ownW_snoc (v := (u : Int)) hil
          have s2 := otherW_snoc (v := (u : Int)) hil
          rw [hhd] at s1 s2
          have b1 : (ownW (u : Int) (all2[u].take i)).length ≤ 160 := by
            unfold ownW; rw [List.length_map]
            refine Nat.le_trans (List.length_filter_le _ _) ?_
            rw [List.length_take]; omega
          have b2 : (otherW (u : Int) (all2[u].take i)).length ≤ 160 := by
            refine Nat.le_trans (List.length_filter_le _ _) ?_
            rw [List.length_take]; omega
          have ln1 := thens_len (all.length : Int) (ownW (u : Int) (all2[u].take i))
          have ln2 := thens_len (all.length : Int) (otherW (u : Int) (all2[u].take i))
          by_cases hh : all2[u][i].right[0] = (u : Int)
          · rw [if_pos hh] at s1 s2
            rw [List.append_nil] at s2
            have hgp := rgap_sim (t := false) hg hx (by omega) (by omega) (by rw [hhd, hh]; omega)
            have how := ownInts_sim (t := false) (xs := all2[u][i].right.tail) (by rw [List.length_tail]; omega)
            have htw : ACalls Try.prog 67 [.d (.agg [.sl false 1 (all2[u][i].right.tail.map iD), fragsD false (gappedW all2[u][i]).l]), I all.length] [] (.own 21 2) [(21, .row 93 2 ((thenW (all.length : Int) (gappedW all2[u][i])).map (workD false)))] := twice_sim (x := gappedW all2[u][i]) (v := all.length) (by show all2[u][i].right.tail.length ≤ _; rw [List.length_tail]; omega) (by omega)
            have etl : List.drop 1 (List.take (all2[u][i].right.map iD).length (all2[u][i].right.map iD)) = all2[u][i].right.tail.map iD := by
              rw [List.take_length, ← List.map_drop, List.drop_one]
            have e1 : ((ownW (u : Int) (all2[u].take i)).flatMap (thenW all.length)).map (workD false) ++ (thenW (all.length : Int) (gappedW all2[u][i])).map (workD false) = ((ownW (u : Int) (all2[u].take (i + 1))).flatMap (thenW all.length)).map (workD false) := by
              rw [s1, List.flatMap_append, List.map_append]; simp [gappedW]
            rw [← s2]
            generalize (ownW (u : Int) (all2[u].take i)).flatMap (thenW all.length) = O1 at *
            have hl2 : (thenW (all.length : Int) (gappedW all2[u][i])).length = 2 := rfl
            repeat (first | refine wk ?_ | refine s_field (hr := ?_))
            rw [etl]
            --@
            refine s_call [(6, 925)] (hA := how) (hr := ?_)
            repeat (first | refine wk ?_ | refine s_field (hr := ?_))
            --@
            refine s_call [] (hA := hgp) (hr := ?_)
            repeat (first | refine wk ?_ | refine s_field (hr := ?_))
            --@
            refine s_callf [(21, 921)] (hA := htw) (hr := ?_)
            repeat (first | refine wk ?_ | refine s_field (hr := ?_))
            --@
            rw [e1]
            exact t_next (i + 1)
          · rw [if_neg hh] at s1 s2
            rw [List.append_nil] at s1
            have htw := twice_sim (x := all2[u][i]) (v := all.length) (by omega) (by omega)
            have e1 : ((otherW (u : Int) (all2[u].take i)).flatMap (thenW all.length)).map (workD false) ++ (thenW (all.length : Int) all2[u][i]).map (workD false) = ((otherW (u : Int) (all2[u].take (i + 1))).flatMap (thenW all.length)).map (workD false) := by
              rw [s2, List.flatMap_append, List.map_append]; simp
            rw [← s1]
            generalize (otherW (u : Int) (all2[u].take i)).flatMap (thenW all.length) = O1 at *
            have hl2 : (thenW (all.length : Int) all2[u][i]).length = 2 := rfl
            repeat (first | refine wk ?_ | refine s_field (hr := ?_))
            --@
            refine s_call [(21, 921)] (hA := htw) (hr := ?_)
            repeat (first | refine wk ?_ | refine s_field (hr := ?_))
            --@
            rw [e1]
            exact t_next (i + 1)
        · obtain rfl : i = all2[u].length := by omega
          rw [List.take_length]
          have ln1 := thens_len (all.length : Int) (ownW (u : Int) all2[u])
          have ln2 := thens_len (all.length : Int) (otherW (u : Int) all2[u])
          by_cases h0 : (ownW (u : Int) all2[u]).length = 0
          · have hS := (hS0 h0).symm
            subst hS
            rw [h0] at ln1
            generalize (ownW (u : Int) all2[u]).flatMap (thenW all.length) = OO at *
            generalize (otherW (u : Int) all2[u]).flatMap (thenW all.length) = RR at *
            cases hft : fitsT all2 with
            | true =>
              have hrd := hrd hft
              rw [hft] at htm k3
              rw [if_pos rfl] at k3
              repeat (first | refine wk ?_ | refine s_field (hr := ?_))
              --@
              refine s_call [(1001, 903)] (hA := htm) (hr := ?_)
              repeat (first | refine wk ?_ | refine s_field (hr := ?_))
              --@
              exact t_next (u + 1, all2) (a := ⟨by omega, hrd, k3⟩)
            | false =>
              rw [hft] at htm k3
              rw [if_neg (by decide)] at k3
              subst k3
              rw [hts]
              repeat (first | refine wk ?_ | refine s_field (hr := ?_))
              --@
              refine s_call [(1001, 903)] (hA := htm) (hr := ?_)
              repeat (first | refine wk ?_ | refine s_field (hr := ?_))
              --@
              refine s_call [] (hA := f_sim) (hr := ?_)
              repeat (first | refine wk ?_ | refine s_field (hr := ?_))
              exact fin2
          · have hS := hS1 h0
            generalize (ownW (u : Int) all2[u]).flatMap (thenW all.length) = OO at *
            generalize (otherW (u : Int) all2[u]).flatMap (thenW all.length) = RR at *
            have e9 : (all2.map (worksD false)).set u (D.sl false 2 (RR.map (workD false))) ++ [D.sl false 2 (OO.map (workD false))] = S.map (worksD false) := by
              rw [hS, List.map_append, List.map_set]; rfl
            clear hS hS0 hS1
            refine aw_froz 916 rfl ?_
            refine aw_froz 915 rfl ?_
            cases hft : fitsT S with
            | true =>
              have hrd := hrd hft
              rw [hft] at htm k3
              rw [if_pos rfl] at k3
              repeat (first | refine wk ?_ | refine s_field (hr := ?_))
              --@
              rw [e9, List.length_map]
              refine s_call [(1001, 903)] (hA := htm) (hr := ?_)
              repeat (first | refine wk ?_ | refine s_field (hr := ?_))
              --@
              exact t_next (u + 1, S) (a := ⟨by omega, hrd, k3⟩)
            | false =>
              rw [hft] at htm k3
              rw [if_neg (by decide)] at k3
              subst k3
              rw [hts]
              repeat (first | refine wk ?_ | refine s_field (hr := ?_))
              --@
              rw [e9, List.length_map]
              refine s_call [(1001, 903)] (hA := htm) (hr := ?_)
              repeat (first | refine wk ?_ | refine s_field (hr := ?_))
              --@
              refine s_call [] (hA := f_sim) (hr := ?_)
              repeat (first | refine wk ?_ | refine s_field (hr := ?_))
              exact fin2
    · obtain rfl : v = N := by omega
      rw [Nat.sub_self, turnAll] at k3
      subst k3
      have hz0 : turnAll 0 g.vars.toNat (startW g) = .ok all := by rw [hNt]; exact hrr
      obtain ⟨hI, hfit⟩ := turn_inv hg (emptyAt_none he) hz0
      obtain ⟨f1, f2, f3⟩ := fitsT_iff.1 hfit
      have hgk := (turn_gok hg (emptyAt_none he) hz0).rules
      have hend : factorEnd g (.ok all) = (⟨⟨(all.length : Nat), g.terms, g.start, rulesF all 0⟩, fragsF all, []⟩, ⟨0, 0⟩) := by
        rw [factorEnd]
        simp only [finW_of (all := all) (v := 0) (R := []) (F := []) (by simpa using hgk) (fun l hl w hw => (f1 l hl w hw).1)]
        simp
      have hso := stepOf_sim (t := t) (g := g) (z := all) h64 k2.wide (fun l hl w hw => by
        obtain ⟨u, hu, rfl⟩ := List.mem_iff_getElem.1 hl
        have h := k2.ok u w (by rw [List.getD_eq_getElem?_getD, List.getElem?_eq_getElem hu]; exact hw)
        exact ⟨h.sym, Nat.le_trans h.rl (by decide), ok_use h.wf h.kd h.sz, Nat.le_trans h.sz (by decide)⟩)
      rw [hend] at hso
      rw [hts]
      dsimp only at hso ⊢
      clear hend hrr hz0 hgk hI0
      repeat (first | refine wk ?_ | refine s_field (hr := ?_))
      --@
      refine s_callf [] (hA := hso) (hr := ?_)
      repeat (first | refine wk ?_ | refine s_field (hr := ?_))
      --@
      exact fin2
end Go.Proofs.Yticnpbopelgmiaa
