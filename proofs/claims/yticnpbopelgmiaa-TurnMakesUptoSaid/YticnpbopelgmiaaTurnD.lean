/-
  Sim: turn.Make.
-/
import Derived.Test.YticnpbopelgmiaaTurnC
import Derived.Test.YticnpbopelgmiaaQFactsK
set_option linter.unusedVariables false
set_option linter.unusedSimpArgs false
set_option linter.unusedSectionVars false
namespace Go.Proofs.Yticnpbopelgmiaa
open Go.RowKit
set_option maxRecDepth 100000
-- SimX

abbrev tmF : Fr := [(8, .ptr 53 0), (1, .ptr 1 0), (2, .ptr 2 0), (3, .ptr 3 0)]
abbrev tmH (g : Gram) (all : List (List Work)) (b : Bool) : Hp := [(1, gramBox false g), (2, stepBox false zeroStep), (3, .box 33 [.d (iD 0), .d (iD 0)]), (53, .box 80 [.own 901 all.length, B b]), (901, .row 81 1 (all.map (worksD false)))]
theorem findIdx_at {rs : List Rule} : ∀ {i : Nat}, (∀ (j : Nat) (h : j < rs.length), j < i → ¬ rs[j].right.length = 0) → ∀ h : i < rs.length, rs[i].right.length = 0 → rs.findIdx? (fun r => decide (r.right.length = 0)) = some i := fun {i} h1 h h2 => by
  rw [List.findIdx?_eq_some_iff_getElem]
  exact ⟨h, decide_eq_true h2, fun j hj => by simpa using h1 j (by omega) hj⟩
theorem findIdx_not {rs : List Rule} (h1 : ∀ (j : Nat) (h : j < rs.length), ¬ rs[j].right.length = 0) : rs.findIdx? (fun r => decide (r.right.length = 0)) = none := by
  rw [List.findIdx?_eq_none_iff]
  intro r hr
  obtain ⟨j, hj, rfl⟩ := List.mem_iff_getElem.1 hr
  simpa using h1 j hj
theorem aheads_step {all : List (List Work)} {u n : Nat} {l : List Work} : aheads all u (n + 1) l = match aheadW (all.getD u []) u l [] with
    | none => none
    | some l' => aheads all (u + 1) n l' := rfl
theorem itself_wide {all : List (List Work)} {l : List Work} {v : Nat} (h : ∀ k ∈ all, k.length ≤ 160) (hl : l.length ≤ 160) : ∀ k ∈ itselfW all l v, k.length ≤ 320 := by
  have ho : (otherW v l).length ≤ l.length := List.length_filter_le _ _
  have hw : (ownW v l).length ≤ l.length := by rw [ownW, List.length_map]; exact List.length_filter_le _ _
  intro k hk
  unfold itselfW at hk
  split at hk
  · rcases List.mem_or_eq_of_mem_set hk with hk | rfl
    · have := h k hk; omega
    · omega
  · rcases List.mem_or_eq_of_mem_set hk with hk | rfl
    · rcases List.mem_append.1 hk with hk | hk
      · have := h k hk; omega
      · rw [List.mem_singleton.1 hk, thens_len]; omega
    · rw [thens_len]; omega
set_option maxHeartbeats 8000000 in
theorem turnMake_sim {g : Gram} (hf : g.fit) :
    ACalls Try.prog 22 [.d (gramD false g)] [] (.tup [.d (stepD false (turnS g).1), .d (faultD (turnS g).2)]) [] := by
  refine ACalls.intro (n := 196) Try.func22 rfl rfl (by simp) (by rfl) ?_
  simp only [argFr]
  have hr1 := hf.rules
  have hr2 := hf.right
  have hcy := cyclic_sim (t := false) hf
  by_cases hc : (gramFault g).code = 0
  rotate_left
  · rw [show turnS g = (zeroStep, gramFault g) by rw [turnS, if_neg hc]]
    generalize gramFault g = gf at *
    generalize cycL g = cl at *
    repeat (first | refine wk ?_ | refine s_field (hr := ?_))
    refine s_call [] (hA := hcy) (hr := ?_)
    repeat (first | refine wk ?_ | refine s_field (hr := ?_))
    exact fin2
  have hg := gram_ok hc
  have hgf := hg.fault
  rw [hgf] at hcy
  have hcl : (cycL g).length ≤ 100000000 := by
    have h1 := hg.vars
    unfold cycL selfN
    rw [if_pos hc, List.length_map]
    have h2 := List.length_filter_le (fun (v : Nat) => has (rowM (ledM false g) v) v) (List.range g.vars.toNat)
    rw [List.length_range] at h2
    omega
  have hts : turnS g = match emptyAt g with
    | some i => (zeroStep, ⟨11, i⟩)
    | none => if 0 < (cycL g).length then (zeroStep, ⟨10, -1⟩) else
      match turnAll 0 g.vars.toNat (startW g) with
      | .error v => (zeroStep, ⟨6, (v : Nat)⟩)
      | .ok z => (⟨⟨(z.length : Nat), g.terms, g.start, rulesF z 0⟩, fragsF z, []⟩, ⟨0, 0⟩) := by rw [turnS, if_pos hc]; rfl
  have hv := hg.vars
  have hv1 := hg.vars1
  have hr160 := hg.rules
  generalize hcl' : cycL g = cl at *
  repeat (first | refine wk ?_ | refine s_field (hr := ?_))
  refine s_call [] (hA := hcy) (hr := ?_)
  repeat (first | refine wk ?_ | refine s_field (hr := ?_))
  --@
  refine t_loop (X := Nat) (fun i => i ≤ g.rules.length ∧ ∀ (j : Nat) (h : j < g.rules.length), j < i → ¬ g.rules[j].right.length = 0) (fun i => [(34, I i), (33, I g.rules.length), (32, .d (rulesD false g.rules)), (4, .d (ints false cl)), (1, .ptr 1 0), (2, .ptr 2 0), (3, .ptr 3 0)]) (fun _ => [(1, gramBox false g), (2, stepBox false zeroStep), (3, .box 33 [.d (iD 0), .d (iD 0)])]) (fun i => g.rules.length - i) 0 ⟨Nat.zero_le _, fun j h q => by omega⟩ ?_
  rintro i ⟨hi, hne⟩
  by_cases hlt : i < g.rules.length
  · by_cases h0 : g.rules[i].right.length = 0
    · have he : emptyAt g = some i := findIdx_at hne hlt h0
      rw [he] at hts
      rw [hts]
      repeat (first | refine wk ?_ | refine s_field (hr := ?_))
      --@
      exact fin2
    · repeat (first | refine wk ?_ | refine s_field (hr := ?_))
      --@
      exact t_next (i + 1) (a := ⟨by omega, fun j h q => by
        by_cases e : j = i
        · subst e; exact h0
        · exact hne j h (by omega)⟩)
  · obtain rfl : i = g.rules.length := by omega
    have hne' : ∀ (j : Nat) (h : j < g.rules.length), ¬ g.rules[j].right.length = 0 := fun j h => hne j h h
    have he : emptyAt g = none := findIdx_not hne'
    rw [he] at hts
    dsimp only at hts
    by_cases hn : 0 < cl.length
    · rw [if_pos hn] at hts
      rw [hts]
      repeat (first | refine wk ?_ | refine s_field (hr := ?_))
      --@
      exact fin2
    rw [if_neg hn] at hts
    have hI0 := start_tinv hg fun r hr => by
      obtain ⟨j, hj, rfl⟩ := List.mem_iff_getElem.1 hr
      intro q
      exact hne' j hj (by rw [q]; rfl)
    have hSl := startW_length g
    obtain ⟨N, hN⟩ : ∃ N : Nat, g.vars = (N : Int) := ⟨g.vars.toNat, by omega⟩
    have hNt : g.vars.toNat = N := by omega
    rw [hNt] at hSl hts
    generalize hrr : turnAll 0 N (startW g) = r at *
    repeat (first | refine wk ?_ | refine s_field (hr := ?_))
    --@
    refine aw_nilCell 53 0 901 81 1 rfl rfl rfl rfl ?_
    refine t_loop (X := Nat) (fun v => v ≤ N) (fun v => (56, I v) :: (55, .d (iD g.vars)) :: tmF) (fun v => tmH g ((startW g).take v) false) (fun v => N - v) 0 (Nat.zero_le _) ?_
    intro v hvN
    have htl : ((startW g).take v).length = v := by simp; omega
    by_cases hvl : v < N
    · have hsn : (startW g).take (v + 1) = (startW g).take v ++ [worksAt g v] := by
        have e := startW_get (g := g) (v := v) (by omega)
        rw [List.getD_eq_getElem?_getD, List.getElem?_eq_getElem (by omega)] at e
        rw [List.take_succ_eq_append_getElem (by omega)]
        congr 2
      have hbl := by_len g (v : Int)
      have hby := fun r hr => by_atR (g := g) (v := v) (r := r) hr
      repeat (first | refine wk ?_ | refine s_field (hr := ?_))
      --@
      refine s_call [(5, 933)] (hA := by_sim) (hr := ?_)
      repeat (first | refine wk ?_ | refine s_field (hr := ?_))
      have hwk : worksAt g v = (by_ g v).map fun r => ⟨(ruleAt g r).right, nodeF r (kids (ruleAt g r).right).length⟩ := rfl
      rw [hwk] at hsn
      generalize by_ g v = bs at *
      generalize (startW g).take v = SW at *
      generalize hmk : (fun r => (⟨(ruleAt g r).right, nodeF r (kids (ruleAt g r).right).length⟩ : Work)) = mk at *
      refine aw_nil 10 907 86 2 rfl rfl rfl ?_
      --@
      refine t_loop (X := Nat) (fun j => j ≤ bs.length) (fun j => (63, I j) :: (62, I bs.length) :: (61, .own 933 bs.length) :: (10, .own 907 ((bs.take j).map mk).length) :: (9, I v) :: (56, I v) :: (55, .d (iD g.vars)) :: tmF)
        (fun j => (933, .row 3 1 (bs.map iD)) :: (907, .row 86 2 (((bs.take j).map mk).map (workD false))) :: tmH g SW false) (fun j => bs.length - j) 0 (Nat.zero_le _) ?_
      intro j hj
      have hTl : ((bs.take j).map mk).length = j := by simp; omega
      by_cases hjl : j < bs.length
      · obtain ⟨m, hm, hbm, _, hra⟩ := hby _ (List.getElem_mem hjl)
        have hrm := hg.right _ (List.getElem_mem hm)
        have hkl := kids_le g.rules[m].right
        have hcl := clone_sim (t := false) (xs := g.rules[m].right) (by omega)
        have hki := tkids_sim (t := false) (xs := g.rules[m].right) (by omega)
        have hno := node_sim (r := bs[j]) (k := (kids g.rules[m].right).length) (by omega)
        have hmkj : mk bs[j] = ⟨g.rules[m].right, nodeF bs[j] (kids g.rules[m].right).length⟩ := by rw [← hmk]; simp only [hra]
        have e1 : ((bs.take j).map mk).map (workD false) ++ [D.agg [ints false g.rules[m].right, fragsD false (nodeF bs[j] (kids g.rules[m].right).length)]] = ((bs.take (j + 1)).map mk).map (workD false) := by
          rw [List.take_succ_eq_append_getElem hjl, List.map_append, List.map_append]; simp [hmkj, workD]
        generalize (bs.take j).map mk = WK at *
        repeat (first | refine wk ?_ | refine s_field (hr := ?_))
        --@
        refine s_callf [(5, 920)] (hA := hcl) (hr := ?_)
        repeat (first | refine wk ?_ | refine s_field (hr := ?_))
        refine s_callf [] (hA := hki) (hr := ?_)
        repeat (first | refine wk ?_ | refine s_field (hr := ?_))
        refine s_callf [(20, 921)] (hA := hno) (hr := ?_)
        repeat (first | refine wk ?_ | refine s_field (hr := ?_))
        --@
        rw [e1]
        exact t_next (j + 1)
      · obtain rfl : j = bs.length := by omega
        rw [List.take_length]
        have e1 : SW.map (worksD false) ++ [worksD false (bs.map mk)] = ((startW g).take (v + 1)).map (worksD false) := by rw [hsn]; simp
        have e2 : ((startW g).take (v + 1)).length = SW.length + 1 := by rw [hsn]; simp
        generalize bs.map mk = WK at *
        repeat (first | refine wk ?_ | refine s_field (hr := ?_))
        --@
        rw [e1, List.length_map]
        exact t_next (v + 1)
    · obtain rfl : N = v := by omega
      have hall : (startW g).take N = startW g := List.take_of_length_le (by omega)
      rw [hall]
      clear htl hall
      repeat (first | refine wk ?_ | refine s_field (hr := ?_))
      --@
      refine t_loop (X := Nat × List (List Work)) (fun x => x.1 ≤ N ∧ TInv g x.2 ∧ turnAll x.1 (N - x.1) x.2 = r) (fun x => (101, I x.1) :: (100, .d (iD g.vars)) :: tmF) (fun x => tmH g x.2 false) (fun x => N - x.1) (0, startW g) ⟨Nat.zero_le _, hI0, hrr⟩ ?_
      rintro ⟨v, all⟩ ⟨k1, k2, k3⟩
      dsimp only at k1 k2 k3 ⊢
      have h64 := k2.len
      have hvars := k2.vars
      rw [hNt] at hvars
      by_cases hva : v < N
      · obtain ⟨n, hn1⟩ : ∃ n, N - v = n + 1 := ⟨N - v - 1, by omega⟩
        rw [hn1, turnAll] at k3
        have hn2 : n = N - (v + 1) := by omega
        subst hn2
        have hgv : all.getD v [] = all[v] := by rw [List.getD_eq_getElem?_getD, List.getElem?_eq_getElem (by omega)]; rfl
        have hok0 : ∀ w ∈ all[v], TOk g 60 10 all.length true w := fun w hw => by
          have := k2.ok v w (by rw [hgv]; exact hw)
          rw [decide_eq_true (by omega)] at this; exact this
        have hw0 := k2.wide _ (List.getElem_mem (show v < all.length by omega))
        have hround := fun l hl hf => round_ok hg k2 (v := v) (by omega) (l := l) hl hf
        rw [hgv] at k3 hround
        generalize hl0 : all[v] = l0 at *
        repeat (first | refine wk ?_ | refine s_field (hr := ?_))
        --@
        rw [hl0]
        refine t_loop (X := Nat × List Work × Bool) (fun x => x.1 ≤ v ∧ x.2.1.length ≤ 160 ∧ (∀ w ∈ x.2.1, TOk g (60 + 60 * x.1) 10 all.length true w) ∧ aheads all 0 v l0 = (if x.2.2 = true then none else aheads all x.1 (v - x.1) x.2.1)) (fun x => (15, I x.1) :: (14, .d (worksD false x.2.1)) :: (13, I v) :: (101, I v) :: (100, .d (iD g.vars)) :: tmF) (fun x => tmH g all x.2.2) (fun x => v - x.1) (0, l0, false) ⟨Nat.zero_le _, hw0, hok0, rfl⟩ ?_
        rintro ⟨u, l, b⟩ ⟨j1, j2, j3, j4⟩
        dsimp only at j1 j2 j3 j4 ⊢
        by_cases hb : u < v ∧ b = false
        · obtain ⟨huv, rfl⟩ := hb
          have hA : ∀ y ∈ all.getD u [], TOk g 60 10 all.length true y := fun y hy => by
            have := k2.ok u y hy
            rw [decide_eq_true (by omega)] at this; exact this
          have hA160 : (all.getD u []).length ≤ 160 := by
            refine k2.wide _ ?_
            rw [List.getD_eq_getElem?_getD, List.getElem?_eq_getElem (by omega)]; exact List.getElem_mem _
          have hah := ahead_sim hg (u := u) (l := l) (N := all.length) (B := 60 + 60 * u) (by omega) h64 hA hA160 j3 j2 (by omega)
          have haok : ∀ l', aheadW (all.getD u []) u l [] = some l' → (∀ w ∈ l', TOk g (60 + 60 * u + 60) 10 all.length true w) ∧ l'.length ≤ 160 := fun l' hl' => aheadW_ok (by omega) hA j3 (fun w hw => by cases hw) hl'
          obtain ⟨m, hm⟩ : ∃ m, v - u = m + 1 := ⟨v - u - 1, by omega⟩
          rw [if_neg (by decide), hm, aheads_step] at j4
          generalize aheadW (all.getD u []) u l [] = res at *
          repeat (first | refine wk ?_ | refine s_field (hr := ?_))
          --@
          refine s_call [(1000, 53), (1001, 901)] (hA := hah) (hr := ?_)
          cases res with
          | none =>
            repeat (first | refine wk ?_ | refine s_field (hr := ?_))
            --@
            exact t_next (u + 1, [], true) (a := ⟨by omega, by simp, fun w hw => (by cases hw), j4⟩) (b := by dsimp only; omega)
          | some l' =>
            obtain ⟨q1, q2⟩ := haok l' rfl
            obtain rfl : m = v - (u + 1) := by omega
            repeat (first | refine wk ?_ | refine s_field (hr := ?_))
            --@
            exact t_next (u + 1, l', false) (a := ⟨by omega, q2, fun w hw => (q1 w hw).mono (by omega) (Nat.le_refl _) (Nat.le_refl _), j4⟩) (b := by dsimp only; omega)
        · have hit := itself_sim hg (all := all) (l := l) (v := v) (N := all.length) (B := 60 + 60 * u) (b := b) h64 j3 j2 (by omega)
          have his := itself_is all l v
          have hsl : ((itA all l v).set v (itL all l v)).length = (itA all l v).length := List.length_set
          have hia : v < (itA all l v).length := by
            have := itself_len all l v
            rw [his, hsl] at this; omega
          have hwd := itself_wide (v := v) k2.wide j2
          have hbd := itself_ok hg k2 (v := v) (by omega) (l := l) (B := 60 + 60 * u) j3
          have hbe : ∀ k ∈ itselfW all l v, ∀ w ∈ k, w.right.length ≤ 1000 ∧ fszs w.l ≤ 100000 := fun k hk w hw => by
            obtain ⟨i, hi, rfl⟩ := List.mem_iff_getElem.1 hk
            have := hbd i w (by rw [List.getD_eq_getElem?_getD, List.getElem?_eq_getElem hi]; exact hw)
            exact ⟨Nat.le_trans this.rl (by omega), Nat.le_trans this.sz (by omega)⟩
          have hlen : (itselfW all l v).length ≤ 65 := by
            unfold itselfW
            split
            · rw [List.length_set]; omega
            · rw [List.length_set, List.length_append, List.length_singleton]; omega
          have hfi := tfits_sim (all := itselfW all l v) (b := b) (by omega) (fun k hk => Nat.le_trans (hwd k hk) (by omega)) hbe
          have hset : ((itA all l v).map (worksD false)).set v (worksD false (itL all l v)) = (itselfW all l v).map (worksD false) := by rw [his, List.map_set]
          have hlw : (itA all l v).length = (itselfW all l v).length := by rw [his, hsl]
          have hrd := hround l
          have hk3 : aheads all 0 v l0 = some l → (if fitsT (itselfW all l v) = true then turnAll (v + 1) (N - (v + 1)) (itselfW all l v) else Except.error v) = r := fun e => by rw [e] at k3; exact k3
          clear hwd hbd hbe hsl hround
          generalize itselfW all l v = S at *
          generalize itA all l v = A at *
          generalize itL all l v = L at *
          have hvA : v < (A.map (worksD false)).length := by rw [List.length_map]; exact hia
          cases b with
          | true =>
            rw [if_pos rfl] at j4
            rw [j4] at k3
            dsimp only at k3
            subst k3
            rw [hts]
            clear hrr hk3
            by_cases huv : u < v
            · repeat (first | refine wk ?_ | refine s_field (hr := ?_))
              refine s_call [(1000, 53), (1001, 901)] (hA := hit) (hr := ?_)
              repeat (first | refine wk ?_ | refine s_field (hr := ?_))
              --@
              rw [hset, hlw]
              refine s_call [(1000, 53), (1001, 901)] (hA := hfi) (hr := ?_)
              repeat (first | refine wk ?_ | refine s_field (hr := ?_))
              exact fin2
            · repeat (first | refine wk ?_ | refine s_field (hr := ?_))
              refine s_call [(1000, 53), (1001, 901)] (hA := hit) (hr := ?_)
              repeat (first | refine wk ?_ | refine s_field (hr := ?_))
              --@
              rw [hset, hlw]
              refine s_call [(1000, 53), (1001, 901)] (hA := hfi) (hr := ?_)
              repeat (first | refine wk ?_ | refine s_field (hr := ?_))
              exact fin2
          | false =>
            rw [if_neg (by decide)] at j4
            obtain rfl : u = v := Classical.byContradiction fun q => hb ⟨by omega, rfl⟩
            rw [Nat.sub_self, aheads] at j4
            have k3 := hk3 j4
            by_cases hft : fitsT S = true
            · have hrd := hrd j4 hft
              rw [if_pos hft] at k3
              rw [hft] at hfi
              clear hrr hk3
              repeat (first | refine wk ?_ | refine s_field (hr := ?_))
              refine s_call [(1000, 53), (1001, 901)] (hA := hit) (hr := ?_)
              repeat (first | refine wk ?_ | refine s_field (hr := ?_))
              --@
              rw [hset, hlw]
              refine s_call [(1000, 53), (1001, 901)] (hA := hfi) (hr := ?_)
              repeat (first | refine wk ?_ | refine s_field (hr := ?_))
              --@
              exact t_next (u + 1, S) (a := ⟨by dsimp only; omega, hrd, k3⟩)
            · rw [if_neg hft] at k3
              rw [Bool.not_eq_true] at hft
              rw [hft] at hfi
              clear hrr hk3
              subst k3
              rw [hts]
              repeat (first | refine wk ?_ | refine s_field (hr := ?_))
              refine s_call [(1000, 53), (1001, 901)] (hA := hit) (hr := ?_)
              repeat (first | refine wk ?_ | refine s_field (hr := ?_))
              --@
              rw [hset, hlw]
              refine s_call [(1000, 53), (1001, 901)] (hA := hfi) (hr := ?_)
              repeat (first | refine wk ?_ | refine s_field (hr := ?_))
              --@
              exact fin2
      · obtain rfl : v = N := by omega
        rw [Nat.sub_self, turnAll] at k3
        subst k3
        have hgk := turn_gok hg (emptyAt_none he) (z := all) (by rw [hNt]; exact hrr)
        have h160 := hgk.rules
        dsimp only at hts h160
        rw [hts]
        have hw160 : ∀ i (h : i < all.length), all[i].length ≤ 160 := fun i h => k2.wide _ (List.getElem_mem h)
        have hwo : ∀ i (h : i < all.length), ∀ w ∈ all[i], w.right.length ≤ 10 ∧ fszs w.l ≤ 100000000 ∧ NbL 1000000000 w.l := fun i h w hw => by
          have := k2.ok i w (by rw [List.getD_eq_getElem?_getD, List.getElem?_eq_getElem h]; exact hw)
          exact ⟨this.rl, Nat.le_trans this.sz (by decide), this.nb hg (by decide)⟩
        clear hrr hts hgk hI0 hva hvars
        generalize all = z at *
        repeat (first | refine wk ?_ | refine s_field (hr := ?_))
        --@
        refine aw_nilCell 16 3 903 41 2 rfl rfl rfl rfl ?_
        refine aw_nilCell 16 4 904 65 1 rfl rfl rfl rfl ?_
        refine t_loop (X := Nat × List Rule × List (List Frag)) (fun x => x.1 ≤ z.length ∧ rulesF z 0 = x.2.1 ++ rulesF (z.drop x.1) x.1 ∧ fragsF z = x.2.2 ++ fragsF (z.drop x.1) ∧ x.2.2.length = x.2.1.length)
          (fun x => [(161, I x.1), (160, I z.length), (159, .own 901 z.length), (16, .ptr 16 0), (2, .ptr 2 0), (3, .ptr 3 0)])
          (fun x => [(2, stepBox false zeroStep), (3, .box 33 [.d (iD 0), .d (iD 0)]), (901, .row 81 1 (z.map (worksD false))), (16, .box 31 [.d (iD (z.length : Nat)), .d (iD g.terms), .d (iD g.start), .own 903 x.2.1.length, .own 904 x.2.2.length, .d nilT]), (903, .row 41 2 (x.2.1.map (ruleD false))), (904, .row 65 1 (x.2.2.map (fragsD false)))])
          (fun x => z.length - x.1) (0, [], []) ⟨Nat.zero_le _, rfl, rfl, rfl⟩ ?_
        rintro ⟨v, R, F⟩ ⟨m1, m2, m3, m4⟩
        dsimp only at m1 m2 m3 m4 ⊢
        by_cases hvz : v < z.length
        · have hzl := hw160 v hvz
          have hzo := hwo v hvz
          rw [List.drop_eq_getElem_cons hvz, rulesF] at m2
          rw [List.drop_eq_getElem_cons hvz, fragsF] at m3
          rw [← List.append_assoc] at m2 m3
          generalize hl : z[v] = l at *
          repeat (first | refine wk ?_ | refine s_field (hr := ?_))
          --@
          rw [hl]
          repeat (first | refine wk ?_ | refine s_field (hr := ?_))
          --@
          refine t_loop (X := Nat × List Rule × List (List Frag)) (fun x => x.1 ≤ l.length ∧ rulesF z 0 = x.2.1 ++ (l.drop x.1).map (fun w => (⟨(v : Int), w.right⟩ : Rule)) ++ rulesF (z.drop (v + 1)) (v + 1) ∧ fragsF z = x.2.2 ++ (l.drop x.1).map (·.l) ++ fragsF (z.drop (v + 1)) ∧ x.2.2.length = x.2.1.length)
            (fun x => [(168, I x.1), (167, I l.length), (166, .d (worksD false l)), (17, I v), (161, I v), (160, I z.length), (159, .own 901 z.length), (16, .ptr 16 0), (2, .ptr 2 0), (3, .ptr 3 0)])
            (fun x => [(2, stepBox false zeroStep), (3, .box 33 [.d (iD 0), .d (iD 0)]), (901, .row 81 1 (z.map (worksD false))), (16, .box 31 [.d (iD (z.length : Nat)), .d (iD g.terms), .d (iD g.start), .own 903 x.2.1.length, .own 904 x.2.2.length, .d nilT]), (903, .row 41 2 (x.2.1.map (ruleD false))), (904, .row 65 1 (x.2.2.map (fragsD false)))])
            (fun x => l.length - x.1) (0, R, F) ⟨Nat.zero_le _, m2, m3, m4⟩ ?_
          clear m1 m2 m3 m4
          rintro ⟨i, R, F⟩ ⟨m1, m2, m3, m4⟩
          dsimp only at m1 m2 m3 m4 ⊢
          by_cases hil : i < l.length
          · obtain ⟨hwl, hws, hwn⟩ := hzo _ (List.getElem_mem hil)
            rw [List.drop_eq_getElem_cons hil, List.map_cons, List.append_cons] at m2 m3
            have hR : R.length ≤ 160 := by rw [m2] at h160; simp at h160; omega
            have hcl := clone_sim (t := false) (xs := l[i].right) (by omega)
            have how := ownP_sim (t := false) (l := l[i].l) hws hwn
            have e1 : R.map (ruleD false) ++ [D.agg [D.raw (.int .i64 (v : Int)), ints false l[i].right]] = (R ++ [(⟨(v : Int), l[i].right⟩ : Rule)]).map (ruleD false) := by simp [ruleD, iD]
            have e2 : F.map (fragsD false) ++ [fragsD false l[i].l] = (F ++ [l[i].l]).map (fragsD false) := by simp
            repeat (first | refine wk ?_ | refine s_field (hr := ?_))
            --@
            refine s_callf [(5, 920)] (hA := hcl) (hr := ?_)
            repeat (first | refine wk ?_ | refine s_field (hr := ?_))
            --@
            refine s_call [] (hA := how) (hr := ?_)
            repeat (first | refine wk ?_ | refine s_field (hr := ?_))
            --@
            rw [e1, e2, List.length_map, List.length_map]
            exact t_next (i + 1, R ++ [(⟨(v : Int), l[i].right⟩ : Rule)], F ++ [l[i].l]) (a := ⟨by dsimp only; omega, m2, m3, by simp; omega⟩)
          · obtain rfl : i = l.length := by omega
            rw [List.drop_length, List.map_nil, List.append_nil] at m2 m3
            repeat (first | refine wk ?_ | refine s_field (hr := ?_))
            exact t_next (v + 1, R, F) (a := ⟨by dsimp only; omega, m2, m3, m4⟩)
        · obtain rfl : v = z.length := by omega
          rw [List.drop_length, rulesF, List.append_nil] at m2
          rw [List.drop_length, fragsF, List.append_nil] at m3
          rw [m2, m3]
          refine aw_froz 903 rfl ?_
          refine aw_froz 904 rfl ?_
          repeat (first | refine wk ?_ | refine s_field (hr := ?_))
          --@
          exact fin2
end Go.Proofs.Yticnpbopelgmiaa
