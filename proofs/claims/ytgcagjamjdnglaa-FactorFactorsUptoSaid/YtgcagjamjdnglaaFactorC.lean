/-
  Sim: the factorer's step.
-/
import Derived.Test.YtgcagjamjdnglaaFactorB
import Derived.Test.YtgcagjamjdnglaaSlc
set_option linter.unusedVariables false
set_option linter.unusedSimpArgs false
set_option linter.unusedSectionVars false
namespace Go.Proofs.Ytgcagjamjdnglaa
open Go.RowKit
set_option maxRecDepth 100000
-- SimX

abbrev facBox (g : Gram) (n : Nat) : Ob := .box 97 [.d (iD g.vars), .d (iD g.terms), .d (iD g.start), .d (rulesD false g.rules), .own 1001 n]
abbrev facH (g : Gram) (all : List (List Work)) : Hp := [(1000, facBox g all.length), (1001, .row 98 1 (all.map (worksD false)))]
theorem samesW_skip {at_ : List Int} : ∀ {l : List Work} {i k : Nat} (hk : k < l.length), (∀ j, j < k → inL at_ (i + j) = false) → inL at_ (i + k) = true → ∃ r, samesW at_ l i = l[k] :: r
  | x :: l, i, 0, _, _, h => ⟨samesW at_ l (i + 1), by rw [samesW, if_pos (by simpa using h)]; rfl⟩
  | x :: l, i, k + 1, hk, h0, h => by
    rw [samesW, if_neg (by have := h0 0 (by omega); simpa using this)]
    obtain ⟨r, hr⟩ := samesW_skip (l := l) (i := i + 1) (k := k) (by simpa using hk) (fun j hj => by have := h0 (j + 1) (by omega); rwa [show i + 1 + j = i + (j + 1) by omega]) (by rwa [show i + 1 + k = i + (k + 1) by omega])
    exact ⟨r, by simpa using hr⟩
theorem group_skip {l : List Work} {k : Nat} {g : Gram} {gap : Bool} {n : Nat} (G : GrpK g gap l (groupW l 0) k n) (hne : groupW l 0 ≠ []) : ∃ r, samesW (groupW l 0) l 0 = (l[k]'G.hk) :: r := by
  obtain ⟨k', h1, h2, h3, h4⟩ := groupW_spec hne
  have hkk : k = k' := by
    have := G.at0
    rw [h2] at this
    simp at this; omega
  subst hkk
  refine samesW_skip G.hk (fun j hj => ?_) (by rw [Nat.zero_add, G.inn k G.hk]; exact G.self)
  rw [Nat.zero_add]
  cases hc : inL (groupW l 0) j with
  | false => rfl
  | true =>
    exfalso
    rw [inL, h2, List.any_eq_true] at hc
    obtain ⟨y, hy, e⟩ := hc
    have e := of_decide_eq_true e
    rcases List.mem_cons.1 hy with rfl | hy
    · omega
    · obtain ⟨j2, d1, d2, _⟩ := mates_mem hy
      omega
theorem groupW_le : ∀ (l : List Work) (i : Nat), (groupW l i).length ≤ l.length
  | [], i => by simp [groupW]
  | x :: l, i => by
    have h1 := groupW_le l (i + 1)
    have h2 := mates_le x.right l (i + 1)
    rw [groupW]; split <;> simp only [List.length_cons] <;> omega
theorem samesW_le {at_ : List Int} : ∀ (l : List Work) (i : Nat), (samesW at_ l i).length ≤ l.length
  | [], i => by simp [samesW]
  | x :: r, i => by
    have ih := samesW_le (at_ := at_) r (i + 1)
    rw [samesW]; split <;> simp only [List.length_cons] <;> omega
set_option maxHeartbeats 8000000 in
theorem one_no {g : Gram} {all : List (List Work)} {v : Nat} (hv : v < all.length) (h : FInv g all v) (hW : ∀ l ∈ all, l.length ≤ 160) (hne : groupW (all.getD v []) 0 = []) :
    ACalls Try.prog 83 [.ptr 1000 0, I v] (facH g all) (B false) (facH g all) := by
  refine ACalls.intro (n := 137) Try.func83 rfl rfl (by simp) (by rfl) ?_
  simp only [argFr]
  have hl64 := h.len
  have hm := List.getElem_mem hv
  have hgr := group_sim (t := false) (l := all[v]) (by have := hW _ hm; omega) (fun w hw => by have := (h.ok _ hm w hw).len; omega)
  have e : all.getD v [] = all[v] := by rw [List.getD_eq_getElem?_getD, List.getElem?_eq_getElem hv]; rfl
  rw [e] at hne
  rw [hne] at hgr
  repeat (first | refine wk ?_ | refine s_field (hr := ?_))
  refine s_callf [] (hA := hgr) (hr := ?_)
  repeat (first | refine wk ?_ | refine s_field (hr := ?_))
  exact fin
set_option maxHeartbeats 8000000 in
theorem one_yes {g : Gram} {all : List (List Work)} {v : Nat} (hg : g.ok) (hv : v < all.length) (h : FInv g all v) (hW : ∀ l ∈ all, l.length ≤ 160) (hne : groupW (all.getD v []) 0 ≠ []) :
    ACalls Try.prog 83 [.ptr 1000 0, I v] (facH g all) (B true) (facH g (oneW g.vars.toNat all v (groupW (all.getD v []) 0))) := by
  refine ACalls.intro (n := 137) Try.func83 rfl rfl (by simp) (by rfl) ?_
  simp only [argFr]
  have hl64 := h.len
  have hm := List.getElem_mem hv
  have hgr := group_sim (t := false) (l := all[v]) (by have := hW _ hm; omega) (fun w hw => by have := (h.ok _ hm w hw).len; omega)
  have e : all.getD v [] = all[v] := by rw [List.getD_eq_getElem?_getD, List.getElem?_eq_getElem hv]; rfl
  obtain ⟨k, G⟩ := h.grp hne
  have hone : oneW g.vars.toNat all v (groupW (all.getD v []) 0) = all.set v (leftsW (groupW (all.getD v []) 0) (headW g.vars.toNat all.length v (all.getD v []) (groupW (all.getD v []) 0)) (all.getD v []) 0) ++
    [(samesW (groupW (all.getD v []) 0) (all.getD v []) 0).map (restW (comW (all.getD v []) (groupW (all.getD v []) 0)) (kids ((firstR (all.getD v []) (groupW (all.getD v []) 0)).take (comW (all.getD v []) (groupW (all.getD v []) 0)))).length)] := rfl
  have hhd : headW g.vars.toNat all.length v (all.getD v []) (groupW (all.getD v []) 0) = ⟨(firstR (all.getD v []) (groupW (all.getD v []) 0)).take (comW (all.getD v []) (groupW (all.getD v []) 0)) ++ [(all.length : Int)], headF (kids ((firstR (all.getD v []) (groupW (all.getD v []) 0)).take (comW (all.getD v []) (groupW (all.getD v []) 0)))).length (decide (g.vars.toNat ≤ v))⟩ := rfl
  obtain ⟨sr, hsk⟩ := group_skip G hne
  have hlW := hW _ hm
  have hok := h.ok _ hm
  rw [hone, hhd]
  clear hone hhd
  rw [← e] at hlW hok hgr
  have hel : (all.map (worksD false))[v]? = some (worksD false (all.getD v [])) := by rw [List.getElem?_map, List.getElem?_eq_getElem hv, e]; rfl
  generalize all.getD v [] = l at *
  have hcs := common_sim (t := false) (l := samesW (groupW l 0) l 0) (by rw [hsk]; simp) (by have := samesW_le (at_ := groupW l 0) l 0; omega) (fun w hw => by
    obtain ⟨j, h1, rfl, _⟩ := samesW_mem hw
    have := (hok _ (List.getElem_mem h1)).len; omega)
  have hgl := groupW_le l 0
  generalize groupW l 0 = at_ at *
  have hfr := G.first
  have hcom : commonN ((samesW at_ l 0)[0]'(by rw [hsk]; simp)).right (samesW at_ l 0) = comW l at_ := by
    show _ = commonN (firstR l at_) (samesW at_ l 0)
    rw [hfr]; simp only [hsk, List.getElem_cons_zero]
  rw [hcom] at hcs
  generalize comW l at_ = n at *
  generalize firstR l at_ = fr at *
  have hkr := (hok _ (List.getElem_mem G.hk)).len
  have hnl := G.nl
  rw [← hfr] at hkr hnl
  have hat0 := G.at0
  have hatl : 0 < at_.length := by
    cases at_ with
    | nil => exact absurd rfl hne
    | cons _ _ => simp
  have hat0' : at_[0] = (k : Int) := by rw [← hat0, List.getD_eq_getElem?_getD, List.getElem?_eq_getElem hatl]; rfl
  have hkk := G.hk
  repeat (first | refine wk ?_ | refine s_field (hr := ?_))
  rw [← e]
  refine s_callf [] (hA := hgr) (hr := ?_)
  repeat (first | refine wk ?_ | refine s_field (hr := ?_))
  refine aw_nil 7 907 102 2 rfl rfl rfl ?_
  refine aw_nil 8 908 102 2 rfl rfl rfl ?_
  refine t_loop (X := Nat) (fun i => i ≤ l.length) (fun i => [(32, I i), (31, I l.length), (30, .d (worksD false l)), (5, .d (worksD false l)), (6, .d (ints false at_)), (7, .own 907 (samesW at_ (l.take i) 0).length), (8, .own 908 0), (0, .ptr 1000 0), (1, I v)])
    (fun i => [(907, .row 102 2 ((samesW at_ (l.take i) 0).map (workD false))), (908, .row 102 2 []), (1000, facBox g all.length), (1001, .row 98 1 (all.map (worksD false)))]) (fun i => l.length - i) 0 (Nat.zero_le _) ?_
  intro i hi
  by_cases hlt : i < l.length
  · have hs := samesW_snoc (at_ := at_) hlt
    have hct := contains_sim (t := false) (xs := at_) (v := (i : Int)) (by omega)
    rw [show at_.any (fun y => decide ((i : Int) = y)) = inL at_ i from rfl] at hct
    have hsl := samesW_le (at_ := at_) (l.take i) 0
    simp only [List.length_take] at hsl
    generalize samesW at_ (l.take i) 0 = S at *
    generalize inL at_ i = b at *
    repeat (first | refine wk ?_ | refine s_field (hr := ?_))
    refine s_callf [] (hA := hct) (hr := ?_)
    cases b with
    | true =>
      rw [if_pos rfl] at hs
      have e1 : S.map (workD false) ++ [D.agg [ints false l[i].right, fragsD false l[i].l]] = (samesW at_ (l.take (i + 1)) 0).map (workD false) := by rw [hs]; simp [workD]
      repeat (first | refine wk ?_ | refine s_field (hr := ?_))
      rw [e1]
      exact t_next (i + 1)
    | false =>
      rw [if_neg (by decide), List.append_nil] at hs
      repeat (first | refine wk ?_ | refine s_field (hr := ?_))
      rw [← hs]
      exact t_next (i + 1)
  · obtain rfl : i = l.length := by omega
    rw [List.take_length]
    have hSl := samesW_le (at_ := at_) l 0
    have hS0 : 0 < (samesW at_ l 0).length := by rw [hsk]; simp
    have hSr : ((samesW at_ l 0)[0]'hS0).right = fr := by rw [hfr]; simp only [hsk, List.getElem_cons_zero]
    have hfk := fkids_sim (t := false) (xs := fr.take n) (by simp; omega)
    generalize hSS : samesW at_ l 0 = S at *
    refine aw_froz 907 rfl ?_
    refine aw_re 7 (v := .d (worksD false S)) (Co.froz rfl (by simp)) rfl ?_
    repeat (first | refine wk ?_ | refine s_field (hr := ?_))
    refine s_callf [] (hA := hcs) (hr := ?_)
    repeat (first | refine wk ?_ | refine s_field (hr := ?_))
    rw [hSr]
    refine s_slice TY (hr := ?_)
    rw [List.drop_zero, ← List.map_take]
    refine s_callf [] (hA := hfk) (hr := ?_)
    repeat (first | refine wk ?_ | refine s_field (hr := ?_))
    generalize hkk2 : (kids (fr.take n)).length = kk at *
    obtain ⟨hd, hhd⟩ : ∃ hd : Work, hd = ⟨fr.take n ++ [(all.length : Int)], headF kk (decide (g.vars.toNat ≤ v))⟩ := ⟨_, rfl⟩
    rw [← hhd]
    have hkkl : kk ≤ 11 := by
      rw [← hkk2]
      have := kids_le (fr.take n)
      simp only [List.length_take] at this; omega
    refine t_loop (X := Nat) (fun i => i ≤ l.length) (fun i => [(56, I i), (55, I l.length), (54, .d (worksD false l)), (7, .d (worksD false S)), (6, .d (ints false at_)), (11, I n), (12, I kk), (8, .own 908 (leftsW at_ hd (l.take i) 0).length), (0, .ptr 1000 0), (1, I v)])
      (fun i => [(908, .row 102 2 ((leftsW at_ hd (l.take i) 0).map (workD false))), (1000, facBox g all.length), (1001, .row 98 1 (all.map (worksD false)))]) (fun i => l.length - i) 0 (Nat.zero_le _) ?_
    intro i hi
    by_cases hlt : i < l.length
    · have hs := leftsW_snoc (at_ := at_) (hd := hd) hlt
      rw [hat0] at hs
      have hct := contains_sim (t := false) (xs := at_) (v := (i : Int)) (by omega)
      rw [show at_.any (fun y => decide ((i : Int) = y)) = inL at_ i from rfl] at hct
      have hsl := leftsW_le (at_ := at_) (hd := hd) (l.take i) 0
      simp only [List.length_take] at hsl
      generalize leftsW at_ hd (l.take i) 0 = LS at *
      by_cases hik : i = k
      · subst hik
        rw [if_pos rfl] at hs
        have hri : l[i].right = fr := hfr.symm
        have hik2 : decide ((i : Int) = at_[0]) = true := decide_eq_true hat0'.symm
        have hvv : decide (g.vars ≤ (v : Int)) = decide (g.vars.toNat ≤ v) := decide_eq_decide.2 (by have := hg.vars1; omega)
        have hcl := clone_sim (t := false) (xs := fr.take n) (by simp; omega)
        have htl : (fr.take n).length = n := by simp; omega
        have hnl2 : n ≤ l[i].right.length := by rw [hri]; exact hnl
        repeat (first | refine wk ?_ | refine s_field (hr := ?_))
        rw [List.drop_zero, ← List.map_take]
        rw [hri]
        refine s_callf [(5, 920)] (hA := hcl) (hr := ?_)
        repeat (first | refine wk ?_ | refine s_field (hr := ?_))
        rw [hvv]
        have hhe := head_sim (n := kk) (gap := decide (g.vars.toNat ≤ v)) (by omega)
        refine s_call [(29, 921)] (hA := hhe) (hr := ?_)
        repeat (first | refine wk ?_ | refine s_field (hr := ?_))
        have e1 : LS.map (workD false) ++ [D.agg [D.sl false 1 ((fr.take n).map iD ++ [D.raw (.int .i64 (all.length : Int))]), fragsD false (headF kk (decide (g.vars.toNat ≤ v)))]] = (leftsW at_ hd (l.take (i + 1)) 0).map (workD false) := by rw [hs, hhd]; simp [workD, iD]
        rw [e1]
        exact t_next (i + 1)
      · have hik2 : decide ((i : Int) = at_[0]) = false := decide_eq_false (by rw [hat0']; omega)
        rw [if_neg (by omega)] at hs
        generalize inL at_ i = b at *
        repeat (first | refine wk ?_ | refine s_field (hr := ?_))
        refine s_callf [] (hA := hct) (hr := ?_)
        cases b with
        | true =>
          rw [if_pos rfl, List.append_nil] at hs
          repeat (first | refine wk ?_ | refine s_field (hr := ?_))
          rw [← hs]
          exact t_next (i + 1)
        | false =>
          rw [if_neg (by decide)] at hs
          have e1 : LS.map (workD false) ++ [D.agg [ints false l[i].right, fragsD false l[i].l]] = (leftsW at_ hd (l.take (i + 1)) 0).map (workD false) := by rw [hs]; simp [workD]
          repeat (first | refine wk ?_ | refine s_field (hr := ?_))
          rw [e1]
          exact t_next (i + 1)
    · obtain rfl : i = l.length := by omega
      rw [List.take_length]
      have hLl := leftsW_le (at_ := at_) (hd := hd) l 0
      generalize leftsW at_ hd l 0 = LL at *
      have hset : (all.map (worksD false)).set v (worksD false LL) = (all.set v LL).map (worksD false) := by rw [List.map_set]
      refine aw_froz 908 rfl ?_
      refine aw_re 8 (v := .d (worksD false LL)) (Co.froz rfl (by simp)) rfl ?_
      repeat (first | refine wk ?_ | refine s_field (hr := ?_))
      have hrest : ∀ x ∈ S, ∃ (r : Nat) (m : Nat), x.l = plainF r m (gapAt g v) ∧ m = (kids x.right).length ∧ n ≤ x.right.length ∧ x.right.length ≤ 11 := fun x hx => by
        rw [← hSS] at hx
        obtain ⟨j, j1, rfl, j3⟩ := samesW_mem hx
        rw [Nat.zero_add] at j3
        obtain ⟨⟨r, p1, p2, p3⟩, p4⟩ := G.plain j j1 j3
        refine ⟨r, _, p2, rfl, ?_, by omega⟩
        have e := congrArg List.length p4
        rw [← hfr] at e
        simp only [List.length_take] at e
        omega
      refine aw_nil 15 915 102 2 rfl rfl rfl ?_
      refine t_loop (X := Nat) (fun i => i ≤ S.length) (fun i => [(109, I i), (108, I S.length), (107, .d (worksD false S)), (15, .own 915 ((S.take i).map (restW n kk)).length), (11, I n), (12, I kk), (0, .ptr 1000 0)])
        (fun i => [(915, .row 102 2 (((S.take i).map (restW n kk)).map (workD false))), (1000, facBox g all.length), (1001, .row 98 1 ((all.map (worksD false)).set v (worksD false LL)))]) (fun i => S.length - i) 0 (Nat.zero_le _) ?_
      intro i hi
      have hTl : ((S.take i).map (restW n kk)).length = i := by simp; omega
      by_cases hlt : i < S.length
      · have hsn : (S.take (i + 1)).map (restW n kk) = (S.take i).map (restW n kk) ++ [restW n kk S[i]] := by rw [List.take_succ_eq_append_getElem hlt, List.map_append]; rfl
        obtain ⟨r, m, q1, q2, q3, q4⟩ := hrest _ (List.getElem_mem hlt)
        have hml := kids_le S[i].right
        have hcl := clone_sim (t := false) (xs := S[i].right.drop n) (by simp; omega)
        have hta : ACalls Try.prog 164 [.d (fragsD false (plainF r m (gapAt g v))), I kk] [] (.own 43 1) [(43, .row 114 3 ((tailF r (m - kk)).map (fragD false)))] := tail_sim (by omega) (by omega)
        have hrw : restW n kk S[i] = ⟨S[i].right.drop n, tailF r (m - kk)⟩ := by rw [restW, q1, q2]; rfl
        have e1 : ((S.take i).map (restW n kk)).map (workD false) ++ [D.agg [ints false (S[i].right.drop n), fragsD false (tailF r (m - kk))]] = ((S.take (i + 1)).map (restW n kk)).map (workD false) := by rw [hsn, hrw]; simp [workD]
        have hdl : (S[i].right.drop n).length = S[i].right.length - n := by simp
        generalize (S.take i).map (restW n kk) = RS at *
        repeat (first | refine wk ?_ | refine s_field (hr := ?_))
        rw [List.take_of_length_le (by simp), ← List.map_drop]
        refine s_callf [(5, 920)] (hA := hcl) (hr := ?_)
        repeat (first | refine wk ?_ | refine s_field (hr := ?_))
        rw [q1]
        refine s_callf [(43, 921)] (hA := hta) (hr := ?_)
        repeat (first | refine wk ?_ | refine s_field (hr := ?_))
        rw [e1]
        exact t_next (i + 1)
      · obtain rfl : i = S.length := by omega
        rw [List.take_length]
        rw [hset]
        have hal : (all.set v LL).length = all.length := by simp
        have e1 : (all.set v LL).map (worksD false) ++ [worksD false (S.map (restW n kk))] = (all.set v LL ++ [S.map (restW n kk)]).map (worksD false) := by simp
        have e2 : all.length + (0 + 1) = (all.set v LL ++ [S.map (restW n kk)]).length := by simp
        generalize S.map (restW n kk) = RS at *
        repeat (first | refine wk ?_ | refine s_field (hr := ?_))
        rw [e1, List.length_map]
        exact fin
end Go.Proofs.Ytgcagjamjdnglaa
