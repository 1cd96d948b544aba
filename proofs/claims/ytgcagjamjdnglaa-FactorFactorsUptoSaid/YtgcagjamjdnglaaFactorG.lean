/-
  Sim: the reference's FactorOf.
-/
import Derived.Test.YtgcagjamjdnglaaFactorF
set_option linter.unusedVariables false
set_option linter.unusedSimpArgs false
set_option linter.unusedSectionVars false
namespace Go.Proofs.Ytgcagjamjdnglaa
open Go.RowKit
set_option maxRecDepth 100000
-- SimX

theorem commonN_snoc (a : List Int) (x : Work) : ∀ (l : List Work), commonN a (l ++ [x]) = min (commonN a l) (alikeN a x.right)
  | [] => by simp only [List.nil_append, commonN]; exact Nat.min_comm _ _
  | y :: l => by simp only [List.cons_append, commonN, commonN_snoc a x l, Nat.min_assoc]
theorem mates_look {a : List Int} : ∀ (l pre : List Work), (mates a l pre.length).map (fun x => (pre ++ l).getD x.toNat default) = l.filter (fun w => alikeH a w.right)
  | [], pre => by simp [mates]
  | y :: l, pre => by
    have ih := mates_look (a := a) l (pre ++ [y])
    simp only [List.append_assoc, List.singleton_append, List.length_append, List.length_cons, List.length_nil, Nat.zero_add] at ih
    rw [mates]
    by_cases h : alikeH a y.right = true
    · rw [if_pos h, List.map_cons, ih, List.filter_cons_of_pos (by simpa using h)]
      congr 1
      simp
    · rw [if_neg h, ih, List.filter_cons_of_neg (by simpa using h)]
theorem samesW_filter {at_ : List Int} {a : List Int} : ∀ (l : List Work) (i : Nat), (∀ j (hj : j < l.length), inL at_ (i + j) = alikeH a l[j].right) → samesW at_ l i = l.filter (fun w => alikeH a w.right)
  | [], i, _ => rfl
  | x :: l, i, h => by
    have ih := samesW_filter (at_ := at_) (a := a) l (i + 1) (fun j hj => by
      have := h (j + 1) (by simp; omega)
      rw [show i + 1 + j = i + (j + 1) by omega]; simpa using this)
    have h0 := h 0 (by simp)
    rw [Nat.add_zero] at h0
    simp only [List.getElem_cons_zero] at h0
    rw [samesW, ih, h0]
    by_cases hx : alikeH a x.right = true
    · rw [if_pos hx, List.filter_cons_of_pos (by simpa using hx)]
    · rw [if_neg hx, List.filter_cons_of_neg (by simpa using hx)]
/-- The group's works are those at its places. -/
theorem group_look {l : List Work} {g : Gram} {gap : Bool} {k n : Nat} (G : GrpK g gap l (groupW l 0) k n) (hne : groupW l 0 ≠ []) : samesW (groupW l 0) l 0 = (groupW l 0).map (fun x => l.getD x.toNat default) := by
  obtain ⟨k', h1, h2, h3, h4⟩ := groupW_spec hne
  have hkk : k = k' := by
    have := G.at0
    rw [h2] at this
    simp at this; omega
  subst hkk
  have hk := G.hk
  rw [samesW_filter (a := l[k].right) l 0 (fun j hj => by rw [Nat.zero_add]; exact G.inn j hj)]
  have hpre : (l.take k).filter (fun w => alikeH l[k].right w.right) = [] := by
    rw [List.filter_eq_nil_iff]
    intro w hw
    obtain ⟨j, hj, rfl⟩ := List.getElem_of_mem hw
    simp only [List.length_take] at hj
    rw [List.getElem_take, alikeH_symm]
    have := mates_nil (h4 j (by omega)) (j := k - (j + 1)) (by simp; omega)
    have d5 : (l.drop (j + 1))[k - (j + 1)]'(by simp; omega) = l[k] := by rw [List.getElem_drop]; congr 1; omega
    rw [d5] at this
    rw [this]; simp
  have hsplit : l = l.take k ++ (l[k] :: l.drop (k + 1)) := by
    rw [← List.drop_eq_getElem_cons hk, List.take_append_drop]
  have hm := mates_look (a := l[k].right) (l.drop (k + 1)) (l.take (k + 1))
  rw [List.take_append_drop, List.length_take, Nat.min_eq_left (by omega)] at hm
  have hf : l.filter (fun w => alikeH l[k].right w.right) = (l.take k).filter (fun w => alikeH l[k].right w.right) ++ (l[k] :: l.drop (k + 1)).filter (fun w => alikeH l[k].right w.right) := by
    rw [← List.filter_append, ← hsplit]
  rw [hf, hpre, List.nil_append, List.filter_cons_of_pos (by simpa using G.self), ← hm, h2]
  simp only [Nat.zero_add, List.map_cons, Int.toNat_natCast]
  congr 1
  rw [List.getD_eq_getElem?_getD, List.getElem?_eq_getElem hk]; rfl
theorem groupW_mem {l : List Work} : ∀ x ∈ groupW l 0, ∃ j : Nat, x = (j : Int) ∧ j < l.length := by
  intro x hx
  have hne : groupW l 0 ≠ [] := fun e => by rw [e] at hx; cases hx
  obtain ⟨k, h1, h2, h3, h4⟩ := groupW_spec hne
  rw [h2] at hx
  rcases List.mem_cons.1 hx with rfl | hx
  · exact ⟨k, by simp, h1⟩
  · obtain ⟨j, d1, d2, d3, _⟩ := mates_mem hx
    simp only [List.length_drop] at d3
    exact ⟨j, d1, by omega⟩
theorem holeRef_sim {k : Int} : ACalls Try.prog 91 [I k] [] (.d (.agg [iD 2, iD k, nilT])) [] := by
  refine ACalls.intro (n := 5) Try.func91 rfl rfl (by simp) (by rfl) ?_
  simp only [argFr]
  repeat (first | refine wk ?_ | refine s_field (hr := ?_))
  exact fin
theorem head_n {L : List Frag} {r m : Nat} {gap : Bool} (h : 0 < L.length) (e : L = plainF r m gap) : (L[0]'h).n = r := by subst e; rfl
abbrev foF : Fr := [(1, .ptr 1 0), (2, .ptr 2 0), (3, .ptr 3 0)]
abbrev foH (t : Bool) (g : Gram) (all : List (List Work)) : Hp := [(1, gramBox t g), (2, stepBox false zeroStep), (3, .box 33 [.d (iD 0), .d (iD 0)]), (950, .row 108 1 (all.map (worksD false)))]
set_option maxHeartbeats 16000000 in
theorem factorOf_sim {t : Bool} {g : Gram} (hf : g.fit) {r : Except Nat (List (List Work))} (hr : (gramFault g).code = 0 → Fac g.vars.toNat (startW g) 0 r) :
    ACalls Try.prog 22 [.d (gramD t g)] [] (.tup [.d (stepD false (factorS g r).1), .d (faultD (factorS g r).2)]) [] := by
  refine ACalls.intro (n := 212) Try.func22 rfl rfl (by simp) (by rfl) ?_
  simp only [argFr]
  have hr1 := hf.rules
  have hr2 := hf.right
  repeat (first | refine wk ?_ | refine s_field (hr := ?_))
  refine s_call [] (hA := gramFault_sim) (hr := ?_)
  by_cases hc : (gramFault g).code = 0
  rotate_left
  · rw [show factorS g r = (zeroStep, gramFault g) by rw [factorS, if_neg hc]]
    repeat (first | refine wk ?_ | refine s_field (hr := ?_))
    exact fin2
  have hr := hr hc
  have hg := gram_ok hc
  rw [show factorS g r = factorEnd g r by rw [factorS, if_pos hc]]
  have hv := hg.vars
  have hv1 := hg.vars1
  have hr160 := hg.rules
  have hI := start_inv hg
  have hW := start_wide hg
  obtain ⟨N, hN⟩ : ∃ N : Nat, g.vars = (N : Int) := ⟨g.vars.toNat, by omega⟩
  have hNt : g.vars.toNat = N := by omega
  rw [hNt] at hr
  have hwo := worksOf_sim (t := t) hg
  generalize startW g = SW at *
  repeat (first | refine wk ?_ | refine s_field (hr := ?_))
  refine s_callf [(903, 950)] (hA := hwo) (hr := ?_)
  repeat (first | refine wk ?_ | refine s_field (hr := ?_))
  refine t_loop (X := Nat × List (List Work)) (fun x => Fac N x.2 x.1 r ∧ FInv g x.2 x.1 ∧ Wide x.2 ∧ x.1 ≤ x.2.length) (fun x => (6, I x.1) :: (5, .own 950 x.2.length) :: foF) (fun x => foH t g x.2) (fun x => 65 - x.1) (0, SW) ⟨hr, hI, hW, Nat.zero_le _⟩ ?_
  rintro ⟨v, all⟩ ⟨k1, k2, k3, k4⟩
  dsimp only at k1 k2 k3 k4 ⊢
  have kl := k2.len
  by_cases hva : v < all.length
  rotate_left
  · have hre := k1.done_inv hva
    obtain rfl : v = all.length := by omega
    rw [hre]
    have hso := stepOf_sim (t := t) (g := g) (z := all) kl k3 k2.ok
    generalize factorEnd g (.ok all) = fe at *
    repeat (first | refine wk ?_ | refine s_field (hr := ?_))
    refine s_callf [] (hA := hso) (hr := ?_)
    repeat (first | refine wk ?_ | refine s_field (hr := ?_))
    exact fin2
  have hgd : ∀ (al : List (List Work)) (h : v < al.length), al.getD v [] = al[v] := fun al h => by rw [List.getD_eq_getElem?_getD, List.getElem?_eq_getElem h]; rfl
  have hgs := fun (al : List (List Work)) (h : v < al.length) (q3 : Wide al) (q2 : FInv g al v) => grouped_sim (t := false) (l := al[v]) (by have := q3 _ (List.getElem_mem h); omega) (fun w hw => by have := (q2.ok _ (List.getElem_mem h) w hw).len; omega)
  have hgs1 := hgs all hva k3 k2
  rw [← hgd all hva] at hgs1
  repeat (first | refine wk ?_ | refine s_field (hr := ?_))
  rw [← hgd all hva]
  refine s_callf [] (hA := hgs1) (hr := ?_)
  repeat (first | refine wk ?_ | refine s_field (hr := ?_))
  refine t_loop (X := List (List Work)) (fun x => Fac N x v r ∧ FInv g x v ∧ Wide x ∧ v < x.length) (fun x => (7, .d (ints false (groupW (x.getD v []) 0))) :: (6, I v) :: (5, .own 950 x.length) :: foF) (fun x => foH t g x) (fun x => (x.getD v []).length) all ⟨k1, k2, k3, hva⟩ ?_
  clear k1 k2 k3 k4 kl hva hgs1
  rintro all ⟨k1, k2, k3, hva⟩
  have kl := k2.len
  by_cases hgr : groupW (all.getD v []) 0 = []
  · rw [hgr]
    repeat (first | refine wk ?_ | refine s_field (hr := ?_))
    exact t_next (v + 1, all) (a := ⟨k1.next_inv hva hgr, k2.next hgr, k3, by dsimp only; omega⟩) (b := by dsimp only; omega)
  have hlen := oneW_length N all v (groupW (all.getD v []) 0)
  have hwide := k3.one (V := N) (v := v) (at_ := groupW (all.getD v []) 0)
  obtain ⟨k, G⟩ := k2.grp hgr
  have hlk := group_look G hgr
  have hgl := groupW_le (all.getD v []) 0
  have hlw := k3.get v
  have hok : ∀ w ∈ all.getD v [], WOk g all.length w := fun w hw => k2.mem hw
  have he := hgd all hva
  have hmany := k1.many_inv hva hgr
  have hone1 := k1.one_inv hva hgr
  have hinv := k2.one hg hva hgr
  rw [hNt] at hinv
  obtain ⟨sr, hsk⟩ := group_skip G hgr
  have hfr := G.first
  have hcomd : comW (all.getD v []) (groupW (all.getD v []) 0) = commonN (firstR (all.getD v []) (groupW (all.getD v []) 0)) (samesW (groupW (all.getD v []) 0) (all.getD v []) 0) := rfl
  have hone : oneW N all v (groupW (all.getD v []) 0) = all.set v (leftsW (groupW (all.getD v []) 0) ⟨(firstR (all.getD v []) (groupW (all.getD v []) 0)).take (comW (all.getD v []) (groupW (all.getD v []) 0)) ++ [(all.length : Int)], headF (kids ((firstR (all.getD v []) (groupW (all.getD v []) 0)).take (comW (all.getD v []) (groupW (all.getD v []) 0)))).length (decide (N ≤ v))⟩ (all.getD v []) 0) ++
    [(samesW (groupW (all.getD v []) 0) (all.getD v []) 0).map (restW (comW (all.getD v []) (groupW (all.getD v []) 0)) (kids ((firstR (all.getD v []) (groupW (all.getD v []) 0)).take (comW (all.getD v []) (groupW (all.getD v []) 0)))).length)] := rfl
  generalize oneW N all v (groupW (all.getD v []) 0) = A at *
  have hatm := groupW_mem (l := all.getD v [])
  generalize all.getD v [] = l at *
  generalize groupW l 0 = at_ at *
  generalize comW l at_ = n at *
  generalize firstR l at_ = fr at *
  have hkr := (hok _ (List.getElem_mem G.hk)).len
  have hnl := G.nl
  rw [← hfr] at hkr hnl
  have hat0 := G.at0
  have hatl : 0 < at_.length := by
    cases at_ with
    | nil => exact absurd rfl hgr
    | cons _ _ => simp
  have hat0' : at_[0] = (k : Int) := by rw [← hat0, List.getD_eq_getElem?_getD, List.getElem?_eq_getElem hatl]; rfl
  have hkk := G.hk
  repeat (first | refine wk ?_ | refine s_field (hr := ?_))
  rw [← he]
  repeat (first | refine wk ?_ | refine s_field (hr := ?_))
  have hfr' : l[k].right = fr := hfr.symm
  rw [hfr']
  repeat (first | refine wk ?_ | refine s_field (hr := ?_))
  obtain ⟨C, hC⟩ : ∃ C : Nat → Nat, ∀ i, C i = commonN fr ((at_.take i).map (fun x => l.getD x.toNat default)) := ⟨_, fun _ => rfl⟩
  have hC1 : C 1 = fr.length := by
    rw [hC, show at_.take 1 = [at_[0]] by
      cases at_ with
      | nil => simp at hatl
      | cons x r => simp]
    simp only [List.map_cons, List.map_nil, commonN]
    rw [hat0', Int.toNat_natCast, List.getD_eq_getElem?_getD, List.getElem?_eq_getElem hkk]
    simp only [Option.getD_some]
    rw [hfr', alikeN_self]; exact Nat.min_self _
  have hCn : C at_.length = n := by rw [hC, List.take_length, ← hlk, ← hcomd]
  have hCle : ∀ i, C i ≤ fr.length := fun i => by rw [hC]; exact commonN_le _ _
  have hC1' : (fr.length : Int) = (C 1 : Int) := by rw [hC1]
  rw [hC1']
  refine t_loop (X := Nat) (fun i => 1 ≤ i ∧ i ≤ at_.length) (fun i => (11, I i) :: (10, I (C i)) :: (9, .d (ints false fr)) :: (8, .d (worksD false l)) :: (7, .d (ints false at_)) :: (6, I v) :: (5, .own 950 all.length) :: foF) (fun _ => foH t g all) (fun i => at_.length - i) 1 (by omega) ?_
  rintro i ⟨hi1, hi2⟩
  by_cases hil : i < at_.length
  · obtain ⟨m, hm, hml⟩ := hatm _ (List.getElem_mem hil)
    have hwm := (hok _ (List.getElem_mem hml)).len
    have hal := alike_sim (t := false) (u := false) (a := fr) (b := l[m].right) (by omega) (by omega)
    have hCs : C (i + 1) = min (C i) (alikeN fr l[m].right) := by
      rw [hC, hC, List.take_succ_eq_append_getElem hil, List.map_append, List.map_cons, List.map_nil, commonN_snoc, hm, Int.toNat_natCast, List.getD_eq_getElem?_getD, List.getElem?_eq_getElem hml]; rfl
    generalize alikeN fr l[m].right = z at *
    by_cases hz : z < C i
    · have e : C (i + 1) = z := by omega
      repeat (first | refine wk ?_ | refine s_field (hr := ?_))
      refine s_callf [] (hA := hal) (hr := ?_)
      repeat (first | refine wk ?_ | refine s_field (hr := ?_))
      exact t_next (i + 1)
    · have e : C (i + 1) = C i := by omega
      repeat (first | refine wk ?_ | refine s_field (hr := ?_))
      refine s_callf [] (hA := hal) (hr := ?_)
      repeat (first | refine wk ?_ | refine s_field (hr := ?_))
      exact t_next (i + 1)
  have hie : i = at_.length := by omega
  rw [hie, hCn]
  clear hCle hC1' hC1 hCn hC
  have hki := kidsOf_sim (t := false) (xs := fr.take n) (by simp; omega)
  repeat (first | refine wk ?_ | refine s_field (hr := ?_))
  rw [List.drop_zero, ← List.map_take]
  refine s_callf [(3, 951)] (hA := hki) (hr := ?_)
  repeat (first | refine wk ?_ | refine s_field (hr := ?_))
  generalize hkk2 : (kids (fr.take n)).length = kk at *
  obtain ⟨hd, hhd⟩ : ∃ hd : Work, hd = ⟨fr.take n ++ [(all.length : Int)], headF kk (decide (N ≤ v))⟩ := ⟨_, rfl⟩
  rw [← hhd] at hone
  have hkkl : kk ≤ 11 := by
    rw [← hkk2]
    have := kids_le (fr.take n)
    simp only [List.length_take] at this; omega
  refine aw_nil 14 914 110 2 rfl rfl rfl ?_
  refine aw_nil 15 915 110 2 rfl rfl rfl ?_
  refine t_loop (X := Nat) (fun i => i ≤ l.length) (fun i => (16, I i) :: (14, .own 914 ((samesW at_ (l.take i) 0).map (restW n kk)).length) :: (15, .own 915 (leftsW at_ hd (l.take i) 0).length) :: (13, I kk) :: (10, I n) :: (9, .d (ints false fr)) :: (8, .d (worksD false l)) :: (7, .d (ints false at_)) :: (6, I v) :: (5, .own 950 all.length) :: foF)
    (fun i => (914, .row 110 2 (((samesW at_ (l.take i) 0).map (restW n kk)).map (workD false))) :: (915, .row 110 2 ((leftsW at_ hd (l.take i) 0).map (workD false))) :: foH t g all) (fun i => l.length - i) 0 (Nat.zero_le _) ?_
  intro i hi
  by_cases hlt : i < l.length
  rotate_left
  · obtain rfl : i = l.length := by omega
    rw [List.take_length]
    have hLl := leftsW_le (at_ := at_) (hd := hd) l 0
    have hSl := samesW_le (at_ := at_) l 0
    have hRl : ((samesW at_ l 0).map (restW n kk)).length = (samesW at_ l 0).length := List.length_map _
    have hset : (all.map (worksD false)).set v (worksD false (leftsW at_ hd l 0)) = (all.set v (leftsW at_ hd l 0)).map (worksD false) := by rw [List.map_set]
    generalize leftsW at_ hd l 0 = LL at *
    generalize (samesW at_ l 0).map (restW n kk) = RR at *
    refine aw_froz 915 rfl ?_
    refine aw_re 15 (v := .d (worksD false LL)) (Co.froz rfl (by simp)) rfl ?_
    have hal : (all.set v LL).length = all.length := by simp
    have e1 : (all.set v LL).map (worksD false) ++ [worksD false RR] = A.map (worksD false) := by rw [hone]; simp
    by_cases hm : 64 < A.length
    · rw [hmany hm, show factorEnd g (.error v) = (zeroStep, ⟨6, (v : Nat)⟩) from rfl]
      repeat (first | refine wk ?_ | refine s_field (hr := ?_))
      refine s_call [] (hA := f_sim) (hr := ?_)
      repeat (first | refine wk ?_ | refine s_field (hr := ?_))
      exact fin2
    · obtain ⟨i1, i2⟩ := hinv hm
      have hf2 := hone1 hm
      have hvA : v < A.length := by omega
      have hgs2 := hgs A hvA hwide i1
      repeat (first | refine wk ?_ | refine s_field (hr := ?_))
      rw [hset, e1, List.length_map]
      repeat (first | refine wk ?_ | refine s_field (hr := ?_))
      refine s_callf [] (hA := hgs2) (hr := ?_)
      repeat (first | refine wk ?_ | refine s_field (hr := ?_))
      rw [← hgd A hvA]
      exact t_next A (a := ⟨hf2, i1, hwide, hvA⟩) (b := i2)
  have hs := leftsW_snoc (at_ := at_) (hd := hd) hlt
  have hss := samesW_snoc (at_ := at_) hlt
  rw [hat0] at hs
  have hct := refIn_sim (t := false) (xs := at_) (v := (i : Int)) (by omega)
  rw [show at_.any (fun y => decide ((i : Int) = y)) = inL at_ i from rfl] at hct
  have hsl := leftsW_le (at_ := at_) (hd := hd) (l.take i) 0
  have hsl2 := samesW_le (at_ := at_) (l.take i) 0
  simp only [List.length_take] at hsl hsl2
  have hmapl : ((samesW at_ (l.take i) 0).map (restW n kk)).length = (samesW at_ (l.take i) 0).length := List.length_map _
  have hpl := G.plain i hlt
  generalize leftsW at_ hd (l.take i) 0 = LS at *
  generalize samesW at_ (l.take i) 0 = SS at *
  generalize hin : inL at_ i = b at *
  cases b with
  | false =>
    have hik : i ≠ k := fun e => by
      subst e
      have := G.inn i hlt
      rw [hin, G.self] at this; cases this
    rw [if_neg (by omega), if_neg (by decide)] at hs
    rw [if_neg (by decide), List.append_nil] at hss
    have e1 : LS.map (workD false) ++ [workD false l[i]] = (leftsW at_ hd (l.take (i + 1)) 0).map (workD false) := by rw [hs]; simp
    repeat (first | refine wk ?_ | refine s_field (hr := ?_))
    refine s_callf [] (hA := hct) (hr := ?_)
    repeat (first | refine wk ?_ | refine s_field (hr := ?_))
    rw [show ([D.agg [ints false l[i].right, fragsD false l[i].l]] : List D) = [workD false l[i]] from rfl, e1, ← hss]
    exact t_next (i + 1)
  | true =>
    obtain ⟨⟨r', p1, p2, p3⟩, p4⟩ := hpl rfl
    rw [if_pos rfl] at hss
    have hl0 : 0 < l[i].l.length := by rw [p2]; simp [plainF]
    have hln := head_n hl0 p2
    have hnl2 : n ≤ l[i].right.length := by
      have e := congrArg List.length p4
      rw [← hfr] at e
      simp only [List.length_take] at e
      omega
    have hK := kids_le l[i].right
    have hki2 := kidsOf_sim (t := false) (xs := l[i].right) (by omega)
    repeat (first | refine wk ?_ | refine s_field (hr := ?_))
    refine s_callf [] (hA := hct) (hr := ?_)
    repeat (first | refine wk ?_ | refine s_field (hr := ?_))
    rw [hln]
    obtain ⟨T, hT⟩ : ∃ T : Nat → List Frag, ∀ j, T j = Frag.mk 3 0 [] :: holes (j - kk) := ⟨_, fun _ => rfl⟩
    have hTl : ∀ j, (T j).length = 1 + (j - kk) := fun j => by rw [hT, List.length_cons]; simp [holes]; omega
    have e0 : (T kk).map (fragD false) = [] ++ [.agg [iD 3, iD 0, .sl false 3 []]] := by rw [hT, show kk - kk = 0 by omega]; simp [holes, fragD, fragDs]
    obtain ⟨K, hKd⟩ : ∃ K, K = (kids l[i].right).length := ⟨_, rfl⟩
    have hsp := kids_split l[i].right n
    rw [p4, hfr', hkk2, ← hKd] at hsp
    have hr' : restW n kk l[i] = ⟨l[i].right.drop n, [.mk 1 r' (T K)]⟩ := by
      rw [restW, p2, hT, ← hKd]; rfl
    refine t_loop (X := Nat) (fun m => kk ≤ m ∧ m ≤ K) (fun m => (18, I m) :: (17, .ptr 17 0) :: (16, I i) :: (14, .own 914 (SS.map (restW n kk)).length) :: (15, .own 915 LS.length) :: (13, I kk) :: (10, I n) :: (9, .d (ints false fr)) :: (8, .d (worksD false l)) :: (7, .d (ints false at_)) :: (6, I v) :: (5, .own 950 all.length) :: foF)
      (fun m => (17, .box 114 [.d (iD 1), .d (iD (r' : Nat)), .own 113 (T m).length]) :: (113, .row 114 3 ((T m).map (fragD false))) :: (914, .row 110 2 ((SS.map (restW n kk)).map (workD false))) :: (915, .row 110 2 (LS.map (workD false))) :: foH t g all) (fun m => K - m) kk ⟨Nat.le_refl _, by omega⟩ ?_
      (hh := ⟨box_eq rfl (by rw [hTl]; simp [iD]), row_le rfl (DLes.snoc (a := []) e0 (.agg (.cons (.refl _) (.cons (.refl _) (.cons (.nil _ _) .nil))))), .of rfl, .of rfl, .of rfl, .of rfl, .of rfl, .of rfl, trivial⟩)
    clear e0
    rintro m ⟨hm1, hm2⟩
    have hTm := hTl m
    have hTm' := hTl (m + 1)
    by_cases hmK : m < K
    · have e : (T (m + 1)).map (fragD false) = (T m).map (fragD false) ++ [.agg [iD 2, iD ((m : Int) - kk), .sl false 3 []]] := by
        rw [hT, hT, show m + 1 - kk = (m - kk) + 1 by omega, List.map_cons, holes_dsnoc, List.map_cons, List.cons_append, show ((m - kk : Nat) : Int) = (m : Int) - kk by omega]
      repeat (first | refine wk ?_ | refine s_field (hr := ?_))
      refine s_callf [(3, 954)] (hA := hki2) (hr := ?_)
      repeat (first | refine wk ?_ | refine s_field (hr := ?_))
      refine s_call [] (hA := holeRef_sim) (hr := ?_)
      repeat (first | refine wk ?_ | refine s_field (hr := ?_))
      exact t_next (m + 1)
    obtain rfl : m = K := by omega
    repeat (first | refine wk ?_ | refine s_field (hr := ?_))
    refine s_callf [(3, 954)] (hA := hki2) (hr := ?_)
    repeat (first | refine wk ?_ | refine s_field (hr := ?_))
    rw [List.take_of_length_le (by simp), ← List.map_drop]
    have how := ownInts_sim (t := false) (xs := l[i].right.drop n) (by simp; omega)
    have hdl : (l[i].right.drop n).length = l[i].right.length - n := by simp
    have e1 : (SS.map (restW n kk)).map (workD false) ++ [D.agg [ints false (l[i].right.drop n), D.sl false 3 [D.agg [iD 1, iD (r' : Nat), D.sl false 3 ((T m).map (fragD false))]]]] = ((samesW at_ (l.take (i + 1)) 0).map (restW n kk)).map (workD false) := by
      rw [hss, List.map_append, List.map_append, List.map_singleton, List.map_singleton, hr']
      simp [workD, fragD, fragDs_map, iD]
    have e2 : (samesW at_ (l.take (i + 1)) 0).length = SS.length + 1 := by rw [hss]; simp
    by_cases hik : i = k
    · have hik2 : decide ((i : Int) = at_[0]) = true := decide_eq_true (by rw [hat0', hik])
      rw [if_pos (by rw [hik])] at hs
      refine s_callf [(3, 955)] (hA := how) (hr := ?_)
      repeat (first | refine wk ?_ | refine s_field (hr := ?_))
      by_cases hvn : N ≤ v
      · rw [decide_eq_true hvn] at hhd
        repeat (first | refine wk ?_ | refine s_field (hr := ?_))
        rw [e1]
        have hq1 : ((samesW at_ (l.take (i + 1)) 0).map (restW n kk)).length = SS.length + 1 := by rw [List.length_map, e2]
        generalize hRS : (samesW at_ (l.take (i + 1)) 0).map (restW n kk) = RS at *
        obtain ⟨U, hU⟩ : ∃ U : Nat → List Frag, ∀ j, U j = gapL true ++ holes j := ⟨_, fun _ => rfl⟩
        have hUl : ∀ j, (U j).length = 1 + j := fun j => by rw [hU]; simp [gapL, holes]; omega
        have e0 : (U 0).map (fragD false) = [] ++ [.agg [iD 3, iD 0, .sl false 3 []]] := by rw [hU]; simp [gapL, holes, fragD, fragDs]
        refine t_loop (X := Nat) (fun j => j ≤ kk) (fun j => (20, I j) :: (19, .ptr 19 0) :: (16, I i) :: (14, .own 914 RS.length) :: (15, .own 915 LS.length) :: (13, I kk) :: (10, I n) :: (9, .d (ints false fr)) :: (8, .d (worksD false l)) :: (7, .d (ints false at_)) :: (6, I v) :: (5, .own 950 all.length) :: foF)
          (fun j => (19, .box 114 [.d (iD 4), .d (iD kk), .own 165 (U j).length]) :: (165, .row 114 3 ((U j).map (fragD false))) :: (914, .row 110 2 (RS.map (workD false))) :: (915, .row 110 2 (LS.map (workD false))) :: foH t g all) (fun j => kk - j) 0 (Nat.zero_le _) ?_
          (hh := ⟨box_eq rfl (by rw [hUl]; simp [iD]), row_le rfl (DLes.snoc (a := []) e0 (.agg (.cons (.refl _) (.cons (.refl _) (.cons (.nil _ _) .nil))))), .of rfl, .of rfl, .of rfl, .of rfl, .of rfl, .of rfl, trivial⟩)
        intro j hj
        have hUj := hUl j
        have hUj' := hUl (j + 1)
        by_cases hjk : j < kk
        · have e : (U (j + 1)).map (fragD false) = (U j).map (fragD false) ++ [.agg [iD 2, iD (j : Int), .sl false 3 []]] := by rw [hU, hU, gholes_snoc]
          repeat (first | refine wk ?_ | refine s_field (hr := ?_))
          refine s_call [] (hA := holeRef_sim) (hr := ?_)
          repeat (first | refine wk ?_ | refine s_field (hr := ?_))
          exact t_next (j + 1)
        have hjk2 : j = kk := by omega
        rw [hjk2]
        have how2 := ownInts_sim (t := false) (xs := fr.take n) (by simp; omega)
        have htl : (fr.take n).length = n := by simp; omega
        have e3 : LS.map (workD false) ++ [D.agg [D.sl false 1 ((fr.take n).map iD ++ [D.raw (.int .i64 (all.length : Int))]), D.sl false 3 [D.agg [iD 4, iD (kk : Nat), D.sl false 3 ((U kk).map (fragD false))]]]] = (leftsW at_ hd (l.take (i + 1)) 0).map (workD false) := by
          rw [hs, hhd, hU]; simp [workD, headF, fragD, fragDs_map, iD]
        repeat (first | refine wk ?_ | refine s_field (hr := ?_))
        rw [List.drop_zero, ← List.map_take]
        refine s_callf [(3, 956)] (hA := how2) (hr := ?_)
        repeat (first | refine wk ?_ | refine s_field (hr := ?_))
        rw [e3, ← hRS]
        exact t_next (i + 1)
      · rw [decide_eq_false hvn] at hhd
        repeat (first | refine wk ?_ | refine s_field (hr := ?_))
        refine aw_nilCell 19 2 940 114 3 rfl rfl rfl rfl ?_
        rw [e1]
        have hq1 : ((samesW at_ (l.take (i + 1)) 0).map (restW n kk)).length = SS.length + 1 := by rw [List.length_map, e2]
        generalize hRS : (samesW at_ (l.take (i + 1)) 0).map (restW n kk) = RS at *
        obtain ⟨U, hU⟩ : ∃ U : Nat → List Frag, ∀ j, U j = gapL false ++ holes j := ⟨_, fun _ => rfl⟩
        have hUl : ∀ j, (U j).length = j := fun j => by rw [hU]; simp [gapL, holes]
        have e0 : (U 0).map (fragD false) = [] := by rw [hU]; rfl
        refine t_loop (X := Nat) (fun j => j ≤ kk) (fun j => (20, I j) :: (19, .ptr 19 0) :: (16, I i) :: (14, .own 914 RS.length) :: (15, .own 915 LS.length) :: (13, I kk) :: (10, I n) :: (9, .d (ints false fr)) :: (8, .d (worksD false l)) :: (7, .d (ints false at_)) :: (6, I v) :: (5, .own 950 all.length) :: foF)
          (fun j => (19, .box 114 [.d (iD 4), .d (iD kk), .own 940 (U j).length]) :: (940, .row 114 3 ((U j).map (fragD false))) :: (914, .row 110 2 (RS.map (workD false))) :: (915, .row 110 2 (LS.map (workD false))) :: foH t g all) (fun j => kk - j) 0 (Nat.zero_le _) ?_
          (hh := ⟨box_eq rfl (by rw [hUl]; rfl), row_eq rfl e0.symm, .of rfl, .of rfl, .of rfl, .of rfl, .of rfl, .of rfl, trivial⟩)
        intro j hj
        have hUj := hUl j
        have hUj' := hUl (j + 1)
        by_cases hjk : j < kk
        · have e : (U (j + 1)).map (fragD false) = (U j).map (fragD false) ++ [.agg [iD 2, iD (j : Int), .sl false 3 []]] := by rw [hU, hU, gholes_snoc]
          repeat (first | refine wk ?_ | refine s_field (hr := ?_))
          refine s_call [] (hA := holeRef_sim) (hr := ?_)
          repeat (first | refine wk ?_ | refine s_field (hr := ?_))
          exact t_next (j + 1)
        have hjk2 : j = kk := by omega
        rw [hjk2]
        have how2 := ownInts_sim (t := false) (xs := fr.take n) (by simp; omega)
        have htl : (fr.take n).length = n := by simp; omega
        have e3 : LS.map (workD false) ++ [D.agg [D.sl false 1 ((fr.take n).map iD ++ [D.raw (.int .i64 (all.length : Int))]), D.sl false 3 [D.agg [iD 4, iD (kk : Nat), D.sl false 3 ((U kk).map (fragD false))]]]] = (leftsW at_ hd (l.take (i + 1)) 0).map (workD false) := by
          rw [hs, hhd, hU]; simp [workD, headF, fragD, fragDs_map, iD]
        repeat (first | refine wk ?_ | refine s_field (hr := ?_))
        rw [List.drop_zero, ← List.map_take]
        refine s_callf [(3, 956)] (hA := how2) (hr := ?_)
        repeat (first | refine wk ?_ | refine s_field (hr := ?_))
        rw [e3, ← hRS]
        exact t_next (i + 1)
    · have hik2 : decide ((i : Int) = at_[0]) = false := decide_eq_false (by rw [hat0']; omega)
      rw [if_neg (by omega), if_pos rfl, List.append_nil] at hs
      refine s_callf [(3, 955)] (hA := how) (hr := ?_)
      repeat (first | refine wk ?_ | refine s_field (hr := ?_))
      rw [e1, ← hs]
      exact t_next (i + 1)
end Go.Proofs.Ytgcagjamjdnglaa
