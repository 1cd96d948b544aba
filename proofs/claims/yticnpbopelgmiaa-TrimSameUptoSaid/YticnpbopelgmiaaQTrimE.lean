/-
  Sim: trimBegun, TrimMakes, TrimTrims return true. Trim, plain: the trees are the same.
-/
import Derived.Test.YticnpbopelgmiaaTrC
import Derived.Test.YticnpbopelgmiaaBkP
import Derived.Test.YticnpbopelgmiaaTrP
set_option linter.unusedVariables false
set_option linter.unusedSimpArgs false
set_option linter.unusedSectionVars false
namespace Go.Proofs.Yticnpbopelgmiaa
open Go.RowKit
set_option maxRecDepth 100000
-- SimX
theorem tFrags_small (g : Gram) : ∀ (rs : List Rule) (i : Nat), (∀ r ∈ rs, r.right.length ≤ 10) → ∀ l ∈ tFrags g rs i, fszs l ≤ 11
  | [], _, _, l, h => by simp [tFrags] at h
  | r :: rs, i, hr, l, h => by
    rw [tFrags] at h
    have hk := kids_le r.right
    have h10 := hr r (by simp)
    split at h
    · rcases List.mem_cons.1 h with rfl | h
      · rw [fszs_node]; omega
      · exact tFrags_small g rs (i + 1) (fun r h => hr r (by simp [h])) l h
    · exact tFrags_small g rs (i + 1) (fun r h => hr r (by simp [h])) l h
theorem trimS_fit (g : Gram) : (trimS g).1.fit := by
  by_cases h : (gramFault g).code = 0
  · rw [trimS, if_pos h]
    have hg := gram_ok h
    have hk := trimOut_ok hg
    have hl : (tFrags g g.rules 0).length ≤ 160 := by rw [tLen]; exact hk.rules
    exact ⟨hk.fit, (by show (tFrags g g.rules 0).length ≤ _; omega), fun l hm => Nat.le_trans (tFrags_small g g.rules 0 hg.right l hm) (by decide), by simp [trimOut, cnts]⟩
  · rw [trimS, if_neg h]; exact zeroStep_fit
def tbG : Gram := ⟨3, 0, 2, [⟨2, [0]⟩, ⟨0, []⟩, ⟨1, []⟩]⟩
theorem tbG_fit : tbG.fit := ⟨by decide, fun r hr => by simp [tbG] at hr; rcases hr with rfl | rfl | rfl <;> decide⟩
theorem tb_eq : trimS tbG = (⟨⟨2, 0, 1, [⟨1, [0]⟩, ⟨0, []⟩]⟩, [[.mk 1 0 [.mk 2 0 []]], [.mk 1 1 []]], []⟩, ⟨0, 0⟩) := by kernel_rfl
theorem tb_make : ACalls Try.prog 28 [.d (.agg [iD 3, iD 0, iD 2, .sl false 2 [.agg [iD 2, ints false [0]], .agg [iD 0, nilT], .agg [iD 1, nilT]]])] [] (.tup [.d (stepD false (trimS tbG).1), .d (faultD (trimS tbG).2)]) [] :=
  (trimMake_sim tbG_fit).le ⟨.agg (.cons (.refl _) (.cons (.refl _) (.cons (.refl _) (.cons (.sl (.cons (.refl _) (.cons (.agg (.cons (.refl _) (.cons (.nil _ _) .nil))) (.cons (.agg (.cons (.refl _) (.cons (.nil _ _) .nil))) .nil)))) .nil)))), trivial⟩
theorem trimBegun_sim : ACalls Try.prog 26 [] [] (B true) [] := by
  refine ACalls.intro (n := 44) Try.func26 rfl rfl (by simp) (by rfl) ?_
  simp only [argFr]
  have h := tb_make
  rw [tb_eq] at h
  repeat (first | refine wk ?_ | refine s_field (hr := ?_))
  refine s_callf [] (hA := h) (hr := ?_)
  repeat (first | refine wk ?_ | refine s_field (hr := ?_))
  exact fin
end Go.Proofs.Yticnpbopelgmiaa
namespace Go.Proofs.Yticnpbopelgmiaa
open Go.RowKit

theorem fits_good {g : Gram} (hg : g.ok) : ∀ (x : Tree) (v : Int), fits g x v = true → has (goodB g) v = true := by
  refine Tree.ind fun x ih v hf => ?_
  obtain ⟨r, hr, e1, e2, e3, e4, _⟩ := fits_parts hf
  have := leftsOf_holds (t := true) hg g.rules[r] (List.getElem_mem hr) (by
    simp only [asks, cond_true, inAll, List.all_eq_true]
    intro u hu
    obtain ⟨q, hq, rfl⟩ := List.mem_iff_getElem.1 hu
    exact ih _ (List.getElem_mem (n := q) (by omega)) _ (fitss_at e4 (by omega) hq))
  rw [e2] at this; exact this
theorem rk_inj {K : List Bool} {v v' : Int} (h : has K v = true) (h' : has K v' = true) (e : rk K v = rk K v') : v = v' := by
  obtain ⟨r, hr⟩ := listB_at h
  obtain ⟨r', hr'⟩ := listB_at h'
  have h1 : (listB K)[(rk K v).toNat]? = some v := by
    rw [hr, rk, Int.toNat_natCast, List.getElem?_append_right (Nat.le_refl _), Nat.sub_self]; rfl
  have h2 : (listB K)[(rk K v').toNat]? = some v' := by
    rw [hr', rk, Int.toNat_natCast, List.getElem?_append_right (Nat.le_refl _), Nat.sub_self]; rfl
  rw [e, h2] at h1
  exact (Option.some.inj h1).symm
theorem trim_kmap (K : List Bool) : ∀ xs : List Int, kids (xs.map (trimS1 K)) = (kids xs).map (rk K)
  | [] => rfl
  | x :: xs => by
    rw [List.map_cons]
    by_cases h : x < 0
    · rw [kidsN h, kidsN (by rw [trimS1, if_neg (by omega)]; exact h), trim_kmap K xs]
    · have h2 : trimS1 K x = rk K x := by rw [trimS1, if_pos (by omega)]
      rw [h2, kidsP h, kidsP (by unfold rk; omega), trim_kmap K xs, List.map_cons]
theorem trim_wordL (g : Gram) (K : List Bool) : ∀ (ss : List Int) (xs : List Tree), wordL g (ss.map (trimS1 K)) xs = wordL g ss xs
  | [], xs => rfl
  | s :: ss, xs => by
    rw [List.map_cons]
    by_cases h : s < 0
    · have h2 : trimS1 K s = s := by rw [trimS1, if_neg (by omega)]
      rw [h2, wordL_neg h, wordL_neg h, trim_wordL g K ss xs]
    · have h2 : trimS1 K s = rk K s := by rw [trimS1, if_pos (by omega)]
      have h3 : ¬ rk K s < 0 := by unfold rk; omega
      rw [h2]
      cases xs with
      | nil => rw [wordL_out h3, wordL_out h, trim_wordL g K ss []]
      | cons x xs => rw [wordL_pos h3, wordL_pos h, trim_wordL g K ss xs]
abbrev rulG (g : Gram) (r : Nat) : Rule := g.rules.getD r ⟨0, []⟩
theorem rulG_is {g : Gram} {r : Nat} (hr : r < g.rules.length) : rulG g r = g.rules[r] := by
  unfold rulG; rw [List.getD_eq_getElem?_getD, List.getElem?_eq_getElem hr]; rfl
def stI (g : Gram) (i n : Nat) : List Nat := (List.range' i n).filter fun r => stay g (rulG g r)
theorem tI : ∀ (g : Gram) (n i : Nat), i + n = g.rules.length → tFrags g (g.rules.drop i) i = (stI g i n).map (fun (r : Nat) => nodeF r (kids (rulG g r).right).length) ∧ tRules g (g.rules.drop i) = (stI g i n).map (fun r => trimR (keepT g) (rulG g r))
  | g, 0, i, h => by
    rw [List.drop_of_length_le (by omega)]
    exact ⟨rfl, rfl⟩
  | g, n + 1, i, h => by
    obtain ⟨h1, h2⟩ := tI g n (i + 1) (by omega)
    have hi : i < g.rules.length := by omega
    rw [List.drop_eq_getElem_cons hi, tFrags]
    unfold tRules at h2 ⊢
    unfold stI at h1 h2 ⊢
    rw [List.range'_succ]
    by_cases hs : stay g g.rules[i] = true
    · rw [if_pos hs, List.filter_cons_of_pos hs, List.filter_cons_of_pos (by rw [rulG_is hi]; exact hs), List.map_cons, List.map_cons, List.map_cons, h1, h2, rulG_is hi]
      exact ⟨rfl, rfl⟩
    · rw [if_neg hs, List.filter_cons_of_neg hs, List.filter_cons_of_neg (by rw [rulG_is hi]; exact hs), h1, h2]
      exact ⟨rfl, rfl⟩
section
variable {g : Gram}
abbrev trI (g : Gram) : List Nat := stI g 0 g.rules.length
theorem trI_mem {r : Nat} : r ∈ trI g ↔ r < g.rules.length ∧ stay g (rulG g r) = true := by
  unfold trI stI
  rw [List.mem_filter, List.mem_range'_1]
  simp
theorem trI_nodup : (trI g).Nodup := List.Pairwise.filter _ List.nodup_range'
theorem trim_at {j : Nat} (hj : j < (trimOut g).g.rules.length) : ∃ (r : Nat) (hr : r < g.rules.length) (hI : j < (trI g).length), (trI g)[j] = r ∧ stay g g.rules[r] = true ∧ (trimOut g).g.rules[j] = trimR (keepT g) g.rules[r] ∧ (trimOut g).frags.getD j [] = nodeF r (kids g.rules[r].right).length := by
  obtain ⟨h1, h2⟩ := tI g g.rules.length 0 (by omega)
  rw [List.drop_zero] at h1 h2
  have e1 : (trimOut g).g.rules = (trI g).map fun r => trimR (keepT g) (rulG g r) := h2
  have e2 : (trimOut g).frags = (trI g).map fun (r : Nat) => nodeF r (kids (rulG g r).right).length := h1
  have hI : j < (trI g).length := by rw [e1, List.length_map] at hj; exact hj
  obtain ⟨hr, hs⟩ := trI_mem.1 (List.getElem_mem hI)
  rw [rulG_is hr] at hs
  refine ⟨_, hr, hI, rfl, hs, ?_, ?_⟩
  · simp only [e1, List.getElem_map, rulG_is hr]
  · rw [e2, List.getD_eq_getElem?_getD, List.getElem?_map, List.getElem?_eq_getElem hI]
    simp only [Option.map_some, Option.getD_some, rulG_is hr]
theorem trim_of {r : Nat} (hr : r < g.rules.length) (hs : stay g g.rules[r] = true) : ∃ (j : Nat) (_ : j < (trimOut g).g.rules.length) (hI : j < (trI g).length), (trI g)[j] = r := by
  obtain ⟨j, hj, e⟩ := List.mem_iff_getElem.1 (trI_mem.2 ⟨hr, by rw [rulG_is hr]; exact hs⟩)
  refine ⟨j, ?_, hj, e⟩
  obtain ⟨_, h2⟩ := tI g g.rules.length 0 (by omega)
  rw [List.drop_zero] at h2
  have e1 : (trimOut g).g.rules = (trI g).map fun r => trimR (keepT g) (rulG g r) := h2
  rw [e1, List.length_map]; exact hj
def trimE (g : Gram) (u : Int) (x : Tree) : Prop := has (goodB g) g.start = true ∧ ∃ v, has (keepT g) v = true ∧ rk (keepT g) v = u ∧ fits g x v = true
theorem trimE_at (hg : g.ok) {r : Nat} (hr : r < g.rules.length) (hs : stay g g.rules[r] = true) {xs : List Tree} (h : EL (trimE g) xs (kids (g.rules[r].right.map (trimS1 (keepT g))))) : xs.length = (kids g.rules[r].right).length ∧ fitss g xs (kids g.rules[r].right) = true := by
  obtain ⟨h1, h2⟩ := h
  rw [trim_kmap, List.length_map] at h1
  refine ⟨h1, fitss_all h1 fun q q1 q2 => ?_⟩
  have h3 := h2 q q1 (by rw [trim_kmap, List.length_map]; exact q2)
  simp only [trim_kmap, List.getElem_map] at h3
  obtain ⟨_, v, k1, k2, k3⟩ := h3
  have := rk_inj k1 (keep_goes hg (List.getElem_mem hr) hs _ (List.getElem_mem q2)) k2
  rw [← this]; exact k3
theorem trim_leads (hg : g.ok) : LeadsT g (trimOut g).g (trimOut g).frags (trimE g) where
  sound j hj xs h := by
    obtain ⟨r, hr, hI, e1, e2, e3, e4⟩ := trim_at hj
    rw [e3] at h ⊢
    rw [e4]
    obtain ⟨k1, k2⟩ := trimE_at hg hr e2 h
    obtain ⟨k3, k4⟩ := fits_mk hr rfl k1 k2
    have e2' := e2
    simp only [stay, Bool.and_eq_true] at e2'
    refine ⟨_, muL_node1 _ k1, ⟨e2'.1, g.rules[r].left, e2'.2.2, rfl, k3⟩, ?_⟩
    rw [k4]
    exact (trim_wordL g _ _ _).symm
  inj j j' hj hj' xs xs' hl h h' he := by
    obtain ⟨r, hr, hI, e1, e2, e3, e4⟩ := trim_at hj
    obtain ⟨r', hr', hI', e1', e2', e3', e4'⟩ := trim_at hj'
    rw [e3] at h
    rw [e3'] at h'
    rw [e4, e4', muL_node1 _ (trimE_at hg hr e2 h).1, muL_node1 _ (trimE_at hg hr' e2' h').1] at he
    obtain ⟨q1, q2⟩ := Tree.mk.inj (List.cons.inj he).1
    refine ⟨?_, q2⟩
    have : r = r' := by omega
    exact (List.getElem_inj trI_nodup).1 (by rw [e1, e1', this])
  surj u x h0 h1 hx := by
    obtain ⟨hs, v, k1, k2, k3⟩ := hx
    obtain ⟨r, hr, e1, e2, e3, e4, _⟩ := fits_parts k3
    have hgd := fits_good hg x v k3
    have hst : stay g g.rules[r] = true := by
      simp only [stay, rOk, Bool.and_eq_true, inAll, List.all_eq_true]
      refine ⟨hs, ⟨by rw [e2]; exact hgd, fun y hy => ?_⟩, by rw [e2]; exact k1⟩
      obtain ⟨q, hq, rfl⟩ := List.mem_iff_getElem.1 hy
      exact fits_good hg _ _ (fitss_at e4 (by omega : q < x.kids.length) hq)
    obtain ⟨j, hj, hI, ej⟩ := trim_of hr hst
    obtain ⟨r', hr', hI', f1, f2, f3, f4⟩ := trim_at hj
    obtain rfl : r = r' := by rw [← ej, f1]
    refine ⟨j, hj, x.kids, ?_, ?_, ?_, fun y hy => ?_⟩
    · rw [f3]
      show rk (keepT g) g.rules[r].left = u
      rw [e2, k2]
    · rw [f3]
      show EL _ _ (kids (g.rules[r].right.map (trimS1 (keepT g))))
      rw [trim_kmap]
      refine ⟨by rw [List.length_map, e3], fun i h1 h2 => ?_⟩
      simp only [List.getElem_map]
      exact ⟨hs, _, keep_goes hg (List.getElem_mem hr) hst _ (List.getElem_mem (by omega)), rfl, fitss_at e4 h1 (by omega)⟩
    · rw [f4, muL_node1 _ e3.symm, ← e1, ← Tree.eta]
    · have := cnts_mem hy; rw [cnt_eq x]; omega
theorem trim_starts (hg : g.ok) (w : List Int) : Starts g (trimOut g).g (oneD (trimE g)) (oneW g) w :=
  starts_one (fun x hx => by
    obtain ⟨_, v, k1, k2, k3⟩ := hx
    have := rk_inj k1 (keep_start hg) k2
    rw [← this]; exact k3) (fun x hx _ => ⟨fits_good hg x _ hx, g.start, keep_start hg, rfl, hx⟩)

/-! ### It is not cyclic -/
theorem trim_null (hg : g.ok) : ∀ y, has (nulB (trimOut g).g) y = true → ∀ z, has (keepT g) z = true → rk (keepT g) z = y → has (nulB g) z = true := by
  refine null_ind (trimOut_ok hg) _ fun q hq hin z hz e => ?_
  obtain ⟨j, hj, rfl⟩ := List.mem_iff_getElem.1 hq
  obtain ⟨r, hr, hI, e1, e2, e3, e4⟩ := trim_at hj
  rw [e3] at hin e
  have e2' := e2
  simp only [stay, Bool.and_eq_true] at e2'
  have := rk_inj hz e2'.2.2 e
  subst this
  refine null_rule hg (List.getElem_mem hr) fun s hs => ?_
  obtain ⟨h0, h1⟩ := hin (trimS1 (keepT g) s) (List.mem_map.2 ⟨s, hs, rfl⟩)
  by_cases hn : 0 ≤ s
  · exact h1 s (keep_goes hg (List.getElem_mem hr) e2 s (by simp [kids, hs, hn])) (by rw [trimS1, if_pos hn])
  · rw [trimS1, if_neg hn] at h0; omega
theorem trim_nulls (hg : g.ok) {r : Nat} (hr : r < g.rules.length) (hs : stay g g.rules[r] = true) {l : List Int} (hl : ∀ s ∈ l, s ∈ g.rules[r].right) (h : inAll (l.map (trimS1 (keepT g))) (nulB (trimOut g).g) = true) : inAll l (nulB g) = true := by
  simp only [inAll, List.all_eq_true, List.mem_map] at h ⊢
  intro s hsl
  have h1 := h _ ⟨s, hsl, rfl⟩
  have h0 := (has_lt h1).1
  by_cases hn : 0 ≤ s
  · exact trim_null hg _ h1 s (keep_goes hg (List.getElem_mem hr) hs s (by simp [kids, hl s hsl, hn])) (by rw [trimS1, if_pos hn])
  · rw [trimS1, if_neg hn] at h0; omega
theorem trim_cyc (hg : g.ok) (hc : cycL g = []) : cycL (trimOut g).g = [] := by
  classical
  have hv := trim_vars hg
  have hex : ∀ u, 0 ≤ u → u < (trimOut g).g.vars → ∃ v, has (keepT g) v = true ∧ rk (keepT g) v = u := fun u h0 h1 => rk_surj g.vars.toNat u h0 (by omega)
  let φ : Int → Int := fun u => if h : ∃ v, has (keepT g) v = true ∧ rk (keepT g) v = u then h.choose else 0
  have hφ : ∀ v, has (keepT g) v = true → φ (rk (keepT g) v) = v := fun v hk => by
    have h : ∃ v', has (keepT g) v' = true ∧ rk (keepT g) v' = rk (keepT g) v := ⟨v, hk, rfl⟩
    have e : φ (rk (keepT g) v) = h.choose := dif_pos h
    rw [e]
    exact rk_inj h.choose_spec.1 hk h.choose_spec.2
  refine acyc_map hg (trimOut_ok hg) hc φ (fun u h0 h1 => ?_) (fun u u' h0 h1 hu => ?_)
  · obtain ⟨v, k1, rfl⟩ := hex u h0 h1
    rw [hφ v k1]
    have := has_lt k1
    rw [keep_len] at this
    omega
  · obtain ⟨q, hq, e1, pre, post, e2, u0, e3, e4⟩ := stepA_iff.1 hu
    obtain ⟨j, hj, rfl⟩ := List.mem_iff_getElem.1 hq
    obtain ⟨r, hr, hI, _, f2, f3, f4⟩ := trim_at hj
    rw [f3] at e1 e2
    have f2' := f2
    simp only [stay, Bool.and_eq_true] at f2'
    have e1 : rk (keepT g) g.rules[r].left = u := e1
    have e2 : g.rules[r].right.map (trimS1 (keepT g)) = pre ++ u' :: post := e2
    obtain ⟨pre0, l, a1, rfl, a2⟩ := List.map_eq_append_iff.1 e2
    obtain ⟨s, post0, rfl, a3, rfl⟩ := List.map_eq_cons_iff.1 a2
    have hs0 : 0 ≤ s := Classical.byContradiction fun hn => by rw [trimS1, if_neg hn] at a3; omega
    rw [trimS1, if_pos hs0] at a3
    have hks := keep_goes hg (List.getElem_mem hr) f2 s (by rw [a1]; simp [kids, hs0])
    rw [← e1, hφ _ f2'.2.2, ← a3, hφ _ hks]
    exact stepA_iff.2 ⟨g.rules[r], List.getElem_mem hr, rfl, pre0, post0, a1, hs0, trim_nulls hg hr f2 (fun s hs => by rw [a1]; simp [hs]) e3, trim_nulls hg hr f2 (fun s hs => by rw [a1]; simp [hs]) e4⟩
theorem trim_pl : ∀ l ∈ (trimOut g).frags, plL l = true := fun l hl => by
  obtain ⟨h1, _⟩ := tI g g.rules.length 0 (by omega)
  rw [List.drop_zero] at h1
  have e2 : (trimOut g).frags = (trI g).map fun (r : Nat) => nodeF r (kids (rulG g r).right).length := h1
  rw [e2] at hl
  obtain ⟨r, _, rfl⟩ := List.mem_map.1 hl
  exact plL_node _ _
theorem trim_same (hg : g.ok) (w : List Int) : SameOk g (trimOut g) w false :=
  same_ok (by rw [trim_step hg]) rfl (trim_cyc hg) (trim_leads hg).leads (trim_starts hg w) (okT_same (by rw [trim_step hg]) trim_pl (trim_leads hg).leads (trim_starts hg w))
end
end Go.Proofs.Yticnpbopelgmiaa
