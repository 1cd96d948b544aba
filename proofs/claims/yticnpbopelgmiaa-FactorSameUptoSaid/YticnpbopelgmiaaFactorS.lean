/-
  Factor, plain: the trees are the same.
-/
import Derived.Test.YticnpbopelgmiaaFcS
import Derived.Test.YticnpbopelgmiaaQFactorD
set_option linter.unusedVariables false
set_option linter.unusedSimpArgs false
set_option linter.unusedSectionVars false
namespace Go.Proofs.Yticnpbopelgmiaa
open Go.RowKit

/-- The rule that it ends, or the nonterminal that goes on. -/
def tagW (w : Work) : Int := if (w.l.getD 0 default).op = 1 then -1 - (w.l.getD 0 default).n else w.right.getLastD 0
theorem tag_plain {w : Work} {r : Int} {k : Nat} {b : Bool} (h : w.l = plainF r k b) : tagW w = -1 - r := by
  unfold tagW; rw [h]; rfl
theorem tag_head {w : Work} {k : Nat} {b : Bool} {p : List Int} {N : Int} (h : w.l = headF k b) (h2 : w.right = p ++ [N]) : tagW w = N := by
  unfold tagW; rw [h, h2]
  show (if (4 : Int) = 1 then _ else _) = _
  rw [if_neg (by decide)]; simp
def WorkI (g : Gram) (n : Nat) (γ : Nat → List Int) (par loc : Nat → Nat) (v : Nat) (w : Work) : Prop :=
  (∃ (r : Nat) (hr : r < g.rules.length), w.l = plainF r (kids w.right).length (gapAt g v) ∧ loc r = v ∧ g.rules[r].right = γ v ++ w.right) ∨
  (∃ (N : Nat) (p : List Int), g.vars.toNat ≤ N ∧ N < n ∧ w.right = p ++ [(N : Int)] ∧ par N = v ∧ γ N = γ v ++ p ∧ (∀ s ∈ p, s < g.vars) ∧ w.l = headF (kids p).length (gapAt g v))
structure FacI (g : Gram) (all : List (List Work)) (γ : Nat → List Int) (par loc b : Nat → Nat) : Prop where
  work : ∀ v, ∀ w ∈ all.getD v [], WorkI g all.length γ par loc v w
  all_ : ∀ r : Nat, r < g.rules.length → loc r < all.length ∧ ∃ w ∈ all.getD (loc r) [], tagW w = -1 - (r : Int)
  new : ∀ N : Nat, g.vars.toNat ≤ N → N < all.length → par N < N ∧ ∃ w ∈ all.getD (par N) [], tagW w = (N : Int)
  nodup : ∀ v, (all.getD v []).Pairwise fun x y => tagW x ≠ tagW y
  old : ∀ v : Nat, v < g.vars.toNat → γ v = [] ∧ b v = v
  base : ∀ N : Nat, g.vars.toNat ≤ N → N < all.length → b N = b (par N)
  left : ∀ (r : Nat) (hr : r < g.rules.length), g.rules[r].left = (b (loc r) : Int)
  pre : ∀ N : Nat, g.vars.toNat ≤ N → N < all.length → ∃ p, γ N = γ (par N) ++ p
theorem WorkI.neg {g : Gram} {n : Nat} {γ : Nat → List Int} {par loc : Nat → Nat} {v : Nat} {w : Work} (h : WorkI g n γ par loc v w) {r : Nat} (ht : tagW w = -1 - (r : Int)) : loc r = v ∧ ∃ hr : r < g.rules.length, w.l = plainF r (kids w.right).length (gapAt g v) ∧ g.rules[r].right = γ v ++ w.right := by
  rcases h with ⟨r', hr', e1, e2, e3⟩ | ⟨N, p, _, _, e1, _, _, _, e2⟩
  · have := tag_plain e1
    obtain rfl : r = r' := by omega
    exact ⟨e2, hr', e1, e3⟩
  · have := tag_head e2 e1
    omega
theorem tag_place {g : Gram} {n : Nat} {γ : Nat → List Int} {par loc : Nat → Nat} {v v' : Nat} {w w' : Work} (h : WorkI g n γ par loc v w) (h' : WorkI g n γ par loc v' w') (e : tagW w = tagW w') : v = v' := by
  rcases h with ⟨r, hr, e1, e2, e3⟩ | ⟨N, p, _, _, e1, e2, _, _, e3⟩
  · have := (h'.neg (r := r) (by rw [← e, tag_plain e1])).1
    omega
  · have t1 := tag_head e3 e1
    rcases h' with ⟨r, hr, f1, f2, f3⟩ | ⟨N', p', _, _, f1, f2, _, _, f3⟩
    · have := tag_plain f1; omega
    · have := tag_head f3 f1
      obtain rfl : N = N' := by omega
      omega
theorem start_facI {g : Gram} (hg : g.ok) : FacI g (startW g) (fun _ => []) id (fun r => (rulF g r).left.toNat) id := by
  have hlen := startW_length g
  have hleft : ∀ r, (hr : r < g.rules.length) → (rulF g r).left.toNat < g.vars.toNat ∧ (((rulF g r).left.toNat : Nat) : Int) = g.rules[r].left := fun r hr => by
    rw [rulF_is hr]
    have := hg.left0 _ (List.getElem_mem hr)
    have := hg.left _ (List.getElem_mem hr)
    omega
  have hw : ∀ v, v < g.vars.toNat → ∀ w ∈ worksAt g v, ∃ (r : Nat) (hr : r < g.rules.length), w = ⟨g.rules[r].right, nodeF r (kids g.rules[r].right).length⟩ ∧ g.rules[r].left = (v : Int) := fun v hv w hw => by
    obtain ⟨i, hi, rfl⟩ := List.mem_map.1 hw
    obtain ⟨j, hj, rfl, e1, e2⟩ := by_atR hi
    exact ⟨j, hj, by rw [e2], e1⟩
  have hin : ∀ r, (hr : r < g.rules.length) → ⟨g.rules[r].right, nodeF r (kids g.rules[r].right).length⟩ ∈ worksAt g (rulF g r).left.toNat := fun r hr => by
    have := (hleft r hr).2
    refine List.mem_map.2 ⟨(r : Int), by_mem.2 ⟨r, hr, rfl, this.symm⟩, ?_⟩
    have e : ruleAt g (r : Int) = g.rules[r] := by unfold ruleAt; rw [Int.toNat_natCast, List.getD_eq_getElem?_getD, List.getElem?_eq_getElem hr]; rfl
    rw [e]
  exact {
    work := fun v w hwm => by
      by_cases hv : v < g.vars.toNat
      · rw [startW_get hv] at hwm
        obtain ⟨r, hr, rfl, e⟩ := hw v hv w hwm
        have h2 := (hleft r hr).2
        refine .inl ⟨r, hr, ?_, by dsimp only; omega, rfl⟩
        rw [show gapAt g v = false from decide_eq_false (by omega)]
        rfl
      · rw [startW_out hv] at hwm; cases hwm
    all_ := fun r hr => by
      obtain ⟨h1, h2⟩ := hleft r hr
      refine ⟨by rw [hlen]; exact h1, _, by rw [startW_get h1]; exact hin r hr, ?_⟩
      exact tag_plain (b := false) rfl
    new := fun N h1 h2 => by rw [hlen] at h2; omega
    nodup := fun v => by
      by_cases hv : v < g.vars.toNat
      · rw [startW_get hv]
        unfold worksAt
        rw [List.pairwise_map]
        have hnd : (by_ g v).Pairwise fun x y => x ≠ y := by
          have : ∀ (rs : List Rule) (i : Nat), (byR rs v i).Pairwise (fun x y => x ≠ y) ∧ ∀ x ∈ byR rs v i, (i : Int) ≤ x := by
            intro rs
            induction rs with
            | nil => intro i; rw [byR]; exact ⟨List.Pairwise.nil, fun x hx => by cases hx⟩
            | cons r rs ih =>
              intro i
              obtain ⟨h1, h2⟩ := ih (i + 1)
              rw [byR]
              split
              · refine ⟨List.pairwise_cons.2 ⟨fun x hx q => ?_, h1⟩, fun x hx => ?_⟩
                · have := h2 x hx; omega
                · rcases List.mem_cons.1 hx with rfl | hx
                  · exact Int.le_refl _
                  · have := h2 x hx; omega
              · exact ⟨h1, fun x hx => by have := h2 x hx; omega⟩
          exact (this _ _).1
        refine hnd.imp fun {a c} hac => ?_
        rw [tag_plain (r := a) (b := false) rfl, tag_plain (r := c) (b := false) rfl]
        omega
      · rw [startW_out hv]; exact List.Pairwise.nil
    old := fun v _ => ⟨rfl, rfl⟩
    base := fun N h1 h2 => by rw [hlen] at h2; omega
    left := fun r hr => ((hleft r hr).2).symm
    pre := fun N h1 h2 => by rw [hlen] at h2; omega }
/-! ### A group -/
theorem samesW_sub {at_ : List Int} : ∀ (l : List Work) (i : Nat), (samesW at_ l i).Sublist l
  | [], i => List.Sublist.refl _
  | x :: r, i => by
    rw [samesW]
    split
    · exact (samesW_sub r (i + 1)).cons_cons x
    · exact (samesW_sub r (i + 1)).cons x
theorem mem_samesW {at_ : List Int} : ∀ {l : List Work} {i j : Nat} (hj : j < l.length), inL at_ (i + j) = true → l[j] ∈ samesW at_ l i
  | x :: r, i, 0, _, h => by rw [samesW, if_pos (by simpa using h)]; simp
  | x :: r, i, j + 1, hj, h => by
    have := mem_samesW (l := r) (i := i + 1) (j := j) (by simpa using hj) (by rw [show i + 1 + j = i + (j + 1) by omega]; exact h)
    rw [samesW]
    split
    · exact List.mem_cons_of_mem _ this
    · exact this
theorem hd_leftsW {at_ : List Int} {hd : Work} {k : Nat} (hk : at_.getD 0 0 = (k : Int)) : ∀ {l : List Work} {i : Nat}, i ≤ k → k < i + l.length → hd ∈ leftsW at_ hd l i
  | [], i, h1, h2 => by simp at h2; omega
  | x :: r, i, h1, h2 => by
    rw [leftsW, hk]
    by_cases e : i = k
    · rw [if_pos (by omega)]; simp
    · have := hd_leftsW (hd := hd) hk (l := r) (i := i + 1) (by omega) (by simp only [List.length_cons] at h2; omega)
      rw [if_neg (by omega)]
      split
      · exact this
      · exact List.mem_cons_of_mem _ this
theorem mem_leftsW {at_ : List Int} {hd : Work} {k : Nat} (hk : at_.getD 0 0 = (k : Int)) : ∀ {l : List Work} {i j : Nat} (hj : j < l.length), inL at_ (i + j) = false → i + j ≠ k → l[j] ∈ leftsW at_ hd l i
  | x :: r, i, 0, _, h1, h2 => by rw [leftsW, hk, if_neg (by omega), if_neg (by simpa using h1)]; simp
  | x :: r, i, j + 1, hj, h1, h2 => by
    have := mem_leftsW (hd := hd) hk (l := r) (i := i + 1) (j := j) (by simpa using hj) (by rw [show i + 1 + j = i + (j + 1) by omega]; exact h1) (by omega)
    rw [leftsW]
    split
    · exact List.mem_cons_of_mem _ this
    · split
      · exact this
      · exact List.mem_cons_of_mem _ this
theorem leftsW_pw {R : Work → Work → Prop} {at_ : List Int} {hd : Work} {k : Nat} (hk : at_.getD 0 0 = (k : Int)) : ∀ {l : List Work} {i : Nat}, l.Pairwise R → (∀ x ∈ l, R hd x ∧ R x hd) → (leftsW at_ hd l i).Pairwise R
  | [], i, _, _ => by rw [leftsW]; exact List.Pairwise.nil
  | x :: r, i, hp, hn => by
    rw [List.pairwise_cons] at hp
    have ih := leftsW_pw hk (i := i + 1) hp.2 (fun y hy => hn y (by simp [hy]))
    rw [leftsW, hk]
    split
    · refine List.pairwise_cons.2 ⟨fun w hw => ?_, ih⟩
      rcases leftsW_mem hk hw with ⟨_, h2⟩ | ⟨j, h1, rfl, h3, h4⟩
      · omega
      · exact (hn _ (List.mem_cons_of_mem _ (List.getElem_mem h1))).1
    · split
      · exact ih
      · refine List.pairwise_cons.2 ⟨fun w hw => ?_, ih⟩
        rcases leftsW_mem hk hw with ⟨rfl, _⟩ | ⟨j, h1, rfl, h3, h4⟩
        · exact (hn x (by simp)).2
        · exact hp.1 _ (List.getElem_mem h1)
theorem pw_at {α : Type} {f : α → Int} {l : List α} (h : l.Pairwise fun x y => f x ≠ f y) {i j : Nat} (hi : i < l.length) (hj : j < l.length) (e : f l[i] = f l[j]) : i = j := by
  rw [List.pairwise_iff_getElem] at h
  rcases Nat.lt_trichotomy i j with q | q | q
  · exact absurd e (h i j hi hj q)
  · exact q
  · exact absurd e.symm (h j i hj hi q)
theorem FacI.one {g : Gram} (hg : g.ok) {all : List (List Work)} {v : Nat} {γ : Nat → List Int} {par loc b : Nat → Nat} (I : FacI g all γ par loc b) (h : FInv g all v) (hv : v < all.length) (hne : groupW (all.getD v []) 0 ≠ []) :
    ∃ γ' par' loc' b', FacI g (oneW g.vars.toNat all v (groupW (all.getD v []) 0)) γ' par' loc' b' := by
  classical
  obtain ⟨k, G⟩ := h.grp hne
  generalize hat : groupW (all.getD v []) 0 = at_ at *
  have hN := oneW_length g.vars.toNat all v at_
  have hvars := h.vars
  have hf := G.first
  generalize hn : comW (all.getD v []) at_ = n at *
  have hkk := G.hk
  have hhd : headW g.vars.toNat all.length v (all.getD v []) at_ = ⟨((all.getD v [])[k]'G.hk).right.take n ++ [(all.length : Int)], headF (kids (((all.getD v [])[k]'G.hk).right.take n)).length (gapAt g v)⟩ := by
    rw [headW, hf, hn]; rfl
  have hone : oneW g.vars.toNat all v at_ = all.set v (leftsW at_ ⟨((all.getD v [])[k]'G.hk).right.take n ++ [(all.length : Int)], headF (kids (((all.getD v [])[k]'G.hk).right.take n)).length (gapAt g v)⟩ (all.getD v []) 0) ++
      [(samesW at_ (all.getD v []) 0).map (restW n (kids (((all.getD v [])[k]'G.hk).right.take n)).length)] := by
    rw [oneW, hhd, hf, hn]
  have hkin : inL at_ k = true := by rw [G.inn k G.hk]; exact G.self
  -- a work of the group ends a rule
  have hgrp : ∀ w ∈ samesW at_ (all.getD v []) 0, ∃ (r : Nat) (hr : r < g.rules.length) (j : Nat) (hj : j < (all.getD v []).length), w = (all.getD v [])[j] ∧ inL at_ j = true ∧ tagW w = -1 - (r : Int) ∧ loc r = v ∧ g.rules[r].right = γ v ++ w.right ∧ w.l = plainF r (kids w.right).length (gapAt g v) ∧ w.right.take n = ((all.getD v [])[k]'G.hk).right.take n := fun w hw => by
    obtain ⟨j, hj, rfl, hi⟩ := samesW_mem hw
    rw [Nat.zero_add] at hi
    obtain ⟨⟨r0, p1, p2, p3⟩, p4⟩ := G.plain j hj hi
    have ht := tag_plain p2
    obtain ⟨q1, hr, q2, q3⟩ := (I.work v _ (List.getElem_mem hj)).neg ht
    exact ⟨r0, hr, j, hj, rfl, hi, ht, q1, q3, q2, p4⟩
  generalize hP : ((all.getD v [])[k]'G.hk).right.take n = P at *
  generalize hL : all.getD v [] = l at *
  have hPsym : ∀ s ∈ P, s < g.vars := fun s hs => by
    obtain ⟨r, hr, j, hj, e1, e2, e3, e4, e5, e6, e7⟩ := hgrp _ (mem_samesW (i := 0) hkk (by rw [Nat.zero_add]; exact hkin))
    refine hg.hi _ (List.getElem_mem hr) s ?_
    rw [e5]
    exact List.mem_append_right _ (List.mem_of_mem_take (i := n) (by rw [e7]; exact hs))
  let γ' : Nat → List Int := fun u => if u = all.length then γ v ++ P else γ u
  let par' : Nat → Nat := fun u => if u = all.length then v else par u
  let b' : Nat → Nat := fun u => if u = all.length then b v else b u
  let loc' : Nat → Nat := fun r => if (∃ w ∈ samesW at_ l 0, tagW w = -1 - (r : Int)) then all.length else loc r
  have γo : ∀ u, u < all.length → γ' u = γ u := fun u hu => if_neg (by omega)
  have γn : γ' all.length = γ v ++ P := if_pos rfl
  have po : ∀ u, u < all.length → par' u = par u := fun u hu => if_neg (by omega)
  have pn : par' all.length = v := if_pos rfl
  have bo : ∀ u, u < all.length → b' u = b u := fun u hu => if_neg (by omega)
  have bn : b' all.length = b v := if_pos rfl
  have lo : ∀ r : Nat, ¬ (∃ w ∈ samesW at_ l 0, tagW w = -1 - (r : Int)) → loc' r = loc r := fun r hr => if_neg hr
  have ln : ∀ r : Nat, (∃ w ∈ samesW at_ l 0, tagW w = -1 - (r : Int)) → loc' r = all.length ∧ loc r = v := fun r hr => by
    refine ⟨if_pos hr, ?_⟩
    obtain ⟨w, hw, e⟩ := hr
    obtain ⟨r1, hr1, j, hj, _, _, e3, e4, _⟩ := hgrp w hw
    obtain rfl : r = r1 := by omega
    exact e4
  have hl_v : ∀ w ∈ l, WorkI g all.length γ par loc v w := fun w hw => I.work v w (by rw [hL]; exact hw)
  have hnd : l.Pairwise fun x y => tagW x ≠ tagW y := by have := I.nodup v; rw [hL] at this; exact this
  -- what stays where it was
  have stay_ : ∀ (u : Nat) (w : Work), u < all.length → WorkI g all.length γ par loc u w → (∀ r : Nat, tagW w = -1 - (r : Int) → loc' r = loc r) → WorkI g (all.length + 1) γ' par' loc' u w := fun u w hu hw hs => by
    rcases hw with ⟨r, hr, e1, e2, e3⟩ | ⟨N, p, n0, n1, e1, e2, e3, e4, e5⟩
    · exact .inl ⟨r, hr, e1, by rw [hs r (tag_plain e1), e2], by rw [γo u hu]; exact e3⟩
    · exact .inr ⟨N, p, n0, by omega, e1, by rw [po N n1, e2], by rw [γo N n1, γo u hu, e3], e4, e5⟩
  have tags_v : ∀ (j : Nat) (hj : j < l.length), inL at_ j = false → ∀ r : Nat, tagW l[j] = -1 - (r : Int) → loc' r = loc r := fun j hj hi r ht => lo r fun ⟨w, hw, e⟩ => by
    obtain ⟨r1, hr1, j1, hj1, rfl, hi1, _⟩ := hgrp w hw
    have := pw_at hnd hj hj1 (by rw [ht, e])
    subst this
    rw [hi] at hi1; cases hi1
  have get_o : ∀ u, u < all.length → u ≠ v → (oneW g.vars.toNat all v at_).getD u [] = all.getD u [] := fun u h1 h2 => by rw [hone, getD_set_other h1 h2]
  have get_v : (oneW g.vars.toNat all v at_).getD v [] = leftsW at_ ⟨P ++ [(all.length : Int)], headF (kids P).length (gapAt g v)⟩ l 0 := by rw [hone, getD_set_self hv]
  have get_n : (oneW g.vars.toNat all v at_).getD all.length [] = (samesW at_ l 0).map (restW n (kids P).length) := by rw [hone, getD_set_last]
  have get_x : ∀ u, all.length < u → (oneW g.vars.toNat all v at_).getD u [] = [] := fun u hu => by rw [hone, getD_set_out hu]
  have hgapN : gapAt g all.length = true := decide_eq_true hvars
  have rest_is : ∀ w ∈ samesW at_ l 0, ∃ (r : Nat) (hr : r < g.rules.length), tagW w = -1 - (r : Int) ∧ tagW (restW n (kids P).length w) = -1 - (r : Int) ∧ (restW n (kids P).length w).l = plainF r (kids (restW n (kids P).length w).right).length (gapAt g all.length) ∧ g.rules[r].right = (γ v ++ P) ++ (restW n (kids P).length w).right := fun w hw => by
    obtain ⟨r, hr, j, hj, e1, e2, e3, e4, e5, e6, e7⟩ := hgrp w hw
    have hkids := kids_split w.right n
    rw [e7] at hkids
    have hl' : (restW n (kids P).length w).l = plainF r (kids (restW n (kids P).length w).right).length (gapAt g all.length) := by
      rw [hgapN]
      show tailF (w.l.getD 0 default).n ((kids w.right).length - (kids P).length) = plainF r (kids (w.right.drop n)).length true
      rw [e6, show (kids w.right).length - (kids P).length = (kids (w.right.drop n)).length by omega]
      rfl
    refine ⟨r, hr, e3, tag_plain hl', hl', ?_⟩
    show _ = (γ v ++ P) ++ w.right.drop n
    rw [e5, List.append_assoc, ← e7, List.take_append_drop]
  have hdtag : tagW ⟨P ++ [(all.length : Int)], headF (kids P).length (gapAt g v)⟩ = (all.length : Int) := tag_head rfl rfl
  have tag_lt : ∀ u, ∀ w ∈ all.getD u [], tagW w < (all.length : Int) := fun u w hw => by
    rcases I.work u w hw with ⟨r, hr, e1, _⟩ | ⟨N, p, _, n1, e1, _, _, _, e5⟩
    · rw [tag_plain e1]; omega
    · rw [tag_head e5 e1]; omega
  -- whom v keeps
  have keep : ∀ w ∈ l, (∀ x ∈ samesW at_ l 0, tagW x ≠ tagW w) → w ∈ leftsW at_ ⟨P ++ [(all.length : Int)], headF (kids P).length (gapAt g v)⟩ l 0 := fun w hw hn => by
    obtain ⟨j, hj, rfl⟩ := List.mem_iff_getElem.1 hw
    have hi : inL at_ j = false := by
      cases hc : inL at_ j with
      | false => rfl
      | true => exact absurd rfl (hn _ (mem_samesW (i := 0) hj (by rw [Nat.zero_add]; exact hc)))
    refine mem_leftsW G.at0 hj (by rw [Nat.zero_add]; exact hi) ?_
    rintro rfl
    rw [Nat.zero_add] at hkin
    rw [hkin] at hi; cases hi
  refine ⟨γ', par', loc', b', ?_⟩
  exact {
    work := fun u w hw => by
      rw [hN]
      rcases Nat.lt_trichotomy u all.length with h1 | rfl | h1
      · by_cases huv : u = v
        · subst huv
          rw [get_v] at hw
          rcases leftsW_mem G.at0 hw with ⟨rfl, _⟩ | ⟨j, hj, rfl, hi, _⟩
          · exact .inr ⟨all.length, P, hvars, by omega, rfl, pn, by rw [γn, γo u h1], hPsym, rfl⟩
          · rw [Nat.zero_add] at hi
            exact stay_ u _ h1 (hl_v _ (List.getElem_mem hj)) (tags_v j hj hi)
        · rw [get_o u h1 huv] at hw
          refine stay_ u w h1 (I.work u w hw) fun r ht => lo r fun ⟨x, hx, e⟩ => ?_
          have := (I.work u w hw).neg ht
          have h2 := (ln r ⟨x, hx, e⟩).2
          exact huv (by rw [← this.1, h2])
      · rw [get_n] at hw
        obtain ⟨x, hx, rfl⟩ := List.mem_map.1 hw
        obtain ⟨r, hr, e1, e2, e3, e4⟩ := rest_is x hx
        exact .inl ⟨r, hr, e3, (ln r ⟨x, hx, e1⟩).1, by rw [γn]; exact e4⟩
      · rw [get_x u h1] at hw; cases hw
    all_ := fun r hr => by
      obtain ⟨h1, w, hw, e⟩ := I.all_ r hr
      by_cases hs : ∃ w ∈ samesW at_ l 0, tagW w = -1 - (r : Int)
      · rw [(ln r hs).1, hN, get_n]
        obtain ⟨x, hx, ex⟩ := hs
        obtain ⟨r', hr', e1, e2, _⟩ := rest_is x hx
        exact ⟨by omega, _, List.mem_map.2 ⟨x, hx, rfl⟩, by rw [e2, ← e1, ex]⟩
      · rw [lo r hs, hN]
        refine ⟨by omega, w, ?_, e⟩
        by_cases huv : loc r = v
        · rw [huv] at hw ⊢
          rw [get_v]
          rw [hL] at hw
          exact keep w hw fun x hx q => hs ⟨x, hx, by rw [q, e]⟩
        · rw [get_o _ h1 huv]; exact hw
    new := fun N n0 n1 => by
      rw [hN] at n1
      by_cases hl : N = all.length
      · subst hl
        rw [pn, get_v]
        exact ⟨hv, _, hd_leftsW G.at0 (Nat.zero_le _) (by rw [Nat.zero_add]; exact hkk), hdtag⟩
      · obtain ⟨h1, w, hw, e⟩ := I.new N n0 (by omega)
        rw [po N (by omega)]
        refine ⟨h1, w, ?_, e⟩
        by_cases huv : par N = v
        · rw [huv] at hw ⊢
          rw [get_v]
          rw [hL] at hw
          refine keep w hw fun x hx q => ?_
          obtain ⟨r, hr, j, hj, _, _, e3, _⟩ := hgrp x hx
          omega
        · rw [get_o _ (by omega) huv]; exact hw
    nodup := fun u => by
      rcases Nat.lt_trichotomy u all.length with h1 | rfl | h1
      · by_cases huv : u = v
        · subst huv
          rw [get_v]
          refine leftsW_pw G.at0 hnd fun x hx => ?_
          have := tag_lt u x (by rw [hL]; exact hx)
          rw [hdtag]
          exact ⟨by omega, by omega⟩
        · rw [get_o u h1 huv]; exact I.nodup u
      · rw [get_n, List.pairwise_map]
        refine List.Pairwise.imp_of_mem (fun {x y} hx hy hne => ?_) (List.Pairwise.sublist (samesW_sub l 0) hnd)
        obtain ⟨r, _, e1, e2, _⟩ := rest_is x hx
        obtain ⟨r', _, f1, f2, _⟩ := rest_is y hy
        rw [e2, f2, ← e1, ← f1]; exact hne
      · rw [get_x u h1]; exact List.Pairwise.nil
    old := fun u hu => by rw [γo u (by omega), bo u (by omega)]; exact I.old u hu
    base := fun N n0 n1 => by
      rw [hN] at n1
      by_cases hl : N = all.length
      · subst hl
        rw [bn, pn, bo v hv]
      · have := (I.new N n0 (by omega)).1
        rw [bo N (by omega), po N (by omega), bo _ (by omega)]
        exact I.base N n0 (by omega)
    left := fun r hr => by
      by_cases hs : ∃ w ∈ samesW at_ l 0, tagW w = -1 - (r : Int)
      · obtain ⟨q1, q2⟩ := ln r hs
        rw [q1, bn, ← q2]; exact I.left r hr
      · rw [lo r hs, bo _ (I.all_ r hr).1]; exact I.left r hr
    pre := fun N n0 n1 => by
      rw [hN] at n1
      by_cases hl : N = all.length
      · subst hl
        exact ⟨P, by rw [γn, pn, γo v hv]⟩
      · have := (I.new N n0 (by omega)).1
        rw [γo N (by omega), po N (by omega), γo _ (by omega)]
        exact I.pre N n0 (by omega) }
theorem fac_inv {g : Gram} (hg : g.ok) {all : List (List Work)} {v : Nat} {r : Except Nat (List (List Work))} (hF : Fac g.vars.toNat all v r) : FInv g all v → (∃ γ par loc b, FacI g all γ par loc b) → ∀ z, r = .ok z → ∃ γ par loc b, FacI g z γ par loc b := by
  induction hF with
  | done h => intro _ hI z e; cases e; exact hI
  | next h hg' hr ih => intro hi hI z e; exact ih (hi.next hg') hI z e
  | many h hg' hm => intro _ _ z e; cases e
  | one h hg' hm hr ih =>
    intro hi ⟨γ, par, loc, b, I⟩ z e
    exact ih (hi.one hg h hg' hm).1 (I.one hg hi h hg') z e

/-! ### The rules of it -/
def entsF : List (List Work) → Nat → List (Int × Rule × List Frag)
  | [], _ => []
  | l :: r, v => l.map (fun w => (tagW w, (⟨(v : Int), w.right⟩ : Rule), w.l)) ++ entsF r (v + 1)
theorem ents_lists : ∀ (z : List (List Work)) (v : Nat), rulesF z v = (entsF z v).map (fun e => e.2.1) ∧ fragsF z = (entsF z v).map (fun e => e.2.2)
  | [], v => ⟨rfl, rfl⟩
  | l :: r, v => by
    obtain ⟨h1, h2⟩ := ents_lists r (v + 1)
    rw [rulesF, fragsF, entsF, List.map_append, List.map_append, List.map_map, List.map_map, h1, h2]
    exact ⟨rfl, rfl⟩
theorem ents_mem : ∀ {z : List (List Work)} {v : Nat} {e : Int × Rule × List Frag}, e ∈ entsF z v ↔ ∃ u w, w ∈ z.getD u [] ∧ e = (tagW w, (⟨((v + u : Nat) : Int), w.right⟩ : Rule), w.l)
  | [], v, e => by simp [entsF]
  | l :: r, v, e => by
    rw [entsF, List.mem_append, ents_mem (z := r)]
    constructor
    · rintro (h | ⟨u, w, h1, h2⟩)
      · obtain ⟨w, hw, rfl⟩ := List.mem_map.1 h
        exact ⟨0, w, by simpa using hw, rfl⟩
      · exact ⟨u + 1, w, by simpa using h1, by rw [h2, show v + 1 + u = v + (u + 1) by omega]⟩
    · rintro ⟨u, w, h1, rfl⟩
      cases u with
      | zero => exact .inl (List.mem_map.2 ⟨w, by simpa using h1, rfl⟩)
      | succ u => exact .inr ⟨u, w, by simpa using h1, by rw [show v + 1 + u = v + (u + 1) by omega]⟩
theorem ents_nodup : ∀ (z : List (List Work)) (v : Nat), (∀ u, (z.getD u []).Pairwise fun x y => tagW x ≠ tagW y) → (∀ u u' w w', w ∈ z.getD u [] → w' ∈ z.getD u' [] → tagW w = tagW w' → u = u') → ((entsF z v).map fun e => e.1).Nodup
  | [], v, _, _ => List.Pairwise.nil
  | l :: r, v, h1, h2 => by
    rw [entsF, List.map_append]
    refine List.nodup_append.2 ⟨?_, ents_nodup r (v + 1) (fun u => by have := h1 (u + 1); simpa using this) (fun u u' w w' hw hw' e => by
      have := h2 (u + 1) (u' + 1) w w' (by simpa using hw) (by simpa using hw') e
      omega), fun a ha c hc q => ?_⟩
    · rw [List.map_map]
      unfold List.Nodup
      rw [List.pairwise_map]
      have := h1 0
      simpa using this
    · obtain ⟨e, he, rfl⟩ := List.mem_map.1 ha
      obtain ⟨w, hw, rfl⟩ := List.mem_map.1 he
      obtain ⟨e', he', rfl⟩ := List.mem_map.1 hc
      obtain ⟨u, w', hw', rfl⟩ := ents_mem.1 he'
      have := h2 0 (u + 1) w w' (by simpa using hw) (by simpa using hw') q
      omega
theorem factor_facd {g : Gram} (hg : g.ok) {z : List (List Work)} {x : List Rule × List (List Frag)} (h : FInv g z z.length) (hx : finW z 0 [] [] = .ok x) {γ : Nat → List Int} {par loc b : Nat → Nat} (I : FacI g z γ par loc b) :
    Facd g (outG g z x) x.2 γ par loc b ((entsF z 0).map fun e => e.1) := by
  obtain ⟨h1, h2, h3, h4⟩ := finW_ok hx (by simp)
  rw [List.nil_append] at h1 h2
  obtain ⟨e1, e2⟩ := ents_lists z 0
  rw [e1] at h1
  rw [e2] at h2
  have hvars := h.vars
  have hv0 := hg.vars1
  have hH : (outG g z x).vars = (z.length : Int) := rfl
  have inz : ∀ u w, w ∈ z.getD u [] → u < z.length := fun u w hw => Classical.byContradiction fun hn => by
    rw [List.getD_eq_getElem?_getD, List.getElem?_eq_none (by omega)] at hw; cases hw
  exact {
    vars := by rw [hH]; omega
    len := by
      show _ = x.1.length
      rw [h1, List.length_map, List.length_map]
    nodup := ents_nodup z 0 I.nodup fun u u' w w' hw hw' e => tag_place (I.work u w hw) (I.work u' w' hw') e
    all := fun r hr => by
      obtain ⟨_, w, hw, e⟩ := I.all_ r hr
      exact List.mem_map.2 ⟨_, ents_mem.2 ⟨loc r, w, hw, rfl⟩, e⟩
    locv := fun r hr => by rw [hH]; have := (I.all_ r hr).1; omega
    new := fun N n0 n1 => by
      rw [hH] at n1
      obtain ⟨_, w, hw, e⟩ := I.new N (by omega) (by omega)
      exact List.mem_map.2 ⟨_, ents_mem.2 ⟨par N, w, hw, rfl⟩, e⟩
    up := fun N n0 n1 => (I.new N n0 (by rw [hH] at n1; omega)).1
    ok := fun j hj hT => by
      have hL : j < (entsF z 0).length := by rw [List.length_map] at hT; exact hT
      obtain ⟨u, w, hw, ew⟩ := ents_mem.1 (List.getElem_mem hL)
      rw [Nat.zero_add] at ew
      have r1 : (outG g z x).rules[j] = ⟨(u : Int), w.right⟩ := by
        have : (outG g z x).rules = (entsF z 0).map fun e => e.2.1 := h1
        simp only [this, List.getElem_map, ew]
      have r2 : x.2.getD j [] = w.l := by
        rw [h2, List.getD_eq_getElem?_getD, List.getElem?_map, List.getElem?_eq_getElem hL]
        simp only [Option.map_some, Option.getD_some, ew]
      have r3 : ((entsF z 0).map fun e => e.1)[j] = tagW w := by simp only [List.getElem_map, ew]
      rw [r1, r2, r3]
      rcases I.work u w hw with ⟨r, hr, f1, f2, f3⟩ | ⟨N, p, n0, n1, f1, f2, f3, f4, f5⟩
      · refine .inl ⟨r, hr, tag_plain f1, by rw [f2], by rw [f2]; exact f3, by rw [f2]; exact f1⟩
      · exact .inr ⟨N, p, tag_head f5 f1, by omega, by rw [hH]; omega, by rw [f2], f1, by rw [f2]; exact f3, f4, by rw [f2]; exact f5⟩
    old := fun v hv => I.old v (by omega)
    base := fun N n0 n1 => by rw [hH] at n1; exact I.base N (by omega) (by omega)
    left := I.left
    pre := fun N n0 n1 => by rw [hH] at n1; exact I.pre N (by omega) (by omega) }
theorem factorS_same {g : Gram} {r : Except Nat (List (List Work))} (hw : (gramFault g).code = 0 → Fac g.vars.toNat (startW g) 0 r) (hz : (gramFault g).code = 0 → ∀ z, r = .ok z → FInv g z z.length) (h : (factorS g r).2.code = 0) (w : List Int) : SameOk g (factorS g r).1 w false := by
  by_cases hc : (gramFault g).code = 0
  · have hg := gram_ok hc
    have e0 : factorS g r = factorEnd g r := by rw [factorS, if_pos hc]
    rw [e0] at h ⊢
    cases r with
    | error v => rw [factorEnd] at h; cases h
    | ok z =>
      have hI := hz hc z rfl
      obtain ⟨γ, par, loc, b, I⟩ := fac_inv hg (hw hc) (start_inv hg) ⟨_, _, _, _, start_facI hg⟩ z rfl
      cases hx : finW z 0 [] [] with
      | error v => rw [factorEnd] at h; simp only [hx] at h; cases h
      | ok x =>
        have e1 : factorEnd g (.ok z) = (⟨outG g z x, x.2, []⟩, ⟨0, 0⟩) := by rw [factorEnd]; simp only [hx]; rfl
        rw [e1]
        have R := factor_facd hg hI hx I
        have hs := out_step hg hI hx
        exact Facd.same (s := ⟨outG g z x, x.2, []⟩) R (by rw [hs]) rfl rfl w
  · rw [factorS, if_neg hc] at h; exact absurd h hc
end Go.Proofs.Yticnpbopelgmiaa
