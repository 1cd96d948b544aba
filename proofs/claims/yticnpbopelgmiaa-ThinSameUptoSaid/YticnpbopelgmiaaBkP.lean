/-
  Trees led back, plain: what a tree of a new grammar makes, whatever its size; a step whose rows are as told leads the trees back one for one. Trees led back, plain: the laws '..Same' of a step that leads back. Trees led back, plain: steps each of whose rows is one tree; what may be nothing; a grammar that goes where another goes is no more cyclic.
-/
import Derived.Test.YticnpbopelgmiaaSaP
import Derived.Test.YticnpbopelgmiaaFrQ
import Derived.Test.YticnpbopelgmiaaQChartJ
import Derived.Test.YticnpbopelgmiaaP1
import Derived.Test.YticnpbopelgmiaaFrG
import Derived.Test.YticnpbopelgmiaaQFoG
set_option linter.unusedVariables false
set_option linter.unusedSimpArgs false
set_option linter.unusedSectionVars false
namespace Go.Proofs.Yticnpbopelgmiaa
open Go.RowKit

mutual
def muF (kids : List (List Tree)) : Frag → List Tree
  | .mk o n l => if o = 1 then [.mk n (muL kids l)] else if o = 2 then kids.getD n.toNat [] else if o = 3 then [.mk (-1) []] else if o = 4 then fillL (muL kids l) (kids.getD n.toNat []) else []
def muL (kids : List (List Tree)) : List Frag → List Tree
  | [] => []
  | x :: r => muF kids x ++ muL kids r
end
mutual
def vaT (s : Step) : Tree → List Tree
  | .mk r ks => muL (vaL s ks) (s.frags.getD r.toNat [])
def vaL (s : Step) : List Tree → List (List Tree)
  | [] => []
  | x :: l => vaT s x :: vaL s l
end
theorem vaT_eq (s : Step) (x : Tree) : vaT s x = muL (vaL s x.kids) (s.frags.getD x.rule.toNat []) := by cases x; rw [vaT]; rfl
theorem vaL_len (s : Step) : ∀ l : List Tree, (vaL s l).length = l.length
  | [] => rfl
  | x :: l => by rw [vaL, List.length_cons, List.length_cons, vaL_len s l]
theorem fitss_all {g : Gram} : ∀ {k : List Tree} {vs : List Int}, k.length = vs.length → (∀ (q : Nat) (h1 : q < k.length) (h2 : q < vs.length), fits g k[q] vs[q] = true) → fitss g k vs = true
  | [], _, _, _ => by rw [fitss.eq_def]
  | _ :: _, [], h, _ => by simp at h
  | x :: k, v :: vs, h, H => by
    rw [fitss, Bool.and_eq_true]
    exact ⟨H 0 (by simp) (by simp), fitss_all (by simpa using h) fun q h1 h2 => H (q + 1) (by simpa using h1) (by simpa using h2)⟩
theorem fits_mk {g : Gram} {r : Nat} (hr : r < g.rules.length) {v : Int} {xs : List Tree} (hl : g.rules[r].left = v) (hk : xs.length = (kids g.rules[r].right).length) (hf : fitss g xs (kids g.rules[r].right) = true) : fits g (.mk (r : Int) xs) v = true ∧ wordT g (.mk (r : Int) xs) = wordL g g.rules[r].right xs := by
  refine ⟨?_, ?_⟩
  · rw [fits_eq]
    show (match (if 0 ≤ (r : Int) then g.rules[((r : Nat) : Int).toNat]? else none) with | none => _ | some ru => _) = true
    rw [if_pos (by omega), Int.toNat_natCast, List.getElem?_eq_getElem hr]
    simp only [hl, hk, Tree.kids, hf, decide_true, Bool.true_and]
  · rw [wordT_eq]
    show wordL g ((g.rules[((r : Nat) : Int).toNat]?).getD ⟨0, []⟩).right xs = _
    rw [Int.toNat_natCast, List.getElem?_eq_getElem hr]; rfl

/-! ### Every row on the way is small enough -/
mutual
def okT (s : Step) : Tree → Prop
  | .mk r ks => okL s ks ∧ mkL (vaL s ks) (s.frags.getD r.toNat []) = some (muL (vaL s ks) (s.frags.getD r.toNat []))
def okL (s : Step) : List Tree → Prop
  | [] => True
  | x :: l => okT s x ∧ okL s l
end
theorem okT_eq (s : Step) (x : Tree) : okT s x ↔ okL s x.kids ∧ mkL (vaL s x.kids) (s.frags.getD x.rule.toNat []) = some (muL (vaL s x.kids) (s.frags.getD x.rule.toNat [])) := by cases x; rw [okT]; exact Iff.rfl
theorem okL_iff (s : Step) : ∀ l : List Tree, okL s l ↔ ∀ x ∈ l, okT s x
  | [] => by simp [okL]
  | x :: l => by rw [okL, okL_iff s l]; simp
mutual
theorem valT_is {s : Step} : ∀ x : Tree, okT s x → valT s x = some (vaT s x)
  | .mk r ks, h => by
    rw [okT] at h
    rw [valT, valL_is ks h.1, vaT]
    exact h.2
theorem valL_is {s : Step} : ∀ l : List Tree, okL s l → valL s l = some (vaL s l)
  | [], _ => rfl
  | x :: l, h => by
    rw [okL] at h
    rw [valL, valT_is x h.1, valL_is l h.2, vaL]
    rfl
end

/-! ### Rows -/
section
variable (D : Int → List Tree → Prop) (W : Int → List Tree → List Int)
def DL : List (List Tree) → List Int → Prop
  | [], [] => True
  | l :: ls, v :: vs => D v l ∧ DL ls vs
  | _, _ => False
def catW : List Int → List (List Tree) → List Int
  | [], _ => []
  | s :: r, ls => if s < 0 then (-1 - s) :: catW r ls else match ls with
    | l :: ls => W s l ++ catW r ls
    | [] => catW r []
theorem catW_nil {W : Int → List Tree → List Int} (ls : List (List Tree)) : catW W [] ls = [] := by rw [catW.eq_def]
theorem catW_neg {W : Int → List Tree → List Int} {s : Int} (h : s < 0) (r : List Int) (ls : List (List Tree)) : catW W (s :: r) ls = (-1 - s) :: catW W r ls := by rw [catW.eq_def]; simp [h]
theorem catW_pos {W : Int → List Tree → List Int} {s : Int} (h : ¬ s < 0) (r : List Int) (l : List Tree) (ls : List (List Tree)) : catW W (s :: r) (l :: ls) = W s l ++ catW W r ls := by rw [catW.eq_def]; simp [h]
theorem catW_out {W : Int → List Tree → List Int} {s : Int} (h : ¬ s < 0) (r : List Int) : catW W (s :: r) [] = catW W r [] := by rw [catW.eq_def]; simp [h]
theorem DL_len {D : Int → List Tree → Prop} : ∀ {ls : List (List Tree)} {vs : List Int}, DL D ls vs → ls.length = vs.length
  | [], [], _ => rfl
  | l :: ls, v :: vs, h => by rw [List.length_cons, List.length_cons, DL_len h.2]
  | [], _ :: _, h => nomatch h
  | _ :: _, [], h => nomatch h
theorem DL_at {D : Int → List Tree → Prop} : ∀ {ls : List (List Tree)} {vs : List Int}, DL D ls vs → ∀ (i : Nat) (h1 : i < ls.length) (h2 : i < vs.length), D vs[i] ls[i]
  | [], [], _, i, h1, _ => by simp at h1
  | l :: ls, v :: vs, h, 0, _, _ => h.1
  | l :: ls, v :: vs, h, i + 1, h1, h2 => DL_at h.2 i (by simpa using h1) (by simpa using h2)
  | [], _ :: _, h, _, _, _ => nomatch h
  | _ :: _, [], h, _, _, _ => nomatch h
theorem DL_of {D : Int → List Tree → Prop} : ∀ {ls : List (List Tree)} {vs : List Int}, ls.length = vs.length → (∀ (i : Nat) (h1 : i < ls.length) (h2 : i < vs.length), D vs[i] ls[i]) → DL D ls vs
  | [], [], _, _ => trivial
  | l :: ls, v :: vs, h, H => ⟨H 0 (by simp) (by simp), DL_of (by simpa using h) fun i h1 h2 => H (i + 1) (by simpa using h1) (by simpa using h2)⟩
  | [], _ :: _, h, _ => by simp at h
  | _ :: _, [], h, _ => by simp at h
end
/-- A step leads back, row for row. -/
structure Leads (h : Gram) (F : List (List Frag)) (D : Int → List Tree → Prop) (W : Int → List Tree → List Int) (μ : Int → List Tree → Nat) : Prop where
  sound : ∀ (r : Nat) (hr : r < h.rules.length) (ls : List (List Tree)), DL D ls (kids h.rules[r].right) → D h.rules[r].left (muL ls (F.getD r [])) ∧ W h.rules[r].left (muL ls (F.getD r [])) = catW W h.rules[r].right ls
  inj : ∀ (r r' : Nat) (hr : r < h.rules.length) (hr' : r' < h.rules.length) (ls ls' : List (List Tree)), h.rules[r].left = h.rules[r'].left → DL D ls (kids h.rules[r].right) → DL D ls' (kids h.rules[r'].right) → muL ls (F.getD r []) = muL ls' (F.getD r' []) → r = r' ∧ ls = ls'
  surj : ∀ (v : Int) (l : List Tree), 0 ≤ v → v < h.vars → D v l → ∃ (r : Nat) (hr : r < h.rules.length) (ls : List (List Tree)), h.rules[r].left = v ∧ DL D ls (kids h.rules[r].right) ∧ l = muL ls (F.getD r []) ∧ ∀ (i : Nat) (h1 : i < ls.length) (h2 : i < (kids h.rules[r].right).length), μ (kids h.rules[r].right)[i] ls[i] < μ v l

section
variable {h : Gram} {s : Step} {D : Int → List Tree → Prop} {W : Int → List Tree → List Int} {μ : Int → List Tree → Nat}
theorem vaL_get (s : Step) : ∀ (l : List Tree) (i : Nat) (h1 : i < l.length) (h2 : i < (vaL s l).length), (vaL s l)[i] = vaT s l[i]
  | x :: l, 0, _, _ => rfl
  | x :: l, i + 1, h1, h2 => by
    simp only [vaL, List.getElem_cons_succ]
    exact vaL_get s l i (by simpa using h1) _
theorem catW_va (g : Gram) (s : Step) : ∀ (r : List Int) (ks : List Tree), (∀ (i : Nat) (h1 : i < ks.length) (h2 : i < (kids r).length), W (kids r)[i] (vaT s ks[i]) = wordT g ks[i]) → catW W r (vaL s ks) = wordL g r ks
  | [], ks, _ => by rw [catW_nil, wordL_nil]
  | x :: r, ks, H => by
    by_cases hx : x < 0
    · rw [catW_neg hx, wordL_neg hx, catW_va g s r ks (by rw [kidsN hx] at H; exact H)]
    · rw [kidsP hx] at H
      cases ks with
      | nil => rw [vaL, wordL_out hx, catW_out hx]; exact catW_va g s r [] (fun i h1 _ => by simp at h1)
      | cons t ks =>
        rw [vaL, wordL_pos hx, catW_pos hx]
        have h0 := H 0 (by simp) (by simp)
        simp only [List.getElem_cons_zero] at h0
        rw [h0, catW_va g s r ks (fun i h1 h2 => by
          have := H (i + 1) (by simpa using h1) (by simpa using h2)
          simpa only [List.getElem_cons_succ] using this)]
theorem DL_va {ks : List Tree} (hf : ∀ (t : Tree) (v : Int), t ∈ ks → fits h t v = true → D v (vaT s t)) : ∀ (l : List Tree) (vs : List Int), (∀ t ∈ l, t ∈ ks) → l.length = vs.length → fitss h l vs = true → DL D (vaL s l) vs := fun l vs hs hl hfs => by
  refine DL_of (by rw [vaL_len, hl]) fun i h1 h2 => ?_
  rw [vaL_len] at h1
  rw [vaL_get s l i h1]
  exact hf _ _ (hs _ (List.getElem_mem h1)) (fitss_at hfs h1 h2)
theorem lead_sound (hL : Leads h s.frags D W μ) : ∀ (n : Nat) (t : Tree) (v : Int), cnt t ≤ n → fits h t v = true → D v (vaT s t) ∧ W v (vaT s t) = wordT h t
  | 0, t, _, hn, _ => by have := cnt_pos t; omega
  | n + 1, t, v, hn, hf => by
    obtain ⟨r, hr, e1, e2, e3, e4, e5⟩ := fits_parts hf
    have ih : ∀ (x : Tree) (u : Int), x ∈ t.kids → fits h x u = true → D u (vaT s x) ∧ W u (vaT s x) = wordT h x := fun x u hx hfx =>
      lead_sound hL n x u (by have := cnts_mem hx; rw [cnt_eq] at hn; omega) hfx
    have hd : DL D (vaL s t.kids) (kids h.rules[r].right) := DL_va (ks := t.kids) (fun x u hx hfx => (ih x u hx hfx).1) _ _ (fun _ q => q) e3.symm e4
    obtain ⟨k1, k2⟩ := hL.sound r hr _ hd
    rw [vaT_eq, e1, Int.toNat_natCast, ← e2]
    refine ⟨k1, ?_⟩
    rw [k2, e5]
    exact catW_va h s _ _ fun i h1 h2 => (ih _ _ (List.getElem_mem h1) (fitss_at e4 h1 h2)).2
theorem lead_inj (hL : Leads h s.frags D W μ) : ∀ (n : Nat) (t t' : Tree) (v : Int), cnt t ≤ n → fits h t v = true → fits h t' v = true → vaT s t = vaT s t' → t = t'
  | 0, t, _, _, hn, _, _, _ => by have := cnt_pos t; omega
  | n + 1, t, t', v, hn, hf, hf', he => by
    obtain ⟨r, hr, e1, e2, e3, e4, _⟩ := fits_parts hf
    obtain ⟨r', hr', e1', e2', e3', e4', _⟩ := fits_parts hf'
    have hd : DL D (vaL s t.kids) (kids h.rules[r].right) := DL_va (ks := t.kids) (fun x u hx hfx => (lead_sound hL _ x u (Nat.le_refl _) hfx).1) _ _ (fun _ q => q) e3.symm e4
    have hd' : DL D (vaL s t'.kids) (kids h.rules[r'].right) := DL_va (ks := t'.kids) (fun x u hx hfx => (lead_sound hL _ x u (Nat.le_refl _) hfx).1) _ _ (fun _ q => q) e3'.symm e4'
    rw [vaT_eq, vaT_eq, e1, e1', Int.toNat_natCast, Int.toNat_natCast] at he
    obtain ⟨q1, q2⟩ := hL.inj r r' hr hr' _ _ (by rw [e2, e2']) hd hd' he
    subst q1
    have hk : t.kids = t'.kids := by
      have hl : t.kids.length = t'.kids.length := by omega
      refine List.ext_getElem hl fun i h1 h2 => ?_
      refine lead_inj hL n _ _ ((kids h.rules[r].right)[i]'(by omega)) (by have := cnts_mem (List.getElem_mem h1); rw [cnt_eq] at hn; omega) (fitss_at e4 h1 (by omega)) (fitss_at e4' h2 (by omega)) ?_
      have a1 := vaL_get s t.kids i h1 (by rw [vaL_len]; exact h1)
      have a2 := vaL_get s t'.kids i h2 (by rw [vaL_len]; exact h2)
      rw [← a1, ← a2]
      simp only [q2]
    rw [Tree.eta t, Tree.eta t', e1, e1', hk]
theorem lead_surj (hh : h.ok) (hL : Leads h s.frags D W μ) : ∀ (n : Nat) (v : Int) (l : List Tree), 0 ≤ v → v < h.vars → μ v l < n → D v l → ∃ t, fits h t v = true ∧ vaT s t = l
  | 0, _, _, _, _, hn, _ => by omega
  | n + 1, v, l, h0, h1, hn, hd => by
    obtain ⟨r, hr, ls, e1, e2, e3, e4⟩ := hL.surj v l h0 h1 hd
    have hlen := DL_len e2
    have hex : ∀ i, ∀ hi : i < ls.length, ∃ t, fits h t ((kids h.rules[r].right)[i]'(by omega)) = true ∧ vaT s t = ls[i] := fun i hi => by
      have hk := List.getElem_mem (l := kids h.rules[r].right) (n := i) (by omega)
      obtain ⟨q1, q2⟩ := List.mem_filter.1 hk
      have q2 := of_decide_eq_true q2
      exact lead_surj hh hL n _ _ (by omega) (hh.hi _ (List.getElem_mem hr) _ q1) (by have := e4 i hi (by omega); omega) (DL_at e2 i hi (by omega))
    let ks : List Tree := (List.range ls.length).attach.map fun i => (hex i.1 (List.mem_range.1 i.2)).choose
    have hkl : ks.length = ls.length := by simp [ks]
    have hks : ∀ i (hi : i < ks.length), fits h ks[i] ((kids h.rules[r].right)[i]'(by omega)) = true ∧ vaT s ks[i] = ls[i]'(by omega) := fun i hi => by
      have := (hex i (by omega)).choose_spec
      have e : ks[i] = (hex i (by omega)).choose := by simp [ks]
      rw [e]; exact this
    have hv : vaL s ks = ls := List.ext_getElem (by rw [vaL_len, hkl]) fun i q1 q2 => by
      rw [vaL_get s ks i (by omega)]; exact (hks i (by omega)).2
    refine ⟨.mk (r : Int) ks, ?_, ?_⟩
    · exact (fits_mk hr e1 (by omega) (fitss_all (by omega) fun i q1 q2 => (hks i q1).1)).1
    · rw [vaT, hv, Int.toNat_natCast, e3]
end
end Go.Proofs.Yticnpbopelgmiaa
namespace Go.Proofs.Yticnpbopelgmiaa
open Go.RowKit

/-! ### Templates without gaps -/
mutual
def plF : Frag → Bool
  | .mk o _ l => if o = 1 then plL l else decide (o = 2)
def plL : List Frag → Bool
  | [] => true
  | x :: r => plF x && plL r
end
mutual
theorem mkF_pl {kids : List (List Tree)} : ∀ x : Frag, plF x = true → cnts (muF kids x) ≤ 400 → mkF kids x = some (muF kids x)
  | .mk o n l, h, hc => by
    rw [plF] at h
    rw [muF] at hc ⊢
    rw [mkF]
    by_cases h1 : o = 1
    · rw [if_pos h1] at h hc ⊢
      rw [if_pos h1]
      simp only [cnts, cnt] at hc
      rw [mkA_pl l h (by omega)]
      show ((fits4 (muL kids l)).map _) = _
      unfold fits4
      rw [if_pos (by omega)]
      rfl
    · rw [if_neg h1] at h
      have h2 : o = 2 := of_decide_eq_true h
      rw [if_neg h1, if_neg h1, if_pos h2, if_pos h2]
theorem mkA_pl {kids : List (List Tree)} : ∀ l : List Frag, plL l = true → cnts (muL kids l) ≤ 400 → mkA kids l = some (muL kids l)
  | [], _, _ => rfl
  | x :: r, h, hc => by
    rw [plL, Bool.and_eq_true] at h
    rw [muL, cnts_append] at hc
    rw [mkA, mkF_pl x h.1 (by omega), mkA_pl r h.2 (by omega), muL]
    rfl
end
theorem mkL_pl {kids : List (List Tree)} {l : List Frag} (h : plL l = true) (hc : cnts (muL kids l) ≤ 400) : mkL kids l = some (muL kids l) := by
  unfold mkL
  rw [mkA_pl l h hc]
  show fits4 _ = _
  unfold fits4
  rw [if_pos hc]
theorem bump_at {u : List Int} {n : Int} {k : Nat} (h : (bump u n).getD k 0 ≠ u.getD k 0) : k = n.toNat := Classical.byContradiction fun q => h (by
  unfold bump
  rw [List.getD_eq_getElem?_getD, List.getElem?_set_ne (fun e => q e.symm), ← List.getD_eq_getElem?_getD])
mutual
theorem usF_sees {m : Int} {kids : List (List Tree)} {k : Nat} : ∀ (x : Frag) (u : List Int), plF x = true → (usF m x u).1 = true → (usF m x u).2.getD k 0 ≠ u.getD k 0 → cnts (kids.getD k []) ≤ cnts (muF kids x)
  | .mk o n l, u, hp, h1, h2 => by
    rw [plF] at hp
    rw [usF] at h1 h2
    rw [muF]
    by_cases ho : o = 1
    · rw [if_pos ho] at hp h1 h2 ⊢
      by_cases hn : n < 0 ∨ m ≤ n
      · rw [if_pos hn] at h1; cases h1
      · rw [if_neg hn] at h1 h2
        have := usL_sees (kids := kids) l u hp h1 h2
        simp only [cnts, cnt]; omega
    · rw [if_neg ho] at hp h1 h2 ⊢
      have h3 : o = 2 := of_decide_eq_true hp
      rw [if_pos h3] at h1 h2 ⊢
      by_cases hn : n < 0 ∨ (u.length : Int) ≤ n
      · rw [if_pos hn] at h1; cases h1
      · rw [if_neg hn] at h2
        rw [bump_at h2]; exact Nat.le_refl _
theorem usL_sees {m : Int} {kids : List (List Tree)} {k : Nat} : ∀ (l : List Frag) (u : List Int), plL l = true → (usL m l u).1 = true → (usL m l u).2.getD k 0 ≠ u.getD k 0 → cnts (kids.getD k []) ≤ cnts (muL kids l)
  | [], u, _, _, h2 => absurd rfl h2
  | x :: r, u, hp, h1, h2 => by
    rw [plL, Bool.and_eq_true] at hp
    rw [usL] at h1 h2
    rw [muL, cnts_append]
    cases hc : (usF m x u).1 with
    | false => rw [hc] at h1; cases h1
    | true =>
      rw [hc] at h1 h2
      simp only [cond_true] at h1 h2
      by_cases q : (usF m x u).2.getD k 0 = u.getD k 0
      · have := usL_sees (kids := kids) r (usF m x u).2 hp.2 h1 (by rw [q]; exact h2)
        omega
      · have := usF_sees (kids := kids) x u hp.1 hc q
        omega
end
/-- Each kid is used. -/
theorem step_uses {old : Gram} {s : Step} (h : (stepFault old s).code = 0) {r : Nat} (hr : r < s.g.rules.length) : okUse old (s.frags.getD r []) s.g.rules[r].right = true := by
  rw [stepFault] at h
  by_cases h0 : (gramFault old).code = 0
  · rw [if_pos h0] at h
    by_cases h1 : (gramFault s.g).code = 0
    · rw [if_pos h1] at h
      by_cases h2 : s.empty.length ≤ 200
      · rw [if_pos h2] at h
        by_cases h3 : s.empty.any (badEmpty old) = true
        · rw [if_pos h3] at h; cases h
        · rw [if_neg h3] at h
          by_cases h4 : s.frags.length = s.g.rules.length
          · rw [if_pos h4] at h
            have := sfirst_zero h r (by omega) hr
            rw [List.getD_eq_getElem?_getD, List.getElem?_eq_getElem (by omega), Option.getD_some]
            rw [partFault] at this
            split at this
            · cases this
            · split at this
              · assumption
              · cases this
          · rw [if_neg h4] at h; cases h
      · rw [if_neg h2] at h; cases h
    · rw [if_neg h1] at h; exact absurd h h1
  · rw [if_neg h0] at h; exact absurd h h0
theorem use_kid {old : Gram} {l : List Frag} {right : List Int} (h : okUse old l right = true) (hp : plL l = true) (ks : List (List Tree)) {k : Nat} (hk : k < (kids right).length) : cnts (ks.getD k []) ≤ cnts (muL ks l) := by
  unfold okUse at h
  rw [Bool.and_eq_true] at h
  refine usL_sees l _ hp h.1 ?_
  have hlen := usL_len old.rules.length l (List.replicate (kids right).length 0)
  rw [List.length_replicate] at hlen
  have h2 := h.2
  simp only [List.all_eq_true, decide_eq_true_eq] at h2
  have h3 := h2 _ (List.getElem_mem (l := (usL (old.rules.length : Int) l (List.replicate (kids right).length 0)).2) (n := k) (by omega))
  rw [List.getD_eq_getElem?_getD, List.getElem?_eq_getElem (by omega), Option.getD_some, h3, List.getD_eq_getElem?_getD, List.getElem?_replicate]
  rw [if_pos hk]
  decide
theorem okT_pl {old : Gram} {s : Step} (hs : (stepFault old s).code = 0) (hp : ∀ l ∈ s.frags, plL l = true) : ∀ (n : Nat) (t : Tree) (v : Int), cnt t ≤ n → fits s.g t v = true → cnts (vaT s t) ≤ 400 → okT s t
  | 0, t, _, hn, _, _ => by have := cnt_pos t; omega
  | n + 1, t, v, hn, hf, hc => by
    obtain ⟨r, hr, e1, e2, e3, e4, _⟩ := fits_parts hf
    have hu := step_uses hs hr
    have hpl : plL (s.frags.getD r []) = true := by
      rw [List.getD_eq_getElem?_getD]
      by_cases q : r < s.frags.length
      · rw [List.getElem?_eq_getElem q]; exact hp _ (List.getElem_mem q)
      · rw [List.getElem?_eq_none (by omega)]; rfl
    rw [vaT_eq] at hc
    rw [okT_eq]
    rw [e1, Int.toNat_natCast] at hc ⊢
    refine ⟨(okL_iff s _).2 fun x hx => ?_, mkL_pl hpl hc⟩
    obtain ⟨k, hk, rfl⟩ := List.mem_iff_getElem.1 hx
    have h1 := use_kid hu hpl (vaL s t.kids) (k := k) (by omega)
    rw [List.getD_eq_getElem?_getD, List.getElem?_eq_getElem (by rw [vaL_len]; exact hk), Option.getD_some, vaL_get s t.kids k hk] at h1
    refine okT_pl hs hp n _ _ ?_ (fitss_at e4 hk (by omega)) (by omega)
    have := cnts_mem hx; rw [cnt_eq] at hn; omega

/-! ### The trees are the same -/
structure Starts (g h : Gram) (D : Int → List Tree → Prop) (W : Int → List Tree → List Int) (w : List Int) : Prop where
  one : ∀ l, D h.start l → ∃ x, l = [x] ∧ fits g x g.start = true ∧ W h.start l = wordT g x
  all : ∀ x, fits g x g.start = true → wordT g x = w → D h.start [x]
def backF (s : Step) (t : Tree) : Tree := (vaT s t).headD t
section
variable {g : Gram} {s : Step} {w : List Int} {D : Int → List Tree → Prop} {W : Int → List Tree → List Int} {μ : Int → List Tree → Nat}
theorem backF_is (hL : Leads s.g s.frags D W μ) (hS : Starts g s.g D W w) {t : Tree} (ht : IsW s.g w t) : vaT s t = [backF s t] ∧ IsW g w (backF s t) := by
  obtain ⟨h1, h2⟩ := lead_sound hL _ t _ (Nat.le_refl _) ht.1
  obtain ⟨x, e1, e2, e3⟩ := hS.one _ h1
  unfold backF
  rw [e1]
  refine ⟨rfl, e2, ?_⟩
  rw [← ht.2, ← h2, e3]; rfl
theorem backF_inj (hL : Leads s.g s.frags D W μ) (hS : Starts g s.g D W w) {t t' : Tree} (ht : IsW s.g w t) (ht' : IsW s.g w t') (h : backF s t = backF s t') : t = t' :=
  lead_inj hL _ t t' _ (Nat.le_refl _) ht.1 ht'.1 (by rw [(backF_is hL hS ht).1, (backF_is hL hS ht').1, h])
theorem backF_surj (hh : s.g.ok) (hL : Leads s.g s.frags D W μ) (hS : Starts g s.g D W w) {x : Tree} (hx : IsW g w x) : ∃ t, IsW s.g w t ∧ backF s t = x := by
  obtain ⟨t, h1, h2⟩ := lead_surj hh hL _ _ _ hh.start0 hh.start (Nat.lt_succ_self _) (hS.all x hx.1 hx.2)
  obtain ⟨_, k2⟩ := lead_sound hL _ t _ (Nat.le_refl _) h1
  have hd := hS.all x hx.1 hx.2
  obtain ⟨y, e1, e2, e3⟩ := hS.one _ hd
  have e : x = y := by simpa using e1
  refine ⟨t, ⟨h1, ?_⟩, by unfold backF; rw [h2]; rfl⟩
  rw [← k2, h2, e3, ← e, hx.2]
theorem lead_cnt (hg : g.ok) (hh : s.g.ok) (hL : Leads s.g s.frags D W μ) (hS : Starts g s.g D W w) : cntF s.g w = cntF g w :=
  cntF_same hg hh (backF s) (fun x hx => (backF_is hL hS hx).2) (fun x y hx hy e => backF_inj hL hS hx hy e) (fun y hy => backF_surj hh hL hS hy)
theorem lead_back (hs : (stepFault g s).code = 0) (hL : Leads s.g s.frags D W μ) (hS : Starts g s.g D W w) {l : List Tree} (hl : ListOk g w l) (hok : ∀ t, IsW s.g w t → cnt t ≤ 400 → cnt (backF s t) ≤ 400 → okT s t) {t : Tree} (ht : IsW s.g w t) (hc : cnt t ≤ 400) : backS g s t = (backF s t, ⟨0, 0⟩) := by
  obtain ⟨hg, hh, _⟩ := stepFault_zero hs
  obtain ⟨h1, h2⟩ := backF_is hL hS ht
  have h3 := (hl.mem (hl.all h2)).2
  have h4 : treeFault s.g t s.g.start = ⟨0, 0⟩ := by unfold treeFault; rw [hh.fault, if_pos rfl, if_pos hc, if_pos ht.1]
  have h5 : treeFault g (backF s t) g.start = ⟨0, 0⟩ := by unfold treeFault; rw [hg.fault, if_pos rfl, if_pos h3, if_pos h2.1]
  unfold backS
  rw [if_pos hs, h4, if_pos rfl, valT_is t (hok t ht hc h3), h1]
  dsimp only
  rw [h5, if_pos rfl]
theorem lead_lists (hg : g.ok) (hh : s.g.ok) (hL : Leads s.g s.frags D W μ) (hS : Starts g s.g D W w) {l m : List Tree} (hl : ListOk g w l) (hm : ListOk s.g w m) : sortT (m.map (backF s)) = sortT l :=
  lists_same hl hm (backF s) (fun x hx => (backF_is hL hS hx).2) (fun x y hx hy e => backF_inj hL hS hx hy e) (lead_cnt hg hh hL hS)
end

/-! ### What sameTrees asks -/
def SameOk (g : Gram) (s : Step) (w : List Int) (but : Bool) : Prop := (chF g w).code = 0 → (chF s.g w).code = 0 ∧
  (but = true → cntF s.g w = 0 ∧ cntF g w = s.empty.length) ∧
  (but = false → cntF g w = cntF s.g w ∧ ((fListF g w).2.code = 0 → (fListF s.g w).2.code = 0 → (∀ t ∈ (fListF s.g w).1, backS g s t = (backF s t, ⟨0, 0⟩)) ∧ sortT ((fListF s.g w).1.map (backF s)) = sortT (fListF g w).1))
theorem chF_new {g h : Gram} {w : List Int} (hc : ChOk g w) (hh : h.ok) (ht : h.terms = g.terms) (hcy : cycL h = []) : ChOk h w := ⟨hh, hcy, hc.len, fun x hx => by rw [ht]; exact hc.syms x hx⟩
theorem wBad_ok {t : Int} : ∀ {w : List Int} {i : Nat}, (∀ x ∈ w, 0 ≤ x ∧ x < t) → wBad t w i = none
  | [], _, _ => rfl
  | y :: r, i, h => by
    rw [wBad, if_neg (by have := h y (by simp); omega)]
    exact wBad_ok fun x hx => h x (by simp [hx])
theorem ChOk.fault {g : Gram} {w : List Int} (h : ChOk g w) : chF g w = ⟨0, 0⟩ := by
  unfold chF
  rw [h.ok.fault, if_pos rfl, if_neg (by have := h.len; omega), wBad_ok h.syms]
  simp [h.cyc]
theorem same_ok {g : Gram} {s : Step} {w : List Int} {D : Int → List Tree → Prop} {W : Int → List Tree → List Int} {μ : Int → List Tree → Nat} (hs : (stepFault g s).code = 0) (ht : s.g.terms = g.terms) (hcy : cycL g = [] → cycL s.g = []) (hL : Leads s.g s.frags D W μ) (hS : Starts g s.g D W w)
    (hok : ∀ t, IsW s.g w t → cnt t ≤ 400 → cnt (backF s t) ≤ 400 → okT s t) : SameOk g s w false := fun hc => by
  obtain ⟨hg, hh, _⟩ := stepFault_zero hs
  obtain ⟨hC, _⟩ := chF_ok hc
  refine ⟨by rw [(chF_new hC hh ht (hcy hC.cyc)).fault], fun h => (by cases h), fun _ => ⟨(lead_cnt hg hh hL hS).symm, fun h1 h2 => ?_⟩⟩
  have hl := fList_ok h1
  have hm := fList_ok h2
  refine ⟨fun t ht => ?_, lead_lists hg hh hL hS hl hm⟩
  obtain ⟨q1, q2⟩ := hm.mem ht
  exact lead_back hs hL hS hl hok q1 q2
theorem okT_same {g : Gram} {s : Step} {w : List Int} {D : Int → List Tree → Prop} {W : Int → List Tree → List Int} {μ : Int → List Tree → Nat} (hs : (stepFault g s).code = 0) (hp : ∀ l ∈ s.frags, plL l = true) (hL : Leads s.g s.frags D W μ) (hS : Starts g s.g D W w) (t : Tree) (ht : IsW s.g w t) (_ : cnt t ≤ 400) (hb : cnt (backF s t) ≤ 400) : okT s t :=
  okT_pl hs hp _ t _ (Nat.le_refl _) ht.1 (by rw [(backF_is hL hS ht).1]; simp only [cnts]; omega)
end Go.Proofs.Yticnpbopelgmiaa
namespace Go.Proofs.Yticnpbopelgmiaa
open Go.RowKit

/-! ### Nothing, and what leads to what -/
/-! ### Rows of one tree -/
def sing (xs : List Tree) : List (List Tree) := xs.map fun x => [x]
theorem sing_len (xs : List Tree) : (sing xs).length = xs.length := by simp [sing]
def EL (E : Int → Tree → Prop) (xs : List Tree) (us : List Int) : Prop := xs.length = us.length ∧ ∀ (i : Nat) (h1 : i < xs.length) (h2 : i < us.length), E us[i] xs[i]
def oneD (E : Int → Tree → Prop) (v : Int) (l : List Tree) : Prop := ∃ x, l = [x] ∧ E v x
def sgW (g : Gram) (_ : Int) (l : List Tree) : List Int := l.flatMap (wordT g)
theorem DL_one {E : Int → Tree → Prop} : ∀ {ls : List (List Tree)} {us : List Int}, DL (oneD E) ls us → ∃ xs, ls = sing xs ∧ EL E xs us
  | [], [], _ => ⟨[], rfl, rfl, fun i h1 _ => by simp at h1⟩
  | l :: ls, v :: vs, h => by
    obtain ⟨⟨x, rfl, hx⟩, h2⟩ := h
    obtain ⟨xs, rfl, k1, k2⟩ := DL_one h2
    refine ⟨x :: xs, rfl, by simp [k1], fun i h1 h2 => ?_⟩
    cases i with
    | zero => exact hx
    | succ i => exact k2 i (by simpa using h1) (by simpa using h2)
  | [], _ :: _, h => nomatch h
  | _ :: _, [], h => nomatch h
theorem one_DL {E : Int → Tree → Prop} {xs : List Tree} {us : List Int} (h : EL E xs us) : DL (oneD E) (sing xs) us :=
  DL_of (by rw [sing_len, h.1]) fun i h1 h2 => ⟨xs[i]'(by rw [sing_len] at h1; exact h1), by simp [sing], h.2 i _ h2⟩
theorem catW_one (g : Gram) : ∀ (ss : List Int) (xs : List Tree), catW (sgW g) ss (sing xs) = wordL g ss xs
  | [], xs => by rw [catW_nil, wordL_nil]
  | s :: ss, xs => by
    by_cases hs : s < 0
    · rw [catW_neg hs, wordL_neg hs, catW_one g ss xs]
    · cases xs with
      | nil => rw [wordL_out hs, ← catW_one g ss []]; exact catW_out hs ss
      | cons x xs =>
        rw [wordL_pos hs, ← catW_one g ss xs]
        show catW (sgW g) (s :: ss) ([x] :: sing xs) = _
        rw [catW_pos hs]
        simp [sgW]
structure LeadsT (g h : Gram) (F : List (List Frag)) (E : Int → Tree → Prop) : Prop where
  sound : ∀ (r : Nat) (hr : r < h.rules.length) (xs : List Tree), EL E xs (kids h.rules[r].right) → ∃ x, muL (sing xs) (F.getD r []) = [x] ∧ E h.rules[r].left x ∧ wordT g x = wordL g h.rules[r].right xs
  inj : ∀ (r r' : Nat) (hr : r < h.rules.length) (hr' : r' < h.rules.length) (xs xs' : List Tree), h.rules[r].left = h.rules[r'].left → EL E xs (kids h.rules[r].right) → EL E xs' (kids h.rules[r'].right) → muL (sing xs) (F.getD r []) = muL (sing xs') (F.getD r' []) → r = r' ∧ xs = xs'
  surj : ∀ (v : Int) (x : Tree), 0 ≤ v → v < h.vars → E v x → ∃ (r : Nat) (hr : r < h.rules.length) (xs : List Tree), h.rules[r].left = v ∧ EL E xs (kids h.rules[r].right) ∧ muL (sing xs) (F.getD r []) = [x] ∧ ∀ y ∈ xs, cnt y < cnt x
theorem LeadsT.leads {g h : Gram} {F : List (List Frag)} {E : Int → Tree → Prop} (H : LeadsT g h F E) : Leads h F (oneD E) (sgW g) (fun _ l => cnts l) where
  sound r hr ls hd := by
    obtain ⟨xs, rfl, hx⟩ := DL_one hd
    obtain ⟨x, e1, e2, e3⟩ := H.sound r hr xs hx
    rw [e1, catW_one]
    exact ⟨⟨x, rfl, e2⟩, by rw [← e3]; simp [sgW]⟩
  inj r r' hr hr' ls ls' hl hd hd' he := by
    obtain ⟨xs, rfl, hx⟩ := DL_one hd
    obtain ⟨xs', rfl, hx'⟩ := DL_one hd'
    obtain ⟨h1, h2⟩ := H.inj r r' hr hr' xs xs' hl hx hx' he
    exact ⟨h1, by rw [h2]⟩
  surj v l h0 h1 hd := by
    obtain ⟨x, rfl, hx⟩ := hd
    obtain ⟨r, hr, xs, e1, e2, e3, e4⟩ := H.surj v x h0 h1 hx
    refine ⟨r, hr, sing xs, e1, one_DL e2, e3.symm, fun i h1 h2 => ?_⟩
    rw [sing_len] at h1
    have := e4 _ (List.getElem_mem h1)
    simp only [sing, List.getElem_map, cnts]
    omega
theorem starts_one {g h : Gram} {E : Int → Tree → Prop} {w : List Int} (h1 : ∀ x, E h.start x → fits g x g.start = true) (h2 : ∀ x, fits g x g.start = true → wordT g x = w → E h.start x) : Starts g h (oneD E) (sgW g) w where
  one l hl := by
    obtain ⟨x, rfl, hx⟩ := hl
    exact ⟨x, rfl, h1 x hx, by simp [sgW]⟩
  all x hx hw := ⟨x, rfl, h2 x hx hw⟩

/-! ### The template of a rule that stays -/
end Go.Proofs.Yticnpbopelgmiaa
