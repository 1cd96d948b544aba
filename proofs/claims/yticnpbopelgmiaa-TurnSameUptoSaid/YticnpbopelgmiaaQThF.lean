/-
  A grammar whose nonterminals have a rank that falls is not cyclic. Trees led back, plain: what a tree of a new grammar makes, whatever its size; a step whose rows are as told leads the trees back one for one. Trees led back, plain: the laws '..Same' of a step that leads back. Trees led back, plain: steps each of whose rows is one tree; what may be nothing; a grammar that goes where another goes is no more cyclic.
-/
import Derived.Test.YticnpbopelgmiaaQChartP
import Derived.Test.YticnpbopelgmiaaSaP
import Derived.Test.YticnpbopelgmiaaQFrQ
import Derived.Test.YticnpbopelgmiaaQChartJ
import Derived.Test.YticnpbopelgmiaaQP1
import Derived.Test.YticnpbopelgmiaaFrG
set_option linter.unusedVariables false
set_option linter.unusedSimpArgs false
set_option linter.unusedSectionVars false
namespace Go.Proofs.Yticnpbopelgmiaa
open Go.RowKit

def lowB (n : Nat) (P : Int → Bool) : List Bool := (List.range n).map fun (k : Nat) => P (k : Int)
theorem lowB_has {n : Nat} {P : Int → Bool} {u : Int} : has (lowB n P) u = true ↔ 0 ≤ u ∧ u < n ∧ P u = true := by
  unfold has lowB
  by_cases h : 0 ≤ u
  · rw [decide_eq_true h, Bool.true_and, List.getD_eq_getElem?_getD]
    by_cases h2 : u.toNat < n
    · rw [List.getElem?_map, List.getElem?_range h2]
      simp only [Option.map_some, Option.getD_some]
      rw [show ((u.toNat : Nat) : Int) = u by omega]
      exact ⟨fun q => ⟨h, by omega, q⟩, fun q => q.2.2⟩
    · rw [List.getElem?_eq_none (by simpa using h2)]
      simp only [Option.getD_none]
      exact ⟨fun q => (by cases q), fun q => by omega⟩
  · rw [decide_eq_false h, Bool.false_and]
    exact ⟨fun q => (by cases q), fun q => absurd q.1 h⟩
theorem acyclic {h : Gram} (hh : h.ok) (rk : Int → Nat) (hrk : ∀ v u, 0 ≤ v → v < h.vars → u ∈ stepA h v → rk u < rk v) : cycL h = [] := by
  rw [show cycL h = selfN (ledM false h) h.vars.toNat by unfold cycL; rw [if_pos (by rw [hh.fault])]]
  refine List.eq_nil_iff_forall_not_mem.2 fun v hv => ?_
  unfold selfN at hv
  obtain ⟨k, hk, rfl⟩ := List.mem_map.1 hv
  obtain ⟨h1, h2⟩ := List.mem_filter.1 hk
  have h1 := List.mem_range.1 h1
  have hw := led_whole (c := false) hh (v := (k : Int)) (by omega) (by omega)
  have hlen := (ledM_sq (c := false) hh).at (u := (k : Int)) (by omega) (by omega)
  have hs := hw.least (lowB h.vars.toNat fun u => decide (rk u < rk k)) (by simp [lowB, hlen]) (fun u hu => by
    obtain ⟨s1, s2⟩ := step_in hh (v := (k : Int)) (by omega) (by omega) hu
    exact lowB_has.2 ⟨s1, by omega, decide_eq_true (hrk _ _ (by omega) (by omega) hu)⟩) (fun u hu x hx => by
    obtain ⟨t1, t2, t3⟩ := lowB_has.1 hu
    obtain ⟨s1, s2⟩ := step_in hh t1 (by omega) hx
    have := of_decide_eq_true t3
    have := hrk u x t1 (by omega) hx
    exact lowB_has.2 ⟨s1, by omega, decide_eq_true (by omega)⟩)
  have := lowB_has.1 (hs.sub _ h2)
  have := of_decide_eq_true this.2.2
  omega
end Go.Proofs.Yticnpbopelgmiaa
namespace Go.Proofs.Yticnpbopelgmiaa
open Go.RowKit

mutual
def muF (kids : List (List Tree)) : Frag → List Tree
  | .mk o n l => if o = 1 then [.mk n (muL kids l)] else if o = 2 then kids.getD n.toNat [] else if o = 3 then [.mk (-1) []] else if o = 4 then fillL (muL kids l) (kids.getD n.toNat []) else []
def muL (kids : List (List Tree)) : List Frag → List Tree
  | [] => []
  | x :: r => muF kids x ++ muL kids r
end
mutual
def vaT (s : Step) : Tree → List Tree
  | .mk r ks => muL (vaL s ks) (s.frags.getD r.toNat [])
def vaL (s : Step) : List Tree → List (List Tree)
  | [] => []
  | x :: l => vaT s x :: vaL s l
end
theorem muF_eq (kids : List (List Tree)) (x : Frag) : muF kids x = if x.op = 1 then [.mk x.n (muL kids x.l)] else if x.op = 2 then kids.getD x.n.toNat [] else if x.op = 3 then [.mk (-1) []] else if x.op = 4 then fillL (muL kids x.l) (kids.getD x.n.toNat []) else [] := by cases x; rw [muF]; rfl
theorem vaT_eq (s : Step) (x : Tree) : vaT s x = muL (vaL s x.kids) (s.frags.getD x.rule.toNat []) := by cases x; rw [vaT]; rfl
theorem vaL_len (s : Step) : ∀ l : List Tree, (vaL s l).length = l.length
  | [] => rfl
  | x :: l => by rw [vaL, List.length_cons, List.length_cons, vaL_len s l]
theorem muL_append (kids : List (List Tree)) : ∀ a b : List Frag, muL kids (a ++ b) = muL kids a ++ muL kids b
  | [], b => rfl
  | x :: a, b => by rw [List.cons_append, muL, muL, muL_append kids a b, List.append_assoc]

theorem fitss_all {g : Gram} : ∀ {k : List Tree} {vs : List Int}, k.length = vs.length → (∀ (q : Nat) (h1 : q < k.length) (h2 : q < vs.length), fits g k[q] vs[q] = true) → fitss g k vs = true
  | [], _, _, _ => by rw [fitss.eq_def]
  | _ :: _, [], h, _ => by simp at h
  | x :: k, v :: vs, h, H => by
    rw [fitss, Bool.and_eq_true]
    exact ⟨H 0 (by simp) (by simp), fitss_all (by simpa using h) fun q h1 h2 => H (q + 1) (by simpa using h1) (by simpa using h2)⟩
theorem fits_mk {g : Gram} {r : Nat} (hr : r < g.rules.length) {v : Int} {xs : List Tree} (hl : g.rules[r].left = v) (hk : xs.length = (kids g.rules[r].right).length) (hf : fitss g xs (kids g.rules[r].right) = true) : fits g (.mk (r : Int) xs) v = true ∧ wordT g (.mk (r : Int) xs) = wordL g g.rules[r].right xs := by
  refine ⟨?_, ?_⟩
  · rw [fits_eq]
    show (match (if 0 ≤ (r : Int) then g.rules[((r : Nat) : Int).toNat]? else none) with | none => _ | some ru => _) = true
    rw [if_pos (by omega), Int.toNat_natCast, List.getElem?_eq_getElem hr]
    simp only [hl, hk, Tree.kids, hf, decide_true, Bool.true_and]
  · rw [wordT_eq]
    show wordL g ((g.rules[((r : Nat) : Int).toNat]?).getD ⟨0, []⟩).right xs = _
    rw [Int.toNat_natCast, List.getElem?_eq_getElem hr]; rfl

/-! ### Every row on the way is small enough -/
mutual
def okT (s : Step) : Tree → Prop
  | .mk r ks => okL s ks ∧ mkL (vaL s ks) (s.frags.getD r.toNat []) = some (muL (vaL s ks) (s.frags.getD r.toNat []))
def okL (s : Step) : List Tree → Prop
  | [] => True
  | x :: l => okT s x ∧ okL s l
end
theorem okT_eq (s : Step) (x : Tree) : okT s x ↔ okL s x.kids ∧ mkL (vaL s x.kids) (s.frags.getD x.rule.toNat []) = some (muL (vaL s x.kids) (s.frags.getD x.rule.toNat [])) := by cases x; rw [okT]; exact Iff.rfl
theorem okL_iff (s : Step) : ∀ l : List Tree, okL s l ↔ ∀ x ∈ l, okT s x
  | [] => by simp [okL]
  | x :: l => by rw [okL, okL_iff s l]; simp
mutual
theorem valT_is {s : Step} : ∀ x : Tree, okT s x → valT s x = some (vaT s x)
  | .mk r ks, h => by
    rw [okT] at h
    rw [valT, valL_is ks h.1, vaT]
    exact h.2
theorem valL_is {s : Step} : ∀ l : List Tree, okL s l → valL s l = some (vaL s l)
  | [], _ => rfl
  | x :: l, h => by
    rw [okL] at h
    rw [valL, valT_is x h.1, valL_is l h.2, vaL]
    rfl
end

/-! ### Rows -/
section
variable (D : Int → List Tree → Prop) (W : Int → List Tree → List Int)
def DL : List (List Tree) → List Int → Prop
  | [], [] => True
  | l :: ls, v :: vs => D v l ∧ DL ls vs
  | _, _ => False
def catW : List Int → List (List Tree) → List Int
  | [], _ => []
  | s :: r, ls => if s < 0 then (-1 - s) :: catW r ls else match ls with
    | l :: ls => W s l ++ catW r ls
    | [] => catW r []
theorem catW_nil {W : Int → List Tree → List Int} (ls : List (List Tree)) : catW W [] ls = [] := by rw [catW.eq_def]
theorem catW_neg {W : Int → List Tree → List Int} {s : Int} (h : s < 0) (r : List Int) (ls : List (List Tree)) : catW W (s :: r) ls = (-1 - s) :: catW W r ls := by rw [catW.eq_def]; simp [h]
theorem catW_pos {W : Int → List Tree → List Int} {s : Int} (h : ¬ s < 0) (r : List Int) (l : List Tree) (ls : List (List Tree)) : catW W (s :: r) (l :: ls) = W s l ++ catW W r ls := by rw [catW.eq_def]; simp [h]
theorem catW_out {W : Int → List Tree → List Int} {s : Int} (h : ¬ s < 0) (r : List Int) : catW W (s :: r) [] = catW W r [] := by rw [catW.eq_def]; simp [h]
theorem DL_len {D : Int → List Tree → Prop} : ∀ {ls : List (List Tree)} {vs : List Int}, DL D ls vs → ls.length = vs.length
  | [], [], _ => rfl
  | l :: ls, v :: vs, h => by rw [List.length_cons, List.length_cons, DL_len h.2]
  | [], _ :: _, h => nomatch h
  | _ :: _, [], h => nomatch h
theorem DL_at {D : Int → List Tree → Prop} : ∀ {ls : List (List Tree)} {vs : List Int}, DL D ls vs → ∀ (i : Nat) (h1 : i < ls.length) (h2 : i < vs.length), D vs[i] ls[i]
  | [], [], _, i, h1, _ => by simp at h1
  | l :: ls, v :: vs, h, 0, _, _ => h.1
  | l :: ls, v :: vs, h, i + 1, h1, h2 => DL_at h.2 i (by simpa using h1) (by simpa using h2)
  | [], _ :: _, h, _, _, _ => nomatch h
  | _ :: _, [], h, _, _, _ => nomatch h
theorem DL_of {D : Int → List Tree → Prop} : ∀ {ls : List (List Tree)} {vs : List Int}, ls.length = vs.length → (∀ (i : Nat) (h1 : i < ls.length) (h2 : i < vs.length), D vs[i] ls[i]) → DL D ls vs
  | [], [], _, _ => trivial
  | l :: ls, v :: vs, h, H => ⟨H 0 (by simp) (by simp), DL_of (by simpa using h) fun i h1 h2 => H (i + 1) (by simpa using h1) (by simpa using h2)⟩
  | [], _ :: _, h, _ => by simp at h
  | _ :: _, [], h, _ => by simp at h
end
/-- A step leads back, row for row. -/
structure Leads (h : Gram) (F : List (List Frag)) (D : Int → List Tree → Prop) (W : Int → List Tree → List Int) (μ : Int → List Tree → Nat) : Prop where
  sound : ∀ (r : Nat) (hr : r < h.rules.length) (ls : List (List Tree)), DL D ls (kids h.rules[r].right) → D h.rules[r].left (muL ls (F.getD r [])) ∧ W h.rules[r].left (muL ls (F.getD r [])) = catW W h.rules[r].right ls
  inj : ∀ (r r' : Nat) (hr : r < h.rules.length) (hr' : r' < h.rules.length) (ls ls' : List (List Tree)), h.rules[r].left = h.rules[r'].left → DL D ls (kids h.rules[r].right) → DL D ls' (kids h.rules[r'].right) → muL ls (F.getD r []) = muL ls' (F.getD r' []) → r = r' ∧ ls = ls'
  surj : ∀ (v : Int) (l : List Tree), 0 ≤ v → v < h.vars → D v l → ∃ (r : Nat) (hr : r < h.rules.length) (ls : List (List Tree)), h.rules[r].left = v ∧ DL D ls (kids h.rules[r].right) ∧ l = muL ls (F.getD r []) ∧ ∀ (i : Nat) (h1 : i < ls.length) (h2 : i < (kids h.rules[r].right).length), μ (kids h.rules[r].right)[i] ls[i] < μ v l

section
variable {h : Gram} {s : Step} {D : Int → List Tree → Prop} {W : Int → List Tree → List Int} {μ : Int → List Tree → Nat}
theorem vaL_get (s : Step) : ∀ (l : List Tree) (i : Nat) (h1 : i < l.length) (h2 : i < (vaL s l).length), (vaL s l)[i] = vaT s l[i]
  | x :: l, 0, _, _ => rfl
  | x :: l, i + 1, h1, h2 => by
    simp only [vaL, List.getElem_cons_succ]
    exact vaL_get s l i (by simpa using h1) _
theorem catW_va (g : Gram) (s : Step) : ∀ (r : List Int) (ks : List Tree), (∀ (i : Nat) (h1 : i < ks.length) (h2 : i < (kids r).length), W (kids r)[i] (vaT s ks[i]) = wordT g ks[i]) → catW W r (vaL s ks) = wordL g r ks
  | [], ks, _ => by rw [catW_nil, wordL_nil]
  | x :: r, ks, H => by
    by_cases hx : x < 0
    · rw [catW_neg hx, wordL_neg hx, catW_va g s r ks (by rw [kidsN hx] at H; exact H)]
    · rw [kidsP hx] at H
      cases ks with
      | nil => rw [vaL, wordL_out hx, catW_out hx]; exact catW_va g s r [] (fun i h1 _ => by simp at h1)
      | cons t ks =>
        rw [vaL, wordL_pos hx, catW_pos hx]
        have h0 := H 0 (by simp) (by simp)
        simp only [List.getElem_cons_zero] at h0
        rw [h0, catW_va g s r ks (fun i h1 h2 => by
          have := H (i + 1) (by simpa using h1) (by simpa using h2)
          simpa only [List.getElem_cons_succ] using this)]
theorem DL_va {ks : List Tree} (hf : ∀ (t : Tree) (v : Int), t ∈ ks → fits h t v = true → D v (vaT s t)) : ∀ (l : List Tree) (vs : List Int), (∀ t ∈ l, t ∈ ks) → l.length = vs.length → fitss h l vs = true → DL D (vaL s l) vs := fun l vs hs hl hfs => by
  refine DL_of (by rw [vaL_len, hl]) fun i h1 h2 => ?_
  rw [vaL_len] at h1
  rw [vaL_get s l i h1]
  exact hf _ _ (hs _ (List.getElem_mem h1)) (fitss_at hfs h1 h2)
theorem lead_sound (hL : Leads h s.frags D W μ) : ∀ (n : Nat) (t : Tree) (v : Int), cnt t ≤ n → fits h t v = true → D v (vaT s t) ∧ W v (vaT s t) = wordT h t
  | 0, t, _, hn, _ => by have := cnt_pos t; omega
  | n + 1, t, v, hn, hf => by
    obtain ⟨r, hr, e1, e2, e3, e4, e5⟩ := fits_parts hf
    have ih : ∀ (x : Tree) (u : Int), x ∈ t.kids → fits h x u = true → D u (vaT s x) ∧ W u (vaT s x) = wordT h x := fun x u hx hfx =>
      lead_sound hL n x u (by have := cnts_mem hx; rw [cnt_eq] at hn; omega) hfx
    have hd : DL D (vaL s t.kids) (kids h.rules[r].right) := DL_va (ks := t.kids) (fun x u hx hfx => (ih x u hx hfx).1) _ _ (fun _ q => q) e3.symm e4
    obtain ⟨k1, k2⟩ := hL.sound r hr _ hd
    rw [vaT_eq, e1, Int.toNat_natCast, ← e2]
    refine ⟨k1, ?_⟩
    rw [k2, e5]
    exact catW_va h s _ _ fun i h1 h2 => (ih _ _ (List.getElem_mem h1) (fitss_at e4 h1 h2)).2
theorem lead_inj (hL : Leads h s.frags D W μ) : ∀ (n : Nat) (t t' : Tree) (v : Int), cnt t ≤ n → fits h t v = true → fits h t' v = true → vaT s t = vaT s t' → t = t'
  | 0, t, _, _, hn, _, _, _ => by have := cnt_pos t; omega
  | n + 1, t, t', v, hn, hf, hf', he => by
    obtain ⟨r, hr, e1, e2, e3, e4, _⟩ := fits_parts hf
    obtain ⟨r', hr', e1', e2', e3', e4', _⟩ := fits_parts hf'
    have hd : DL D (vaL s t.kids) (kids h.rules[r].right) := DL_va (ks := t.kids) (fun x u hx hfx => (lead_sound hL _ x u (Nat.le_refl _) hfx).1) _ _ (fun _ q => q) e3.symm e4
    have hd' : DL D (vaL s t'.kids) (kids h.rules[r'].right) := DL_va (ks := t'.kids) (fun x u hx hfx => (lead_sound hL _ x u (Nat.le_refl _) hfx).1) _ _ (fun _ q => q) e3'.symm e4'
    rw [vaT_eq, vaT_eq, e1, e1', Int.toNat_natCast, Int.toNat_natCast] at he
    obtain ⟨q1, q2⟩ := hL.inj r r' hr hr' _ _ (by rw [e2, e2']) hd hd' he
    subst q1
    have hk : t.kids = t'.kids := by
      have hl : t.kids.length = t'.kids.length := by omega
      refine List.ext_getElem hl fun i h1 h2 => ?_
      refine lead_inj hL n _ _ ((kids h.rules[r].right)[i]'(by omega)) (by have := cnts_mem (List.getElem_mem h1); rw [cnt_eq] at hn; omega) (fitss_at e4 h1 (by omega)) (fitss_at e4' h2 (by omega)) ?_
      have a1 := vaL_get s t.kids i h1 (by rw [vaL_len]; exact h1)
      have a2 := vaL_get s t'.kids i h2 (by rw [vaL_len]; exact h2)
      rw [← a1, ← a2]
      simp only [q2]
    rw [Tree.eta t, Tree.eta t', e1, e1', hk]
theorem lead_surj (hh : h.ok) (hL : Leads h s.frags D W μ) : ∀ (n : Nat) (v : Int) (l : List Tree), 0 ≤ v → v < h.vars → μ v l < n → D v l → ∃ t, fits h t v = true ∧ vaT s t = l
  | 0, _, _, _, _, hn, _ => by omega
  | n + 1, v, l, h0, h1, hn, hd => by
    obtain ⟨r, hr, ls, e1, e2, e3, e4⟩ := hL.surj v l h0 h1 hd
    have hlen := DL_len e2
    have hex : ∀ i, ∀ hi : i < ls.length, ∃ t, fits h t ((kids h.rules[r].right)[i]'(by omega)) = true ∧ vaT s t = ls[i] := fun i hi => by
      have hk := List.getElem_mem (l := kids h.rules[r].right) (n := i) (by omega)
      obtain ⟨q1, q2⟩ := List.mem_filter.1 hk
      have q2 := of_decide_eq_true q2
      exact lead_surj hh hL n _ _ (by omega) (hh.hi _ (List.getElem_mem hr) _ q1) (by have := e4 i hi (by omega); omega) (DL_at e2 i hi (by omega))
    let ks : List Tree := (List.range ls.length).attach.map fun i => (hex i.1 (List.mem_range.1 i.2)).choose
    have hkl : ks.length = ls.length := by simp [ks]
    have hks : ∀ i (hi : i < ks.length), fits h ks[i] ((kids h.rules[r].right)[i]'(by omega)) = true ∧ vaT s ks[i] = ls[i]'(by omega) := fun i hi => by
      have := (hex i (by omega)).choose_spec
      have e : ks[i] = (hex i (by omega)).choose := by simp [ks]
      rw [e]; exact this
    have hv : vaL s ks = ls := List.ext_getElem (by rw [vaL_len, hkl]) fun i q1 q2 => by
      rw [vaL_get s ks i (by omega)]; exact (hks i (by omega)).2
    refine ⟨.mk (r : Int) ks, ?_, ?_⟩
    · exact (fits_mk hr e1 (by omega) (fitss_all (by omega) fun i q1 q2 => (hks i q1).1)).1
    · rw [vaT, hv, Int.toNat_natCast, e3]
end
end Go.Proofs.Yticnpbopelgmiaa
namespace Go.Proofs.Yticnpbopelgmiaa
open Go.RowKit

/-! ### Templates without gaps -/
/-! ### The trees are the same -/
structure Starts (g h : Gram) (D : Int → List Tree → Prop) (W : Int → List Tree → List Int) (w : List Int) : Prop where
  one : ∀ l, D h.start l → ∃ x, l = [x] ∧ fits g x g.start = true ∧ W h.start l = wordT g x
  all : ∀ x, fits g x g.start = true → wordT g x = w → D h.start [x]
def backF (s : Step) (t : Tree) : Tree := (vaT s t).headD t
section
variable {g : Gram} {s : Step} {w : List Int} {D : Int → List Tree → Prop} {W : Int → List Tree → List Int} {μ : Int → List Tree → Nat}
theorem backF_is (hL : Leads s.g s.frags D W μ) (hS : Starts g s.g D W w) {t : Tree} (ht : IsW s.g w t) : vaT s t = [backF s t] ∧ IsW g w (backF s t) := by
  obtain ⟨h1, h2⟩ := lead_sound hL _ t _ (Nat.le_refl _) ht.1
  obtain ⟨x, e1, e2, e3⟩ := hS.one _ h1
  unfold backF
  rw [e1]
  refine ⟨rfl, e2, ?_⟩
  rw [← ht.2, ← h2, e3]; rfl
theorem backF_inj (hL : Leads s.g s.frags D W μ) (hS : Starts g s.g D W w) {t t' : Tree} (ht : IsW s.g w t) (ht' : IsW s.g w t') (h : backF s t = backF s t') : t = t' :=
  lead_inj hL _ t t' _ (Nat.le_refl _) ht.1 ht'.1 (by rw [(backF_is hL hS ht).1, (backF_is hL hS ht').1, h])
theorem backF_surj (hh : s.g.ok) (hL : Leads s.g s.frags D W μ) (hS : Starts g s.g D W w) {x : Tree} (hx : IsW g w x) : ∃ t, IsW s.g w t ∧ backF s t = x := by
  obtain ⟨t, h1, h2⟩ := lead_surj hh hL _ _ _ hh.start0 hh.start (Nat.lt_succ_self _) (hS.all x hx.1 hx.2)
  obtain ⟨_, k2⟩ := lead_sound hL _ t _ (Nat.le_refl _) h1
  have hd := hS.all x hx.1 hx.2
  obtain ⟨y, e1, e2, e3⟩ := hS.one _ hd
  have e : x = y := by simpa using e1
  refine ⟨t, ⟨h1, ?_⟩, by unfold backF; rw [h2]; rfl⟩
  rw [← k2, h2, e3, ← e, hx.2]
theorem lead_cnt (hg : g.ok) (hh : s.g.ok) (hL : Leads s.g s.frags D W μ) (hS : Starts g s.g D W w) : cntF s.g w = cntF g w :=
  cntF_same hg hh (backF s) (fun x hx => (backF_is hL hS hx).2) (fun x y hx hy e => backF_inj hL hS hx hy e) (fun y hy => backF_surj hh hL hS hy)
theorem lead_back (hs : (stepFault g s).code = 0) (hL : Leads s.g s.frags D W μ) (hS : Starts g s.g D W w) {l : List Tree} (hl : ListOk g w l) (hok : ∀ t, IsW s.g w t → cnt t ≤ 400 → cnt (backF s t) ≤ 400 → okT s t) {t : Tree} (ht : IsW s.g w t) (hc : cnt t ≤ 400) : backS g s t = (backF s t, ⟨0, 0⟩) := by
  obtain ⟨hg, hh, _⟩ := stepFault_zero hs
  obtain ⟨h1, h2⟩ := backF_is hL hS ht
  have h3 := (hl.mem (hl.all h2)).2
  have h4 : treeFault s.g t s.g.start = ⟨0, 0⟩ := by unfold treeFault; rw [hh.fault, if_pos rfl, if_pos hc, if_pos ht.1]
  have h5 : treeFault g (backF s t) g.start = ⟨0, 0⟩ := by unfold treeFault; rw [hg.fault, if_pos rfl, if_pos h3, if_pos h2.1]
  unfold backS
  rw [if_pos hs, h4, if_pos rfl, valT_is t (hok t ht hc h3), h1]
  dsimp only
  rw [h5, if_pos rfl]
theorem lead_lists (hg : g.ok) (hh : s.g.ok) (hL : Leads s.g s.frags D W μ) (hS : Starts g s.g D W w) {l m : List Tree} (hl : ListOk g w l) (hm : ListOk s.g w m) : sortT (m.map (backF s)) = sortT l :=
  lists_same hl hm (backF s) (fun x hx => (backF_is hL hS hx).2) (fun x y hx hy e => backF_inj hL hS hx hy e) (lead_cnt hg hh hL hS)
end

/-! ### What sameTrees asks -/
def SameOk (g : Gram) (s : Step) (w : List Int) (but : Bool) : Prop := (chF g w).code = 0 → (chF s.g w).code = 0 ∧
  (but = true → cntF s.g w = 0 ∧ cntF g w = s.empty.length) ∧
  (but = false → cntF g w = cntF s.g w ∧ ((fListF g w).2.code = 0 → (fListF s.g w).2.code = 0 → (∀ t ∈ (fListF s.g w).1, backS g s t = (backF s t, ⟨0, 0⟩)) ∧ sortT ((fListF s.g w).1.map (backF s)) = sortT (fListF g w).1))
theorem chF_new {g h : Gram} {w : List Int} (hc : ChOk g w) (hh : h.ok) (ht : h.terms = g.terms) (hcy : cycL h = []) : ChOk h w := ⟨hh, hcy, hc.len, fun x hx => by rw [ht]; exact hc.syms x hx⟩
theorem wBad_ok {t : Int} : ∀ {w : List Int} {i : Nat}, (∀ x ∈ w, 0 ≤ x ∧ x < t) → wBad t w i = none
  | [], _, _ => rfl
  | y :: r, i, h => by
    rw [wBad, if_neg (by have := h y (by simp); omega)]
    exact wBad_ok fun x hx => h x (by simp [hx])
theorem ChOk.fault {g : Gram} {w : List Int} (h : ChOk g w) : chF g w = ⟨0, 0⟩ := by
  unfold chF
  rw [h.ok.fault, if_pos rfl, if_neg (by have := h.len; omega), wBad_ok h.syms]
  simp [h.cyc]
theorem same_ok {g : Gram} {s : Step} {w : List Int} {D : Int → List Tree → Prop} {W : Int → List Tree → List Int} {μ : Int → List Tree → Nat} (hs : (stepFault g s).code = 0) (ht : s.g.terms = g.terms) (hcy : cycL g = [] → cycL s.g = []) (hL : Leads s.g s.frags D W μ) (hS : Starts g s.g D W w)
    (hok : ∀ t, IsW s.g w t → cnt t ≤ 400 → cnt (backF s t) ≤ 400 → okT s t) : SameOk g s w false := fun hc => by
  obtain ⟨hg, hh, _⟩ := stepFault_zero hs
  obtain ⟨hC, _⟩ := chF_ok hc
  refine ⟨by rw [(chF_new hC hh ht (hcy hC.cyc)).fault], fun h => (by cases h), fun _ => ⟨(lead_cnt hg hh hL hS).symm, fun h1 h2 => ?_⟩⟩
  have hl := fList_ok h1
  have hm := fList_ok h2
  refine ⟨fun t ht => ?_, lead_lists hg hh hL hS hl hm⟩
  obtain ⟨q1, q2⟩ := hm.mem ht
  exact lead_back hs hL hS hl hok q1 q2
end Go.Proofs.Yticnpbopelgmiaa
namespace Go.Proofs.Yticnpbopelgmiaa
open Go.RowKit

/-! ### Nothing, and what leads to what -/
theorem null_ind {h : Gram} (hh : h.ok) (P : Int → Prop) (hP : ∀ q ∈ h.rules, (∀ s ∈ q.right, 0 ≤ s ∧ P s) → P q.left) : ∀ v, has (nulB h) v = true → P v := by
  classical
  intro v hv
  have hs := leftsOf_least (t := false) (g := h) (S := lowB h.vars.toNat fun u => decide (P u)) (by simp [lowB]) (fun q hq hin => by
    simp only [asks, cond_false, inAll, List.all_eq_true] at hin
    refine lowB_has.2 ⟨hh.left0 q hq, by have := hh.left q hq; have := hh.left0 q hq; omega, decide_eq_true (hP q hq fun s hs => ?_)⟩
    obtain ⟨a, b, c⟩ := lowB_has.1 (hin s hs)
    exact ⟨a, of_decide_eq_true c⟩)
  exact of_decide_eq_true (lowB_has.1 (hs.sub v hv)).2.2
theorem stepA_iff {h : Gram} {v u : Int} : u ∈ stepA h v ↔ ∃ q ∈ h.rules, q.left = v ∧ ∃ pre post, q.right = pre ++ u :: post ∧ 0 ≤ u ∧ inAll pre (nulB h) = true ∧ inAll post (nulB h) = true := by
  constructor
  · intro hu
    obtain ⟨q, hq, e1, e2⟩ := overBy_mem.1 hu
    obtain ⟨k, hk, e3, e4⟩ := picks_mem.1 e2
    unfold pickAt at e3
    simp only [Bool.and_eq_true, Bool.false_or, decide_eq_true_eq] at e3
    obtain ⟨g0, g1, g2⟩ := e3
    rw [← e4] at g0
    refine ⟨q, hq, e1, q.right.take k, q.right.drop (k + 1), ?_, g0, g1, g2⟩
    have : q.right.getD k 0 = q.right[k] := by rw [List.getD_eq_getElem?_getD, List.getElem?_eq_getElem hk]; rfl
    rw [e4, this, List.getElem_cons_drop, List.take_append_drop]
  · rintro ⟨q, hq, e1, pre, post, e2, h0, h1, h2⟩
    refine overBy_mem.2 ⟨q, hq, e1, picks_mem.2 ⟨pre.length, by rw [e2]; simp, ?_, by rw [e2]; simp⟩⟩
    have q1 : q.right.getD pre.length 0 = u := by rw [e2]; simp
    have q2 : q.right.take pre.length = pre := by rw [e2]; simp
    have q3 : q.right.drop (pre.length + 1) = post := by rw [e2]; simp
    unfold pickAt
    rw [q1, q2, q3, h1, h2]
    simp [h0]
/-! ### Rows of one tree -/
def sing (xs : List Tree) : List (List Tree) := xs.map fun x => [x]
theorem sing_len (xs : List Tree) : (sing xs).length = xs.length := by simp [sing]
def EL (E : Int → Tree → Prop) (xs : List Tree) (us : List Int) : Prop := xs.length = us.length ∧ ∀ (i : Nat) (h1 : i < xs.length) (h2 : i < us.length), E us[i] xs[i]
def oneD (E : Int → Tree → Prop) (v : Int) (l : List Tree) : Prop := ∃ x, l = [x] ∧ E v x
theorem DL_one {E : Int → Tree → Prop} : ∀ {ls : List (List Tree)} {us : List Int}, DL (oneD E) ls us → ∃ xs, ls = sing xs ∧ EL E xs us
  | [], [], _ => ⟨[], rfl, rfl, fun i h1 _ => by simp at h1⟩
  | l :: ls, v :: vs, h => by
    obtain ⟨⟨x, rfl, hx⟩, h2⟩ := h
    obtain ⟨xs, rfl, k1, k2⟩ := DL_one h2
    refine ⟨x :: xs, rfl, by simp [k1], fun i h1 h2 => ?_⟩
    cases i with
    | zero => exact hx
    | succ i => exact k2 i (by simpa using h1) (by simpa using h2)
  | [], _ :: _, h => nomatch h
  | _ :: _, [], h => nomatch h
theorem one_DL {E : Int → Tree → Prop} {xs : List Tree} {us : List Int} (h : EL E xs us) : DL (oneD E) (sing xs) us :=
  DL_of (by rw [sing_len, h.1]) fun i h1 h2 => ⟨xs[i]'(by rw [sing_len] at h1; exact h1), by simp [sing], h.2 i _ h2⟩
/-! ### The template of a rule that stays -/
theorem muL_flat (ks : List (List Tree)) : ∀ l : List Frag, muL ks l = l.flatMap (muF ks)
  | [] => rfl
  | x :: l => by rw [muL, muL_flat ks l, List.flatMap_cons]
theorem range_flat : ∀ ls : List (List Tree), (List.range ls.length).flatMap (fun i => ls.getD i []) = ls.flatten
  | [] => rfl
  | l :: ls => by
    rw [List.length_cons, List.range_succ_eq_map, List.flatMap_cons, List.flatMap_map, List.flatten_cons, ← range_flat ls]
    simp only [List.getD_cons_zero, List.getD_cons_succ]
theorem muL_holes (ls : List (List Tree)) : muL ls (holes ls.length) = ls.flatten := by
  rw [muL_flat, holes, List.flatMap_map, ← range_flat ls]
  refine congrArg (fun f => List.flatMap f (List.range ls.length)) (funext fun i => ?_)
  rw [muF_eq]
  show (if (2 : Int) = 1 then _ else if (2 : Int) = 2 then ls.getD (((i : Nat) : Int).toNat) [] else _) = _
  rw [if_neg (by decide), if_pos rfl, Int.toNat_natCast]
theorem muL_node (r : Int) (ls : List (List Tree)) : muL ls (nodeF r ls.length) = [.mk r ls.flatten] := by
  unfold nodeF
  rw [muL, muF, if_pos rfl, muL_holes, muL]
  rfl
theorem flat_sing (xs : List Tree) : (sing xs).flatten = xs := by
  unfold sing
  induction xs with
  | nil => rfl
  | cons x xs ih => rw [List.map_cons, List.flatten_cons, ih]; rfl
theorem muL_node1 (r : Int) {xs : List Tree} {n : Nat} (h : xs.length = n) : muL (sing xs) (nodeF r n) = [.mk r xs] := by
  rw [← h, ← sing_len xs, muL_node, flat_sing]
end Go.Proofs.Yticnpbopelgmiaa
