/-
  Steps whose new nonterminals stand for rows of old symbols, plain: they lead the trees back. Split, plain: the trees are the same.
-/
import Derived.Test.YticnpbopelgmiaaBkP
import Derived.Test.YticnpbopelgmiaaP1
set_option linter.unusedVariables false
set_option linter.unusedSimpArgs false
set_option linter.unusedSectionVars false
namespace Go.Proofs.Yticnpbopelgmiaa
open Go.RowKit

/-! ### Rows -/
section
variable {g : Gram}
def RowOf (g : Gram) (ss : List Int) (l : List Tree) : Prop := l.length = (kids ss).length ∧ fitss g l (kids ss) = true
theorem kids_app2 (a b : List Int) : kids (a ++ b) = kids a ++ kids b := by simp only [kids, List.filter_append]
theorem fitss_append : ∀ {l : List Tree} {vs : List Int} {m : List Tree} {us : List Int}, l.length = vs.length → (fitss g (l ++ m) (vs ++ us) = (fitss g l vs && fitss g m us))
  | [], [], m, us, _ => by simp [fitss]
  | [], _ :: _, _, _, h => by simp at h
  | _ :: _, [], _, _, h => by simp at h
  | x :: l, v :: vs, m, us, h => by
    rw [List.cons_append, List.cons_append, fitss, fitss, fitss_append (by simpa using h), Bool.and_assoc]
theorem RowOf.append {a b : List Int} {l m : List Tree} (h1 : RowOf g a l) (h2 : RowOf g b m) : RowOf g (a ++ b) (l ++ m) := by
  refine ⟨by rw [kids_app2, List.length_append, List.length_append, h1.1, h2.1], ?_⟩
  rw [kids_app2, fitss_append h1.1, h1.2, h2.2]; rfl
theorem RowOf.split {a b : List Int} {l : List Tree} (h : RowOf g (a ++ b) l) : ∃ l1 l2, l = l1 ++ l2 ∧ RowOf g a l1 ∧ RowOf g b l2 := by
  obtain ⟨h1, h2⟩ := h
  rw [kids_app2] at h1 h2
  rw [List.length_append] at h1
  have e : l = l.take (kids a).length ++ l.drop (kids a).length := (List.take_append_drop _ _).symm
  have hl : (l.take (kids a).length).length = (kids a).length := by rw [List.length_take]; omega
  rw [e, fitss_append hl, Bool.and_eq_true] at h2
  exact ⟨_, _, e, ⟨hl, h2.1⟩, ⟨by rw [List.length_drop]; omega, h2.2⟩⟩
theorem wordL_append : ∀ {a b : List Int} {l m : List Tree}, l.length = (kids a).length → wordL g (a ++ b) (l ++ m) = wordL g a l ++ wordL g b m
  | [], b, l, m, h => by
    obtain rfl : l = [] := List.eq_nil_of_length_eq_zero h
    rw [wordL_nil]; rfl
  | s :: a, b, l, m, h => by
    by_cases hs : s < 0
    · rw [kidsN hs] at h
      rw [List.cons_append, wordL_neg hs, wordL_neg hs, wordL_append h]; rfl
    · rw [kidsP hs] at h
      cases l with
      | nil => simp at h
      | cons x l =>
        rw [List.cons_append, List.cons_append, wordL_pos hs, wordL_pos hs, wordL_append (by simpa using h), List.append_assoc]
theorem rowOf_one {v : Int} (h : ¬ v < 0) {l : List Tree} : RowOf g [v] l ↔ ∃ x, l = [x] ∧ fits g x v = true := by
  unfold RowOf
  rw [kidsP h]
  constructor
  · rintro ⟨h1, h2⟩
    match l, h1, h2 with
    | [x], _, h2 => exact ⟨x, rfl, by rw [fitss, Bool.and_eq_true] at h2; exact h2.1⟩
    | [], h1, _ => simp [kids] at h1
    | _ :: _ :: _, h1, _ => simp [kids] at h1
  · rintro ⟨x, rfl, hx⟩
    exact ⟨by simp [kids], by rw [fitss, hx, fitss.eq_def]; simp [kids]⟩
theorem rowOf_term {s : Int} (h : s < 0) {l : List Tree} : RowOf g [s] l ↔ l = [] := by
  unfold RowOf
  rw [kidsN h]
  constructor
  · rintro ⟨h1, _⟩; exact List.eq_nil_of_length_eq_zero h1
  · rintro rfl; exact ⟨rfl, by rw [fitss.eq_def]⟩
theorem cnts_flat_mem {ls : List (List Tree)} {l : List Tree} (h : l ∈ ls) : cnts l ≤ cnts ls.flatten := by
  induction ls with
  | nil => cases h
  | cons a ls ih =>
    rw [List.flatten_cons, cnts_append]
    rcases List.mem_cons.1 h with rfl | h
    · omega
    · have := ih h; omega
end

/-! ### Nonterminals that stand for rows -/
section
variable {g : Gram} (σ : Int → List Int)
def catS (ys : List Int) : List Int := ys.flatMap σ
def rowD (g : Gram) (σ : Int → List Int) (u : Int) (l : List Tree) : Prop := RowOf g (σ u) l
def rowW (g : Gram) (σ : Int → List Int) (u : Int) (l : List Tree) : List Int := wordL g (σ u) l
theorem cat_rows (hσ : ∀ s, s < 0 → σ s = [s]) : ∀ {ys : List Int} {ls : List (List Tree)}, DL (rowD g σ) ls (kids ys) → RowOf g (catS σ ys) ls.flatten ∧ wordL g (catS σ ys) ls.flatten = catW (rowW g σ) ys ls
  | [], ls, h => by
    obtain rfl : ls = [] := List.eq_nil_of_length_eq_zero (DL_len h)
    exact ⟨⟨rfl, by rw [show kids (catS σ []) = [] from rfl]; rfl⟩, by rw [catW_nil]; exact wordL_nil _ _⟩
  | s :: ys, ls, h => by
    have e : catS σ (s :: ys) = σ s ++ catS σ ys := by unfold catS; rw [List.flatMap_cons]
    by_cases hs : s < 0
    · rw [kidsN hs] at h
      obtain ⟨h1, h2⟩ := cat_rows hσ h
      rw [e, hσ s hs, catW_neg hs]
      have := RowOf.append (g := g) (a := [s]) (l := []) ((rowOf_term hs).2 rfl) h1
      refine ⟨this, ?_⟩
      rw [List.singleton_append, wordL_neg hs, h2]
    · rw [kidsP hs] at h
      cases ls with
      | nil => exact (h.elim)
      | cons l ls =>
        obtain ⟨h0, h⟩ := h
        obtain ⟨h1, h2⟩ := cat_rows hσ h
        rw [e, catW_pos hs, List.flatten_cons]
        have h0' : RowOf g (σ s) l := h0
        refine ⟨h0'.append h1, ?_⟩
        rw [wordL_append h0'.1, h2]
        rfl
theorem rows_cat (hσ : ∀ s, s < 0 → σ s = [s]) : ∀ {ys : List Int} {l : List Tree}, RowOf g (catS σ ys) l → ∃ ls, DL (rowD g σ) ls (kids ys) ∧ l = ls.flatten
  | [], l, h => by
    obtain rfl : l = [] := List.eq_nil_of_length_eq_zero h.1
    exact ⟨[], trivial, rfl⟩
  | s :: ys, l, h => by
    have e : catS σ (s :: ys) = σ s ++ catS σ ys := by unfold catS; rw [List.flatMap_cons]
    rw [e] at h
    obtain ⟨l1, l2, rfl, k1, k2⟩ := h.split
    obtain ⟨ls, d1, rfl⟩ := rows_cat hσ k2
    by_cases hs : s < 0
    · rw [hσ s hs, rowOf_term hs] at k1
      subst k1
      exact ⟨ls, by rw [kidsN hs]; exact d1, rfl⟩
    · exact ⟨l1 :: ls, by rw [kidsP hs]; exact ⟨k1, d1⟩, rfl⟩
theorem rows_inj : ∀ {us : List Int} {ls ls' : List (List Tree)}, DL (rowD g σ) ls us → DL (rowD g σ) ls' us → ls.flatten = ls'.flatten → ls = ls'
  | [], ls, ls', h, h', _ => by
    obtain rfl : ls = [] := List.eq_nil_of_length_eq_zero (DL_len h)
    obtain rfl : ls' = [] := List.eq_nil_of_length_eq_zero (DL_len h')
    rfl
  | u :: us, ls, ls', h, h', e => by
    match ls, ls', h, h' with
    | l :: ls, l' :: ls', h, h' =>
      have a1 : RowOf g (σ u) l := h.1
      have a2 : RowOf g (σ u) l' := h'.1
      rw [List.flatten_cons, List.flatten_cons] at e
      obtain ⟨e1, e2⟩ := List.append_inj e (by rw [a1.1, a2.1])
      rw [e1, rows_inj h.2 h'.2 e2]
    | [], _, h, _ => exact h.elim
    | _ :: _, [], _, h' => exact h'.elim
/-- What a rule is: of an old rule, or of a row. -/
def TagOk (g : Gram) (σ : Int → List Int) (t : Int) (q : Rule) (F : List Frag) : Prop :=
  (t < 0 ∧ ∃ (r : Nat) (hr : r < g.rules.length), t = -1 - (r : Int) ∧ q.left = g.rules[r].left ∧ catS σ q.right = g.rules[r].right ∧ F = nodeF (r : Int) (kids q.right).length) ∨
  (g.vars ≤ t ∧ q.left = t ∧ catS σ q.right = σ t ∧ F = holes (kids q.right).length ∧ ∀ y ∈ kids q.right, (σ y).length < (σ t).length)
structure Rowed (g h : Gram) (F : List (List Frag)) (σ : Int → List Int) (T : List Int) : Prop where
  neg : ∀ s, s < 0 → σ s = [s]
  old : ∀ v, 0 ≤ v → v < g.vars → σ v = [v]
  len : T.length = h.rules.length
  nodup : T.Nodup
  all : ∀ r : Nat, r < g.rules.length → (-1 - (r : Int)) ∈ T
  new : ∀ u, g.vars ≤ u → u < h.vars → u ∈ T
  ok : ∀ (j : Nat) (hj : j < h.rules.length) (hT : j < T.length), TagOk g σ T[j] h.rules[j] (F.getD j [])
  pos : ∀ u, 0 ≤ u → u < h.vars → 1 ≤ (σ u).length ∧ (σ u).length ≤ 10
variable {σ} {h : Gram} {F : List (List Frag)} {T : List Int}
theorem Rowed.leads (hg : g.ok) (hh : h.ok) (R : Rowed g h F σ T) : Leads h F (rowD g σ) (rowW g σ) (fun u l => 100 * cnts l + (σ u).length) where
  sound j hj ls hd := by
    have hT : j < T.length := by rw [R.len]; exact hj
    obtain ⟨k1, k2⟩ := cat_rows σ R.neg hd
    have hl := DL_len hd
    rcases R.ok j hj hT with ⟨_, r, hr, _, e2, e3, e4⟩ | ⟨h0, e2, e3, e4, _⟩
    · rw [e4, ← hl, muL_node, ← k2, e3]
      rw [e3] at k1
      have h0 := hg.left0 _ (List.getElem_mem hr)
      have h1 := hg.left _ (List.getElem_mem hr)
      obtain ⟨f1, f2⟩ := fits_mk hr rfl k1.1 k1.2
      unfold rowD rowW
      rw [e2, R.old _ h0 h1]
      refine ⟨(rowOf_one (by omega)).2 ⟨_, rfl, f1⟩, ?_⟩
      rw [wordL_pos (by omega), wordL_nil, List.append_nil, f2]
    · rw [e4, ← hl, muL_holes, ← k2]
      unfold rowD rowW
      rw [e2, ← e3]
      exact ⟨k1, rfl⟩
  inj j j' hj hj' ls ls' hl hd hd' he := by
    have hT : j < T.length := by rw [R.len]; exact hj
    have hT' : j' < T.length := by rw [R.len]; exact hj'
    have same : T[j] = T[j'] → j = j' := fun q => (List.getElem_inj R.nodup).1 q
    have l1 := DL_len hd
    have l2 := DL_len hd'
    rcases R.ok j hj hT with ⟨_, r, hr, e1, e2, e3, e4⟩ | ⟨h0, e2, e3, e4, _⟩
    · rcases R.ok j' hj' hT' with ⟨_, r', hr', e1', e2', e3', e4'⟩ | ⟨h0', e2', e3', e4', _⟩
      · rw [e4, e4', ← l1, ← l2, muL_node, muL_node] at he
        obtain ⟨q1, q2⟩ := Tree.mk.inj (List.cons.inj he).1
        have q3 := same (by rw [e1, e1', q1])
        subst q3
        exact ⟨rfl, rows_inj σ hd hd' q2⟩
      · have := hg.left _ (List.getElem_mem hr)
        omega
    · rcases R.ok j' hj' hT' with ⟨_, r', hr', e1', e2', e3', e4'⟩ | ⟨h0', e2', e3', e4', _⟩
      · have := hg.left _ (List.getElem_mem hr')
        omega
      · have q3 := same (by rw [← e2, ← e2', hl])
        subst q3
        rw [e4] at he
        have a1 := muL_holes ls
        have a2 := muL_holes ls'
        rw [l1] at a1
        rw [l2] at a2
        rw [a1, a2] at he
        exact ⟨rfl, rows_inj σ hd hd' he⟩
  surj u l h0 h1 hd := by
    have hd : RowOf g (σ u) l := hd
    by_cases hu : u < g.vars
    · rw [R.old u h0 hu] at hd
      obtain ⟨x, rfl, hx⟩ := (rowOf_one (by omega)).1 hd
      obtain ⟨r, hr, e1, e2, e3, e4, _⟩ := fits_parts hx
      obtain ⟨j, hT, ej⟩ := List.mem_iff_getElem.1 (R.all r hr)
      have hj : j < h.rules.length := by rw [← R.len]; exact hT
      rcases R.ok j hj hT with ⟨_, r', hr', f1, f2, f3, f4⟩ | ⟨h0', _⟩
      · obtain rfl : r = r' := by omega
        have hrow : RowOf g (catS σ h.rules[j].right) x.kids := by rw [f3]; exact ⟨e3.symm, e4⟩
        obtain ⟨ls, d1, d2⟩ := rows_cat σ R.neg hrow
        have hlen := DL_len d1
        refine ⟨j, hj, ls, by rw [f2, e2], d1, ?_, fun i i1 i2 => ?_⟩
        · rw [f4, ← hlen, muL_node, ← d2, ← e1, ← Tree.eta]
        · have a1 := cnts_flat_mem (List.getElem_mem i1)
          rw [← d2] at a1
          have a2 := DL_at d1 i i1 i2
          have hki := List.getElem_mem i2
          have a3 := R.pos (kids h.rules[j].right)[i] (kids_nonneg _ hki) (hh.hi _ (List.getElem_mem hj) _ (kids_mem hki))
          simp only [cnts]
          rw [cnt_eq x, R.old u h0 hu]
          simp only [List.length_cons, List.length_nil]
          omega
      · omega
    · obtain ⟨j, hT, ej⟩ := List.mem_iff_getElem.1 (R.new u (by omega) h1)
      have hj : j < h.rules.length := by rw [← R.len]; exact hT
      rcases R.ok j hj hT with ⟨h0', _⟩ | ⟨_, f2, f3, f4, f5⟩
      · omega
      · rw [ej] at f2 f3 f5
        rw [← f3] at hd
        obtain ⟨ls, d1, d2⟩ := rows_cat σ R.neg hd
        have hlen := DL_len d1
        refine ⟨j, hj, ls, f2, d1, ?_, fun i i1 i2 => ?_⟩
        · rw [f4, ← hlen, muL_holes, d2]
        · have a1 := cnts_flat_mem (List.getElem_mem i1)
          rw [← d2] at a1
          have a3 := f5 _ (List.getElem_mem i2)
          omega
theorem Rowed.starts (hg : g.ok) (R : Rowed g h F σ T) (hs : h.start = g.start) (w : List Int) : Starts g h (rowD g σ) (rowW g σ) w where
  one l hl := by
    have hl : RowOf g (σ h.start) l := hl
    rw [hs, R.old _ hg.start0 hg.start, rowOf_one (by have := hg.start0; omega)] at hl
    obtain ⟨x, rfl, hx⟩ := hl
    refine ⟨x, rfl, hx, ?_⟩
    unfold rowW
    rw [hs, R.old _ hg.start0 hg.start, wordL_pos (by have := hg.start0; omega), wordL_nil, List.append_nil]
  all x hx _ := by
    show RowOf g (σ h.start) [x]
    rw [hs, R.old _ hg.start0 hg.start]
    exact (rowOf_one (by have := hg.start0; omega)).2 ⟨x, rfl, hx⟩
theorem Rowed.pl (R : Rowed g h F σ T) (hF : F.length = h.rules.length) : ∀ l ∈ F, plL l = true := fun l hl => by
  obtain ⟨j, hj, rfl⟩ := List.mem_iff_getElem.1 hl
  have hj' : j < h.rules.length := by omega
  have := R.ok j hj' (by rw [R.len]; exact hj')
  rw [List.getD_eq_getElem?_getD, List.getElem?_eq_getElem hj, Option.getD_some] at this
  rcases this with ⟨_, r, hr, _, _, _, e4⟩ | ⟨_, _, _, e4, _⟩
  · rw [e4]; exact plL_node _ _
  · rw [e4]; exact plL_holes _

/-! ### It is no more cyclic -/
theorem picks_iff {null : List Bool} {l : List Int} {u : Int} : u ∈ picksAll null false l ↔ ∃ pre post, l = pre ++ u :: post ∧ 0 ≤ u ∧ inAll pre null = true ∧ inAll post null = true := by
  constructor
  · intro hu
    obtain ⟨k, hk, e3, e4⟩ := picks_mem.1 hu
    unfold pickAt at e3
    simp only [Bool.and_eq_true, Bool.false_or, decide_eq_true_eq] at e3
    obtain ⟨g0, g1, g2⟩ := e3
    rw [← e4] at g0
    refine ⟨l.take k, l.drop (k + 1), ?_, g0, g1, g2⟩
    have : l.getD k 0 = l[k] := by rw [List.getD_eq_getElem?_getD, List.getElem?_eq_getElem hk]; rfl
    rw [e4, this, List.getElem_cons_drop, List.take_append_drop]
  · rintro ⟨pre, post, e2, h0, h1, h2⟩
    refine picks_mem.2 ⟨pre.length, by rw [e2]; simp, ?_, by rw [e2]; simp⟩
    have q1 : l.getD pre.length 0 = u := by rw [e2]; simp
    have q2 : l.take pre.length = pre := by rw [e2]; simp
    have q3 : l.drop (pre.length + 1) = post := by rw [e2]; simp
    unfold pickAt
    rw [q1, q2, q3, h1, h2]
    simp [h0]
def maxN : List Nat → Nat
  | [] => 0
  | x :: l => max x (maxN l)
theorem maxN_mem {l : List Nat} {x : Nat} (h : x ∈ l) : x ≤ maxN l := by
  induction l with
  | nil => cases h
  | cons y l ih =>
    rw [maxN]
    rcases List.mem_cons.1 h with rfl | h
    · omega
    · have := ih h; omega
theorem maxN_le {l : List Nat} {B : Nat} (h : ∀ x ∈ l, x ≤ B) : maxN l ≤ B := by
  induction l with
  | nil => exact Nat.zero_le _
  | cons y l ih =>
    rw [maxN]
    have := h y (by simp)
    have := ih (fun x hx => h x (by simp [hx]))
    omega
def mxR (g : Gram) (l : List Int) : Nat := maxN ((picksAll (nulB g) false l).map fun v => rnk g v + 1)
theorem mxR_mem {l : List Int} {v : Int} (h : v ∈ picksAll (nulB g) false l) : rnk g v + 1 ≤ mxR g l := maxN_mem (List.mem_map.2 ⟨v, h, rfl⟩)
theorem mxR_le {l : List Int} {B : Nat} (h : ∀ v ∈ picksAll (nulB g) false l, rnk g v + 1 ≤ B) : mxR g l ≤ B := maxN_le fun x hx => by
  obtain ⟨v, hv, rfl⟩ := List.mem_map.1 hx
  exact h v hv
theorem inAll_both {a b : List Int} {S : List Bool} : inAll (a ++ b) S = true ↔ inAll a S = true ∧ inAll b S = true := by
  unfold inAll; rw [List.all_append, Bool.and_eq_true]
theorem Rowed.null (hg : g.ok) (hh : h.ok) (R : Rowed g h F σ T) : ∀ y, has (nulB h) y = true → inAll (σ y) (nulB g) = true := by
  refine null_ind hh _ fun q hq hin => ?_
  obtain ⟨j, hj, rfl⟩ := List.mem_iff_getElem.1 hq
  have hT : j < T.length := by rw [R.len]; exact hj
  have hcat : inAll (catS σ h.rules[j].right) (nulB g) = true := by
    unfold inAll catS
    rw [List.all_flatMap, List.all_eq_true]
    exact fun s hs => (hin s hs).2
  rcases R.ok j hj hT with ⟨_, r, hr, e1, e2, e3, e4⟩ | ⟨h0, e2, e3, e4, _⟩
  · rw [e3] at hcat
    rw [e2, R.old _ (hg.left0 _ (List.getElem_mem hr)) (hg.left _ (List.getElem_mem hr))]
    have := null_rule hg (List.getElem_mem hr) (fun s hs => by
      simp only [inAll, List.all_eq_true] at hcat
      exact hcat s hs)
    simp [inAll, this]
  · rw [e2, ← e3]; exact hcat
theorem Rowed.nulls (hg : g.ok) (hh : h.ok) (R : Rowed g h F σ T) {l : List Int} (hl : inAll l (nulB h) = true) : inAll (catS σ l) (nulB g) = true := by
  unfold inAll catS at *
  rw [List.all_flatMap, List.all_eq_true]
  rw [List.all_eq_true] at hl
  exact fun s hs => R.null hg hh s (hl s hs)
theorem Rowed.cyc (hg : g.ok) (hh : h.ok) (hc : cycL g = []) (R : Rowed g h F σ T) : cycL h = [] := by
  refine acyclic hh (fun u => if u < g.vars then 20 * rnk g u + 19 else 20 * mxR g (σ u) + (σ u).length) fun u u' h0 h1 hu => ?_
  obtain ⟨q, hq, e1, pre, post, e2, u0, e3, e4⟩ := stepA_iff.1 hu
  obtain ⟨j, hj, rfl⟩ := List.mem_iff_getElem.1 hq
  have hT : j < T.length := by rw [R.len]; exact hj
  have n1 := R.nulls hg hh e3
  have n2 := R.nulls hg hh e4
  have hu1 := hh.hi _ hq u' (by rw [e2]; simp)
  obtain ⟨p1, p2⟩ := R.pos u' u0 hu1
  have hcat : catS σ h.rules[j].right = catS σ pre ++ (σ u' ++ catS σ post) := by rw [e2]; unfold catS; rw [List.flatMap_append, List.flatMap_cons]
  have hsub : ∀ z, z ∈ picksAll (nulB g) false (σ u') → z ∈ picksAll (nulB g) false (catS σ h.rules[j].right) := fun z hz => by
    obtain ⟨a, b, d1, d2, d3, d4⟩ := picks_iff.1 hz
    refine picks_iff.2 ⟨catS σ pre ++ a, b ++ catS σ post, by rw [hcat, d1]; simp, d2, inAll_both.2 ⟨n1, d3⟩, inAll_both.2 ⟨d4, n2⟩⟩
  have hself : u' < g.vars → u' ∈ picksAll (nulB g) false (catS σ h.rules[j].right) := fun hlt => hsub u' (by
    rw [R.old _ u0 hlt]
    exact picks_iff.2 ⟨[], [], rfl, u0, rfl, rfl⟩)
  rcases R.ok j hj hT with ⟨_, r, hr, f1, f2, f3, f4⟩ | ⟨g0, f2, f3, f4, f5⟩
  · have hlt := hg.left _ (List.getElem_mem hr)
    rw [← f2, e1] at hlt
    have hst : ∀ z, z ∈ picksAll (nulB g) false (catS σ h.rules[j].right) → z ∈ stepA g u := fun z hz => by
      rw [f3] at hz
      exact overBy_mem.2 ⟨_, List.getElem_mem hr, by rw [← f2, e1], hz⟩
    rw [if_pos hlt]
    split
    · rename_i hlt'
      have := rnk_lt hg hc h0 hlt (hst _ (hself hlt'))
      omega
    · have : mxR g (σ u') ≤ rnk g u := mxR_le fun z hz => rnk_lt hg hc h0 hlt (hst _ (hsub z hz))
      omega
  · have hn : ¬ T[j] < g.vars := by omega
    rw [← e1, f2, if_neg hn]
    rw [f3] at hself hsub
    split
    · rename_i hlt'
      have := mxR_mem (hself hlt')
      have := f5 u' (by rw [e2]; simp [kids, u0])
      omega
    · have : mxR g (σ u') ≤ mxR g (σ T[j]) := mxR_le fun z hz => mxR_mem (hsub z hz)
      have := f5 u' (by rw [e2]; simp [kids, u0])
      omega
theorem Rowed.same {s : Step} {T : List Int} {σ : Int → List Int} (R : Rowed g s.g s.frags σ T) (hs : (stepFault g s).code = 0) (ht : s.g.terms = g.terms) (h0 : s.g.start = g.start) (w : List Int) : SameOk g s w false := by
  obtain ⟨hg, hh, hok⟩ := stepFault_zero hs
  exact same_ok hs ht (fun hc => R.cyc hg hh hc) (R.leads hg hh) (R.starts hg h0 w) (okT_same hs (R.pl hok.1) (R.leads hg hh) (R.starts hg h0 w))
end
end Go.Proofs.Yticnpbopelgmiaa
namespace Go.Proofs.Yticnpbopelgmiaa
open Go.RowKit

abbrev SEnt := Int × Rule × List Frag
structure SInv (g : Gram) (s : SP) (n : Nat) (σ : Int → List Int) (L : List SEnt) : Prop where
  fit : s.fit g
  neg : ∀ x, x < 0 → σ x = [x]
  old : ∀ v, 0 ≤ v → v < g.vars → σ v = [v]
  rules : s.rules = L.map fun e => e.2.1
  frags : s.frags = L.map fun e => e.2.2
  nodup : (L.map fun e => e.1).Nodup
  low : ∀ e ∈ L, e.1 < s.vars ∧ (e.1 < 0 → ∃ r : Nat, r < n ∧ e.1 = -1 - (r : Int))
  all : ∀ r : Nat, r < n → ∃ e ∈ L, e.1 = -1 - (r : Int)
  new : ∀ u, g.vars ≤ u → u < s.vars → ∃ e ∈ L, e.1 = u
  ok : ∀ e ∈ L, TagOk g σ e.1 e.2.1 e.2.2
  term : ∀ a : Nat, a < s.term.length → 0 ≤ s.term.getD a 0 → s.term.getD a 0 < s.vars ∧ σ (s.term.getD a 0) = [-1 - (a : Int)]
  pos : ∀ u, g.vars ≤ u → u < s.vars → 1 ≤ (σ u).length ∧ (σ u).length ≤ 10
theorem catS_congr {σ σ' : Int → List Int} {l : List Int} (h : ∀ y ∈ l, σ' y = σ y) : catS σ' l = catS σ l := by
  unfold catS
  induction l with
  | nil => rfl
  | cons y l ih => rw [List.flatMap_cons, List.flatMap_cons, h y (by simp), ih fun z hz => h z (by simp [hz])]
theorem TagOk.congr {g : Gram} {σ σ' : Int → List Int} {t : Int} {q : Rule} {F : List Frag} {V : Int} (h : ∀ y, y < V → σ' y = σ y) (ht : t < V) (hq : ∀ y ∈ q.right, y < V) (hk : TagOk g σ t q F) : TagOk g σ' t q F := by
  have e := catS_congr (σ := σ) (σ' := σ') (l := q.right) fun y hy => h y (hq y hy)
  rcases hk with ⟨h0, r, hr, e1, e2, e3, e4⟩ | ⟨h0, e2, e3, e4, e5⟩
  · exact .inl ⟨h0, r, hr, e1, e2, by rw [e, e3], e4⟩
  · refine .inr ⟨h0, e2, by rw [e, e3, h t ht], e4, fun y hy => ?_⟩
    rw [h t ht, h y (hq y (kids_mem hy))]
    exact e5 y hy
theorem SInv.sym {g : Gram} {s : SP} {n : Nat} {σ : Int → List Int} {L : List SEnt} (h : SInv g s n σ L) : ∀ e ∈ L, ∀ y ∈ e.2.1.right, y < s.vars := fun e he y hy =>
  (h.fit.sym e.2.1 (by rw [h.rules]; exact List.mem_map.2 ⟨e, he, rfl⟩) y hy).2
theorem SInv.lift {g : Gram} (hg : g.ok) {s : SP} {n : Nat} {σ : Int → List Int} {L : List SEnt} (h : SInv g s n σ L) {x : Int} (hx : -g.terms ≤ x ∧ x < g.vars) : ∃ σ' L', SInv g (s.lift x) n σ' L' ∧ (∀ y, y < s.vars → σ' y = σ y) ∧ σ' (s.lifted x) = [x] := by
  have hv := h.fit.vars
  have hv1 := hg.vars1
  have ht0 := hg.terms0
  obtain ⟨hf, _, _, _⟩ := h.fit.lift hg (x := x) ⟨hx.1, by omega⟩
  by_cases h0 : 0 ≤ x
  · have e : s.lift x = s := by rw [SP.lift, if_pos h0]
    have e2 : s.lifted x = x := by rw [SP.lifted, if_pos h0]
    rw [e, e2]
    exact ⟨σ, L, h, fun _ _ => rfl, h.old x h0 hx.2⟩
  · have hl : (-1 - x).toNat < s.term.length := by have := h.fit.tlen; omega
    have hxx : -1 - (((-1 - x).toNat : Nat) : Int) = x := by omega
    by_cases h1 : s.term.getD (-1 - x).toNat 0 < 0
    · have e : s.lift x = ⟨s.vars + 1, s.rules ++ [⟨s.vars, [x]⟩], s.frags ++ [[]], s.term.set (-1 - x).toNat s.vars⟩ := by rw [SP.lift, if_neg h0, if_pos h1]
      have e2 : s.lifted x = s.vars := by
        rw [SP.lifted, if_neg h0, e]
        simp only [List.getD_eq_getElem?_getD]
        rw [List.getElem?_set_self hl]; rfl
      rw [e2]
      rw [e] at hf ⊢
      let σ' : Int → List Int := fun y => if y = s.vars then [x] else σ y
      have hσ : ∀ y, y < s.vars → σ' y = σ y := fun y hy => if_neg (by omega)
      have hσ1 : σ' s.vars = [x] := if_pos rfl
      refine ⟨σ', L ++ [(s.vars, ⟨s.vars, [x]⟩, [])], ?_, hσ, hσ1⟩
      exact {
        fit := hf
        neg := fun y hy => by rw [hσ y (by omega)]; exact h.neg y hy
        old := fun v v0 v1 => by rw [hσ v (by omega)]; exact h.old v v0 v1
        rules := by rw [List.map_append, ← h.rules]; rfl
        frags := by rw [List.map_append, ← h.frags]; rfl
        nodup := by
          rw [List.map_append]
          refine List.nodup_append.2 ⟨h.nodup, by simp, fun a ha b hb => ?_⟩
          obtain ⟨q, hq, rfl⟩ := List.mem_map.1 ha
          have := (h.low q hq).1
          simp only [List.map_cons, List.map_nil, List.mem_singleton] at hb
          rw [hb]; omega
        low := fun q hq => by
          rcases List.mem_append.1 hq with hq | hq
          · have := h.low q hq
            exact ⟨by have := this.1; dsimp only; omega, this.2⟩
          · rw [List.mem_singleton.1 hq]; exact ⟨by dsimp only; omega, fun q => by dsimp only at q; omega⟩
        all := fun r hr => by
          obtain ⟨q, hq, e⟩ := h.all r hr
          exact ⟨q, by simp [hq], e⟩
        new := fun u u0 u1 => by
          dsimp only at u1
          by_cases q : u < s.vars
          · obtain ⟨q, hq, e⟩ := h.new u u0 q
            exact ⟨q, by simp [hq], e⟩
          · exact ⟨(s.vars, ⟨s.vars, [x]⟩, []), by simp, by dsimp only; omega⟩
        ok := fun q hq => by
          rcases List.mem_append.1 hq with hq | hq
          · exact (h.ok q hq).congr hσ (h.low q hq).1 (h.sym q hq)
          · rw [List.mem_singleton.1 hq]
            refine .inr ⟨by dsimp only; omega, rfl, ?_, ?_, ?_⟩
            · dsimp only
              unfold catS
              rw [hσ1, List.flatMap_cons, List.flatMap_nil, hσ x (by omega), h.neg x (by omega)]; rfl
            · dsimp only
              rw [kidsN (by omega)]; rfl
            · intro y hy
              dsimp only at hy
              rw [kidsN (by omega)] at hy
              cases hy
        term := fun a ha hz => by
          dsimp only at ha hz ⊢
          rw [List.length_set] at ha
          by_cases q : a = (-1 - x).toNat
          · subst q
            rw [List.getD_eq_getElem?_getD, List.getElem?_set_self hl, Option.getD_some, hσ1, hxx]
            exact ⟨by omega, rfl⟩
          · have e3 : (s.term.set (-1 - x).toNat s.vars).getD a 0 = s.term.getD a 0 := by
              rw [List.getD_eq_getElem?_getD, List.getElem?_set_ne (fun w => q w.symm), ← List.getD_eq_getElem?_getD]
            rw [e3] at hz ⊢
            obtain ⟨k1, k2⟩ := h.term a ha hz
            exact ⟨by omega, by rw [hσ _ k1, k2]⟩
        pos := fun u u0 u1 => by
          dsimp only at u1
          by_cases q : u < s.vars
          · rw [hσ u q]; exact h.pos u u0 q
          · have : u = s.vars := by omega
            rw [this, hσ1]; exact ⟨by simp, by simp⟩ }
    · have e : s.lift x = s := by rw [SP.lift, if_neg h0, if_neg h1]
      have e2 : s.lifted x = s.term.getD (-1 - x).toNat 0 := by rw [SP.lifted, if_neg h0, e]
      rw [e, e2]
      exact ⟨σ, L, h, fun _ _ => rfl, by rw [(h.term _ hl (by omega)).2, hxx]⟩
theorem SInv.lifts {g : Gram} (hg : g.ok) : ∀ {l : List Int} {s : SP} {n : Nat} {σ : Int → List Int} {L : List SEnt}, SInv g s n σ L → (∀ x ∈ l, -g.terms ≤ x ∧ x < g.vars) → ∃ σ' L', SInv g (s.lifts l) n σ' L' ∧ (∀ y, y < s.vars → σ' y = σ y) ∧ ∀ (k : Nat), k < l.length → σ' ((s.lifteds l).getD k 0) = [l.getD k 0]
  | [], s, n, σ, L, h, _ => ⟨σ, L, h, fun _ _ => rfl, fun k hk => by simp at hk⟩
  | x :: l, s, n, σ, L, h, hx => by
    have hv := h.fit.vars
    have h0 := hx x (by simp)
    obtain ⟨σ1, L1, k1, k2, k3⟩ := h.lift hg h0
    obtain ⟨_, q2, q3, q4⟩ := h.fit.lift hg (x := x) ⟨h0.1, by omega⟩
    obtain ⟨σ2, L2, j1, j2, j3⟩ := SInv.lifts hg (l := l) k1 (fun y hy => hx y (by simp [hy]))
    refine ⟨σ2, L2, j1, fun y hy => by rw [j2 y (by omega), k2 y hy], fun k hk => ?_⟩
    cases k with
    | zero =>
      simp only [SP.lifteds, List.getD_cons_zero]
      rw [j2 _ q4, k3]
    | succ k =>
      simp only [SP.lifteds, List.getD_cons_succ]
      exact j3 k (by simpa using hk)
/-! ### A rule in two -/
theorem pairR_map (v : Int) (l rs : List Int) : ∀ k, pairR v l rs k = (List.range k).map fun i => ⟨if i = 0 then v else rs.getD (i - 1) 0, [l.getD i 0, rs.getD i 0]⟩
  | 0 => rfl
  | k + 1 => by rw [pairR, pairR_map v l rs k, List.range_succ, List.map_append]; rfl
theorem pairF_map (r : Int) : ∀ k, pairF r k = (List.range k).map fun i => if i = 0 then [.mk 1 r holes2] else holes2
  | 0 => rfl
  | k + 1 => by rw [pairF, pairF_map r k, List.range_succ, List.map_append]; rfl
theorem rests_at {V : Int} {l : List Int} (hl : 2 ≤ l.length) {k : Nat} (hk : k < l.length - 1) : (rests V l).getD k 0 = if k < l.length - 2 then V + (k : Int) else l.getD (l.length - 1) 0 := by
  unfold rests
  rw [List.getD_eq_getElem?_getD]
  by_cases q : k < l.length - 2
  · rw [if_pos q, List.getElem?_append_left (by simpa using q), List.getElem?_map, List.getElem?_range q]; rfl
  · rw [if_neg q, List.getElem?_append_right (by simp; omega)]
    simp only [List.length_map, List.length_range]
    rw [show k - (l.length - 2) = 0 by omega]; rfl
theorem drop_getD {l : List Int} {k : Nat} (h : k < l.length) : l.drop k = l.getD k 0 :: l.drop (k + 1) := by
  rw [List.drop_eq_getElem_cons h, List.getD_eq_getElem?_getD, List.getElem?_eq_getElem h]; rfl
theorem kids2 {a b : Int} (ha : 0 ≤ a) (hb : 0 ≤ b) : kids [a, b] = [a, b] := by rw [kidsP (by omega), kidsP (by omega)]; rfl
theorem SInv.split {g : Gram} (hg : g.ok) {s : SP} {n : Nat} {σ : Int → List Int} {L : List SEnt} (h : SInv g s n σ L) (hn : n < g.rules.length) (h2 : 2 ≤ g.rules[n].right.length) (hfit : (s.split g.rules[n].left n g.rules[n].right).fit g) : ∃ σ' L', SInv g (s.split g.rules[n].left n g.rules[n].right) (n + 1) σ' L' := by
  have hmem := List.getElem_mem hn
  have hle := hg.left _ hmem
  have hle0 := hg.left0 _ hmem
  have h10 := hg.right _ hmem
  have hsy : ∀ x ∈ g.rules[n].right, -g.terms ≤ x ∧ x < g.vars := fun x hx => ⟨hg.lo _ hmem x hx, hg.hi _ hmem x hx⟩
  obtain ⟨σ1, L1, k1, k2, k3⟩ := h.lifts hg hsy
  obtain ⟨_, _, q3⟩ := SP.fit.lifts hg h.fit hsy
  have hll := SP.lifteds_length s g.rules[n].right
  unfold SP.split at hfit ⊢
  generalize hR : g.rules[n].right = R at *
  generalize s.lifts R = s1 at *
  generalize s.lifteds R = l at *
  have hv := k1.fit.vars
  have hv1 := hg.vars1
  -- what each stands for
  let σ2 : Int → List Int := fun y => if s1.vars ≤ y ∧ y < s1.vars + ((R.length - 2 : Nat) : Int) then R.drop ((y - s1.vars).toNat + 1) else σ1 y
  have hσ : ∀ y, y < s1.vars → σ2 y = σ1 y := fun y hy => if_neg (by omega)
  have hσn : ∀ k : Nat, k < R.length - 2 → σ2 (s1.vars + (k : Int)) = R.drop (k + 1) := fun k hk => by
    have : σ2 (s1.vars + (k : Int)) = R.drop ((s1.vars + (k : Int) - s1.vars).toNat + 1) := if_pos (by omega)
    rw [this, show (s1.vars + (k : Int) - s1.vars).toNat = k by omega]
  have hlk : ∀ k : Nat, k < R.length → 0 ≤ l.getD k 0 ∧ l.getD k 0 < s1.vars := fun k hk => q3 _ (getD_mem (by omega))
  have hσl : ∀ k : Nat, k < R.length → σ2 (l.getD k 0) = [R.getD k 0] := fun k hk => by rw [hσ _ (hlk k hk).2, k3 k hk]
  have hrk : ∀ k : Nat, k < R.length - 1 → 0 ≤ (rests s1.vars l).getD k 0 ∧ σ2 ((rests s1.vars l).getD k 0) = R.drop (k + 1) := fun k hk => by
    rw [rests_at (by omega) (by omega), hll]
    by_cases q : k < R.length - 2
    · rw [if_pos q]; exact ⟨by omega, hσn k q⟩
    · rw [if_neg q]
      refine ⟨(hlk _ (by omega)).1, ?_⟩
      rw [hσl _ (by omega), show k + 1 = R.length - 1 by omega, drop_getD (by omega), show R.length - 1 + 1 = R.length by omega, List.drop_length]
  let tg : Nat → Int := fun i => if i = 0 then -1 - (n : Int) else s1.vars + ((i - 1 : Nat) : Int)
  let L2 : List SEnt := (List.range (R.length - 1)).map fun i => (tg i, ⟨if i = 0 then g.rules[n].left else (rests s1.vars l).getD (i - 1) 0, [l.getD i 0, (rests s1.vars l).getD i 0]⟩, if i = 0 then [.mk 1 (n : Int) holes2] else holes2)
  have hL2 : ∀ e ∈ L2, ∃ i, i < R.length - 1 ∧ e = (tg i, ⟨if i = 0 then g.rules[n].left else (rests s1.vars l).getD (i - 1) 0, [l.getD i 0, (rests s1.vars l).getD i 0]⟩, if i = 0 then [.mk 1 (n : Int) holes2] else holes2) := fun e he => by
    obtain ⟨i, hi, rfl⟩ := List.mem_map.1 he
    exact ⟨i, List.mem_range.1 hi, rfl⟩
  have htg : ∀ i, i < R.length - 1 → (tg i < 0 ∧ i = 0 ∧ tg i = -1 - (n : Int)) ∨ (s1.vars ≤ tg i ∧ tg i < s1.vars + ((R.length - 2 : Nat) : Int) ∧ 0 < i ∧ tg i = s1.vars + ((i - 1 : Nat) : Int)) := fun i hi => by
    by_cases q : i = 0
    · have : tg i = -1 - (n : Int) := if_pos q
      exact .inl ⟨by omega, q, this⟩
    · have : tg i = s1.vars + ((i - 1 : Nat) : Int) := if_neg q
      exact .inr ⟨by omega, by omega, by omega, this⟩
  refine ⟨σ2, L1 ++ L2, ?_⟩
  exact {
    fit := hfit
    neg := fun y hy => by rw [hσ y (by omega)]; exact k1.neg y hy
    old := fun v v0 v1 => by rw [hσ v (by omega)]; exact k1.old v v0 v1
    rules := by
      dsimp only
      rw [List.map_append, ← k1.rules, pairR_map, List.map_map]
      rfl
    frags := by
      dsimp only
      rw [List.map_append, ← k1.frags, pairF_map, List.map_map]
      rfl
    nodup := by
      rw [List.map_append]
      refine List.nodup_append.2 ⟨k1.nodup, ?_, fun a ha b hb => ?_⟩
      · rw [List.map_map]
        unfold List.Nodup
        rw [List.pairwise_map]
        refine (List.pairwise_lt_range).imp_of_mem fun {a b} ha hb hab => ?_
        have ha := List.mem_range.1 ha
        have hb := List.mem_range.1 hb
        show tg a ≠ tg b
        rcases htg a ha with ⟨a1, a2, a3⟩ | ⟨a1, a2, a3, a4⟩ <;> rcases htg b hb with ⟨b1, b2, b3⟩ | ⟨b1, b2, b3, b4⟩ <;> omega
      · obtain ⟨e, he, rfl⟩ := List.mem_map.1 ha
        obtain ⟨e', he', rfl⟩ := List.mem_map.1 hb
        obtain ⟨i, hi, rfl⟩ := hL2 e' he'
        obtain ⟨c1, c2⟩ := k1.low e he
        dsimp only
        rcases htg i hi with ⟨b1, b2, b3⟩ | ⟨b1, b2, b3, b4⟩
        · intro q
          obtain ⟨r, hr, e⟩ := c2 (by omega)
          omega
        · omega
    low := fun e he => by
      dsimp only
      rcases List.mem_append.1 he with he | he
      · obtain ⟨c1, c2⟩ := k1.low e he
        refine ⟨by omega, fun q => ?_⟩
        obtain ⟨r, hr, e⟩ := c2 q
        exact ⟨r, by omega, e⟩
      · obtain ⟨i, hi, rfl⟩ := hL2 e he
        dsimp only
        rcases htg i hi with ⟨b1, b2, b3⟩ | ⟨b1, b2, b3, b4⟩
        · exact ⟨by omega, fun _ => ⟨n, by omega, b3⟩⟩
        · exact ⟨b2, fun q => by omega⟩
    all := fun r hr => by
      by_cases q : r < n
      · obtain ⟨e, he, e1⟩ := k1.all r q
        exact ⟨e, by simp [he], e1⟩
      · obtain rfl : r = n := by omega
        exact ⟨_, List.mem_append_right _ (List.mem_map.2 ⟨0, List.mem_range.2 (by omega), rfl⟩), (if_pos rfl : tg 0 = _)⟩
    new := fun u u0 u1 => by
      dsimp only at u1
      by_cases q : u < s1.vars
      · obtain ⟨e, he, e1⟩ := k1.new u u0 q
        exact ⟨e, by simp [he], e1⟩
      · refine ⟨_, List.mem_append_right _ (List.mem_map.2 ⟨(u - s1.vars).toNat + 1, List.mem_range.2 (by omega), rfl⟩), ?_⟩
        show tg ((u - s1.vars).toNat + 1) = u
        rcases htg ((u - s1.vars).toNat + 1) (by omega) with ⟨b1, b2, b3⟩ | ⟨b1, b2, b3, b4⟩
        · omega
        · rw [b4]; omega
    ok := fun e he => by
      rcases List.mem_append.1 he with he | he
      · exact (k1.ok e he).congr hσ (k1.low e he).1 (k1.sym e he)
      · obtain ⟨i, hi, rfl⟩ := hL2 e he
        have c1 := hσl i (by omega)
        obtain ⟨c2, c3⟩ := hrk i hi
        have c4 := (hlk i (by omega)).1
        have hcat : catS σ2 [l.getD i 0, (rests s1.vars l).getD i 0] = R.drop i := by
          unfold catS
          rw [List.flatMap_cons, List.flatMap_cons, List.flatMap_nil, c1, c3, List.append_nil, List.singleton_append, ← drop_getD (by omega)]
        dsimp only
        rcases htg i hi with ⟨b1, b2, b3⟩ | ⟨b1, b2, b3, b4⟩
        · subst b2
          refine .inl ⟨b1, n, hn, b3, rfl, ?_, ?_⟩
          · dsimp only; rw [hcat, hR]; rfl
          · dsimp only; rw [if_pos rfl, kids2 c4 c2]; rfl
        · have d1 : σ2 (tg i) = R.drop i := by rw [b4, hσn _ (by omega), show i - 1 + 1 = i by omega]
          refine .inr ⟨by omega, ?_, ?_, ?_, ?_⟩
          · dsimp only
            rw [if_neg (by omega), rests_at (by omega) (by omega), hll, if_pos (by omega), b4]
          · dsimp only; rw [hcat, d1]
          · dsimp only; rw [if_neg (by omega), kids2 c4 c2]; rfl
          · intro y hy
            dsimp only at hy
            rw [kids2 c4 c2] at hy
            rw [d1, List.length_drop]
            simp only [List.mem_cons, List.not_mem_nil, or_false] at hy
            rcases hy with rfl | rfl
            · rw [c1]; simp only [List.length_cons, List.length_nil]; omega
            · rw [c3, List.length_drop]; omega
    term := fun a ha hz => by
      dsimp only at ha hz ⊢
      obtain ⟨c1, c2⟩ := k1.term a ha hz
      exact ⟨by omega, by rw [hσ _ c1, c2]⟩
    pos := fun u u0 u1 => by
      dsimp only at u1
      by_cases q : u < s1.vars
      · rw [hσ u q]; exact k1.pos u u0 q
      · have e : u = s1.vars + (((u - s1.vars).toNat : Nat) : Int) := by omega
        rw [e, hσn _ (by omega), List.length_drop]
        omega }
theorem SInv.one {g : Gram} (hg : g.ok) {s : SP} {n : Nat} {σ : Int → List Int} {L : List SEnt} (h : SInv g s n σ L) (hn : n < g.rules.length) : ∃ σ' L', SInv g (s.one n g.rules[n]) (n + 1) σ' L' := by
  have hmem := List.getElem_mem hn
  have hfit := h.fit.one hg hn (hg.rule hmem)
  rw [SP.one] at hfit ⊢
  split at hfit
  · rename_i hl
    rw [if_pos hl]
    have hv := h.fit.vars
    have hv1 := hg.vars1
    have hcat : catS σ g.rules[n].right = g.rules[n].right := by
      have : ∀ l : List Int, (∀ x ∈ l, x < g.vars) → catS σ l = l := by
        intro l
        induction l with
        | nil => intro _; rfl
        | cons x l ih =>
          intro hx
          have ih := ih fun y hy => hx y (by simp [hy])
          unfold catS at ih ⊢
          rw [List.flatMap_cons, ih]
          by_cases q : x < 0
          · rw [h.neg x q]; rfl
          · rw [h.old x (by omega) (hx x (by simp))]; rfl
      exact this _ (hg.hi _ hmem)
    refine ⟨σ, L ++ [(-1 - (n : Int), ⟨g.rules[n].left, g.rules[n].right⟩, nodeF n (kids g.rules[n].right).length)], ?_⟩
    exact {
      fit := hfit
      neg := h.neg
      old := h.old
      rules := by rw [List.map_append, ← h.rules]; rfl
      frags := by rw [List.map_append, ← h.frags]; rfl
      nodup := by
        rw [List.map_append]
        refine List.nodup_append.2 ⟨h.nodup, by simp, fun a ha b hb => ?_⟩
        obtain ⟨e, he, rfl⟩ := List.mem_map.1 ha
        obtain ⟨c1, c2⟩ := h.low e he
        simp only [List.map_cons, List.map_nil, List.mem_singleton] at hb
        rw [hb]
        intro q
        obtain ⟨r, hr, e⟩ := c2 (by omega)
        omega
      low := fun e he => by
        rcases List.mem_append.1 he with he | he
        · obtain ⟨c1, c2⟩ := h.low e he
          refine ⟨c1, fun q => ?_⟩
          obtain ⟨r, hr, e⟩ := c2 q
          exact ⟨r, by omega, e⟩
        · rw [List.mem_singleton.1 he]
          exact ⟨by show -1 - (n : Int) < s.vars; omega, fun _ => ⟨n, by omega, rfl⟩⟩
      all := fun r hr => by
        by_cases q : r < n
        · obtain ⟨e, he, e1⟩ := h.all r q
          exact ⟨e, by simp [he], e1⟩
        · obtain rfl : r = n := by omega
          exact ⟨_, List.mem_append_right _ (List.mem_singleton.2 rfl), rfl⟩
      new := fun u u0 u1 => by
        obtain ⟨e, he, e1⟩ := h.new u u0 u1
        exact ⟨e, by simp [he], e1⟩
      ok := fun e he => by
        rcases List.mem_append.1 he with he | he
        · exact h.ok e he
        · rw [List.mem_singleton.1 he]
          exact .inl ⟨by dsimp only; omega, n, hn, rfl, rfl, hcat, rfl⟩
      term := h.term
      pos := h.pos }
  · rename_i hl
    rw [if_neg hl]
    exact h.split hg hn (by omega) hfit
end Go.Proofs.Yticnpbopelgmiaa
