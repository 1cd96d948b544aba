/-
  Thin, plain: the trees are the same, but those of the empty word, which are told beside.
-/
import Derived.Test.YticnpbopelgmiaaBkP
import Derived.Test.YticnpbopelgmiaaQFoG
set_option linter.unusedVariables false
set_option linter.unusedSimpArgs false
set_option linter.unusedSectionVars false
namespace Go.Proofs.Yticnpbopelgmiaa
open Go.RowKit

/-! ### The rules, one by one -/
def thOne (nl : List (List Tree)) (ss : List Int) (p : List Nat) : Bool := decide ((thM nl ss p 0).1.length ≠ 0)
theorem put_list {left : Int} {r : Nat} {right : List Int} {l : List Frag} {S S' : TS} (h : S.put left r right l = .ok S') : S'.rules = S.rules ++ (if right.length ≠ 0 then [⟨left, right⟩] else []) ∧ S'.frags = S.frags ++ (if right.length ≠ 0 then [[.mk 1 (r : Int) l]] else []) := by
  unfold TS.put at h
  split at h
  · rename_i h0
    cases h
    rw [if_neg (fun q => q h0), if_neg (fun q => q h0), List.append_nil, List.append_nil]
    exact ⟨rfl, rfl⟩
  · rename_i h0
    split at h
    · cases h
    · cases h
      rw [if_pos h0, if_pos h0]
      exact ⟨rfl, rfl⟩
theorem thL_list {nl : List (List Tree)} {left : Int} {r : Nat} {ss : List Int} : ∀ (ps : List (List Nat)) (S S' : TS), thL (fun p S => S.put left r (thM nl ss p 0).1 (thM nl ss p 0).2) ps S = .ok S' → S'.rules = S.rules ++ (ps.filter (thOne nl ss)).map (fun p => ⟨left, (thM nl ss p 0).1⟩) ∧ S'.frags = S.frags ++ (ps.filter (thOne nl ss)).map (fun p => [.mk 1 (r : Int) (thM nl ss p 0).2])
  | [], S, S', h => by
    rw [thL] at h; cases h
    simp
  | p :: ps, S, S', h => by
    rw [thL] at h
    cases hc : S.put left r (thM nl ss p 0).1 (thM nl ss p 0).2 with
    | error e => rw [hc] at h; cases h
    | ok S1 =>
      rw [hc] at h
      obtain ⟨h1, h2⟩ := put_list hc
      obtain ⟨h3, h4⟩ := thL_list ps S1 S' h
      rw [h3, h4, h1, h2]
      by_cases h0 : (thM nl ss p 0).1.length ≠ 0
      · rw [if_pos h0, if_pos h0, List.filter_cons_of_pos (show thOne nl ss p = true from decide_eq_true h0)]
        simp
      · rw [if_neg h0, if_neg h0, List.filter_cons_of_neg (by unfold thOne; rw [decide_eq_false h0]; decide)]
        simp
abbrev thG1 (g : Gram) (r : Nat) : Rule := g.rules.getD r ⟨0, []⟩
theorem thG1_is {g : Gram} {r : Nat} (hr : r < g.rules.length) : thG1 g r = g.rules[r] := by
  unfold thG1; rw [List.getD_eq_getElem?_getD, List.getElem?_eq_getElem hr]; rfl
def thPs (g : Gram) (nl : List (List Tree)) (rs : List Nat) : List (Nat × List Nat) := rs.flatMap fun (r : Nat) => ((tups (optsN nl (thG1 g r).right)).filter (thOne nl (thG1 g r).right)).map fun p => (r, p)
theorem thA_list {g : Gram} {nl : List (List Tree)} : ∀ (n i : Nat) (S S' : TS), i + n = g.rules.length → thA nl i (g.rules.drop i) S = .ok S' → S'.rules = S.rules ++ (thPs g nl (List.range' i n)).map (fun q => ⟨(thG1 g q.1).left, (thM nl (thG1 g q.1).right q.2 0).1⟩) ∧ S'.frags = S.frags ++ (thPs g nl (List.range' i n)).map (fun q => [.mk 1 (q.1 : Int) (thM nl (thG1 g q.1).right q.2 0).2])
  | 0, i, S, S', hi, h => by
    rw [List.drop_of_length_le (by omega), thA] at h
    cases h
    simp [thPs]
  | n + 1, i, S, S', hi, h => by
    have hlt : i < g.rules.length := by omega
    rw [List.drop_eq_getElem_cons hlt, thA] at h
    cases hc : thR nl g.rules[i].left i g.rules[i].right 0 [] [] S with
    | error e => rw [hc] at h; cases h
    | ok S1 =>
      rw [hc] at h
      obtain ⟨h3, h4⟩ := thA_list n (i + 1) S1 S' (by omega) h
      rw [thR_tups] at hc
      simp only [List.nil_append] at hc
      obtain ⟨h1, h2⟩ := thL_list _ _ _ hc
      have e : thPs g nl (List.range' i (n + 1)) = ((tups (optsN nl g.rules[i].right)).filter (thOne nl g.rules[i].right)).map (fun p => (i, p)) ++ thPs g nl (List.range' (i + 1) n) := by
        unfold thPs
        rw [List.range'_succ, List.flatMap_cons, thG1_is hlt]
      rw [h3, h4, h1, h2, e, List.map_append, List.map_append, List.map_map, List.map_map, List.append_assoc, List.append_assoc]
      refine ⟨?_, ?_⟩
      · congr 2
        refine List.map_congr_left fun p _ => ?_
        simp only [Function.comp, thG1_is hlt]
      · congr 2
        refine List.map_congr_left fun p _ => ?_
        simp only [Function.comp, thG1_is hlt]
theorem tups_nodup : ∀ cs : List Nat, (tups cs).Nodup
  | [] => List.pairwise_singleton _ _
  | c :: cs => by
    rw [tups]
    unfold List.Nodup
    rw [List.pairwise_flatMap]
    refine ⟨fun a _ => ?_, ?_⟩
    · rw [List.pairwise_map]
      exact (tups_nodup cs).imp fun h q => h (List.cons.inj q).2
    · refine (List.pairwise_lt_range).imp fun {a b} hab => ?_
      intro x hx y hy q
      subst q
      obtain ⟨u, _, rfl⟩ := List.mem_map.1 hx
      obtain ⟨v, _, e⟩ := List.mem_map.1 hy
      have := (List.cons.inj e).1
      omega
theorem thPs_nodup (g : Gram) (nl : List (List Tree)) (i n : Nat) : (thPs g nl (List.range' i n)).Nodup := by
  unfold thPs List.Nodup
  rw [List.pairwise_flatMap]
  refine ⟨fun r _ => ?_, ?_⟩
  · rw [List.pairwise_map]
    exact ((tups_nodup _).filter _).imp fun h q => h (Prod.mk.inj q).2
  · refine (List.pairwise_lt_range' (s := i) (n := n)).imp fun {a b} hab => ?_
    intro x hx y hy q
    subst q
    obtain ⟨u, _, rfl⟩ := List.mem_map.1 hx
    obtain ⟨v, _, e⟩ := List.mem_map.1 hy
    have := (Prod.mk.inj e).1
    omega
theorem thPs_mem {g : Gram} {nl : List (List Tree)} {n r : Nat} {p : List Nat} : (r, p) ∈ thPs g nl (List.range' 0 n) ↔ r < n ∧ p ∈ tups (optsN nl (thG1 g r).right) ∧ thOne nl (thG1 g r).right p = true := by
  unfold thPs
  simp only [List.mem_flatMap, List.mem_range'_1, List.mem_map, List.mem_filter, Prod.mk.injEq]
  constructor
  · rintro ⟨u, hu, x, hx, rfl, rfl⟩; exact ⟨by omega, hx⟩
  · rintro ⟨h1, h2⟩; exact ⟨r, by omega, p, h2, rfl, rfl⟩

/-! ### What a template makes -/
theorem muF_asF (ls : List (List Tree)) : ∀ x : Tree, muF ls (asF x) = [x] := by
  refine Tree.ind fun x ih => ?_
  have key : ∀ l : List Tree, (∀ y ∈ l, muF ls (asF y) = [y]) → muL ls (asFs l) = l := by
    intro l
    induction l with
    | nil => intro _; rfl
    | cons y l ihl =>
      intro h
      rw [asFs, muL, h y (by simp), ihl fun z hz => h z (by simp [hz])]; rfl
  rw [Tree.eta x, asF, muF, if_pos rfl, key x.kids ih]
theorem plF_asF : ∀ x : Tree, plF (asF x) = true := by
  refine Tree.ind fun x ih => ?_
  have key : ∀ l : List Tree, (∀ y ∈ l, plF (asF y) = true) → plL (asFs l) = true := by
    intro l
    induction l with
    | nil => intro _; rfl
    | cons y l ihl =>
      intro h
      rw [asFs, plL, h y (by simp), ihl fun z hz => h z (by simp [hz])]; rfl
  rw [Tree.eta x, asF, plF, if_pos rfl, key x.kids ih]
theorem plL_thM (nl : List (List Tree)) : ∀ (ss : List Int) (p : List Nat) (h : Nat), plL (thM nl ss p h).2 = true
  | [], p, h => rfl
  | s :: ss, p, h => by
    by_cases hs : s < 0
    · simp only [thM, hs, if_true]; exact plL_thM nl ss p h
    · cases p with
      | nil => simp only [thM, hs, if_false]; rfl
      | cons a p =>
        cases a with
        | zero => simp only [thM, hs, if_false]; rw [plL, plL_thM nl ss p (h + 1), plF]; rfl
        | succ a => simp only [thM, hs, if_false]; rw [plL, plL_thM nl ss p h, plF_asF]; rfl
/-- All kids of a rule: those that are kept, and those of nothing. -/
def fullK (nl : List (List Tree)) : List Int → List Nat → List Tree → List Tree
  | [], _, _ => []
  | s :: ss, p, xs => if s < 0 then fullK nl ss p xs else match p with
    | [] => []
    | 0 :: p => match xs with
      | [] => []
      | x :: xs => x :: fullK nl ss p xs
    | (a + 1) :: p => (nl.getD s.toNat []).getD a (.mk 0 []) :: fullK nl ss p xs
theorem fullK_neg {nl : List (List Tree)} {s : Int} (h : s < 0) (ss : List Int) (p : List Nat) (xs : List Tree) : fullK nl (s :: ss) p xs = fullK nl ss p xs := by rw [fullK.eq_def]; simp [h]
theorem fullK_keep {nl : List (List Tree)} {s : Int} (h : ¬ s < 0) (ss : List Int) (p : List Nat) (x : Tree) (xs : List Tree) : fullK nl (s :: ss) (0 :: p) (x :: xs) = x :: fullK nl ss p xs := by rw [fullK.eq_def]; simp [h]
theorem fullK_gone {nl : List (List Tree)} {s : Int} (h : ¬ s < 0) (ss : List Int) (a : Nat) (p : List Nat) (xs : List Tree) : fullK nl (s :: ss) ((a + 1) :: p) xs = (nl.getD s.toNat []).getD a (.mk 0 []) :: fullK nl ss p xs := by rw [fullK.eq_def]; simp [h]
theorem opts_neg {nl : List (List Tree)} {s : Int} (h : s < 0) (ss : List Int) : optsN nl (s :: ss) = optsN nl ss := by unfold optsN; rw [kidsN h]
theorem opts_pos {nl : List (List Tree)} {s : Int} (h : ¬ s < 0) (ss : List Int) : optsN nl (s :: ss) = ((nl.getD s.toNat []).length + 1) :: optsN nl ss := by unfold optsN; rw [kidsP h]; rfl
theorem tups_cons {c : Nat} {cs : List Nat} {q : List Nat} : q ∈ tups (c :: cs) ↔ ∃ a p, q = a :: p ∧ a < c ∧ p ∈ tups cs := by
  rw [tups]
  simp only [List.mem_flatMap, List.mem_range, List.mem_map]
  constructor
  · rintro ⟨a, ha, p, hp, rfl⟩; exact ⟨a, p, rfl, ha, hp⟩
  · rintro ⟨a, p, rfl, ha, hp⟩; exact ⟨a, ha, p, hp, rfl⟩
section
variable {g : Gram} {nl : List (List Tree)}
theorem mu_thM : ∀ (ss : List Int) (p : List Nat) (pre : List (List Tree)) (xs : List Tree), p ∈ tups (optsN nl ss) → xs.length = (kids (thM nl ss p pre.length).1).length → muL (pre ++ sing xs) (thM nl ss p pre.length).2 = fullK nl ss p xs
  | [], p, pre, xs, _, _ => rfl
  | s :: ss, p, pre, xs, hp, hl => by
    by_cases hs : s < 0
    · rw [opts_neg hs] at hp
      simp only [thM, hs, if_true] at hl ⊢
      rw [kidsN hs] at hl
      rw [fullK_neg hs]
      exact mu_thM ss p pre xs hp hl
    · rw [opts_pos hs] at hp
      obtain ⟨a, p, rfl, ha, hp2⟩ := tups_cons.1 hp
      cases a with
      | zero =>
        simp only [thM, hs, if_false] at hl ⊢
        rw [kidsP hs] at hl
        cases xs with
        | nil => simp at hl
        | cons x xs =>
          rw [fullK_keep hs, muL, muF, if_neg (by decide), if_pos rfl]
          have e : pre ++ sing (x :: xs) = (pre ++ [[x]]) ++ sing xs := by simp [sing]
          have h1 := mu_thM ss p (pre ++ [[x]]) xs hp2 (by simpa using hl)
          rw [List.length_append, List.length_singleton] at h1
          rw [e, h1, Int.toNat_natCast, ← e, List.getD_eq_getElem?_getD, List.getElem?_append_right (Nat.le_refl _), Nat.sub_self]
          rfl
      | succ a =>
        simp only [thM, hs, if_false] at hl ⊢
        rw [fullK_gone hs, muL, muF_asF, mu_thM ss p pre xs hp2 hl]
        rfl
theorem full_fits (hf : ∀ v, ∀ x ∈ nl.getD v [], fits g x (v : Int) = true) (hw : ∀ v, ∀ x ∈ nl.getD v [], wordT g x = []) : ∀ (ss : List Int) (p : List Nat) (h : Nat) (xs : List Tree), p ∈ tups (optsN nl ss) → xs.length = (kids (thM nl ss p h).1).length → fitss g xs (kids (thM nl ss p h).1) = true → (fullK nl ss p xs).length = (kids ss).length ∧ fitss g (fullK nl ss p xs) (kids ss) = true ∧ wordL g ss (fullK nl ss p xs) = wordL g (thM nl ss p h).1 xs
  | [], p, h, xs, _, _, _ => ⟨rfl, by rw [fitss.eq_def]; rfl, by rw [show (thM nl [] p h).1 = [] from rfl, wordL_nil, wordL_nil]⟩
  | s :: ss, p, h, xs, hp, hl, hx => by
    by_cases hs : s < 0
    · rw [opts_neg hs] at hp
      simp only [thM, hs, if_true] at hl hx ⊢
      rw [kidsN hs] at hl hx
      obtain ⟨k1, k2, k3⟩ := full_fits hf hw ss p h xs hp hl hx
      rw [fullK_neg hs, kidsN hs, wordL_neg hs, wordL_neg hs, k3]
      exact ⟨k1, k2, rfl⟩
    · rw [opts_pos hs] at hp
      obtain ⟨a, p, rfl, ha, hp2⟩ := tups_cons.1 hp
      cases a with
      | zero =>
        simp only [thM, hs, if_false] at hl hx ⊢
        rw [kidsP hs] at hl hx
        cases xs with
        | nil => simp at hl
        | cons x xs =>
          rw [fitss, Bool.and_eq_true] at hx
          obtain ⟨k1, k2, k3⟩ := full_fits hf hw ss p (h + 1) xs hp2 (by simpa using hl) hx.2
          rw [fullK_keep hs, kidsP hs, wordL_pos hs, wordL_pos hs, k3, fitss, hx.1, k2]
          exact ⟨by simp [k1], rfl, rfl⟩
      | succ a =>
        simp only [thM, hs, if_false] at hl hx ⊢
        obtain ⟨k1, k2, k3⟩ := full_fits hf hw ss p h xs hp2 hl hx
        have ha' : a < (nl.getD s.toNat []).length := by omega
        have hm : (nl.getD s.toNat []).getD a (.mk 0 []) ∈ nl.getD s.toNat [] := by
          rw [show (nl.getD s.toNat []).getD a (.mk 0 []) = (nl.getD s.toNat [])[a] by rw [List.getD_eq_getElem?_getD, List.getElem?_eq_getElem ha']; rfl]
          exact List.getElem_mem ha'
        have q1 := hf _ _ hm
        rw [show ((s.toNat : Nat) : Int) = s by omega] at q1
        rw [fullK_gone hs, kidsP hs, wordL_pos hs, hw _ _ hm, k3, fitss, q1, k2]
        exact ⟨by simp [k1], rfl, rfl⟩
/-- The word is more than nothing. -/
theorem word_more : ∀ (ss : List Int) (xs : List Tree), ss ≠ [] → xs.length = (kids ss).length → (∀ x ∈ xs, wordT g x ≠ []) → wordL g ss xs ≠ []
  | [], xs, h, _, _ => absurd rfl h
  | s :: ss, xs, _, hl, hx => by
    by_cases hs : s < 0
    · rw [wordL_neg hs]; simp
    · rw [kidsP hs] at hl
      cases xs with
      | nil => simp at hl
      | cons x xs =>
        rw [wordL_pos hs]
        intro q
        exact hx x (by simp) (List.append_eq_nil_iff.1 q).1
theorem full_inj (hw : ∀ v, ∀ x ∈ nl.getD v [], wordT g x = []) (hd : ∀ v, (nl.getD v []).Nodup) : ∀ (ss : List Int) (p p' : List Nat) (h : Nat) (xs xs' : List Tree), p ∈ tups (optsN nl ss) → p' ∈ tups (optsN nl ss) → xs.length = (kids (thM nl ss p h).1).length → xs'.length = (kids (thM nl ss p' h).1).length → (∀ x ∈ xs, wordT g x ≠ []) → (∀ x ∈ xs', wordT g x ≠ []) → fullK nl ss p xs = fullK nl ss p' xs' → p = p' ∧ xs = xs'
  | [], p, p', h, xs, xs', hp, hp', hl, hl', _, _, _ => by
    have e1 : p = [] := by simpa [optsN, kids, tups] using hp
    have e2 : p' = [] := by simpa [optsN, kids, tups] using hp'
    have l1 : xs = [] := List.eq_nil_of_length_eq_zero hl
    have l2 : xs' = [] := List.eq_nil_of_length_eq_zero hl'
    exact ⟨by rw [e1, e2], by rw [l1, l2]⟩
  | s :: ss, p, p', h, xs, xs', hp, hp', hl, hl', hx, hx', e => by
    by_cases hs : s < 0
    · rw [opts_neg hs] at hp hp'
      simp only [thM, hs, if_true] at hl hl'
      rw [kidsN hs] at hl hl'
      rw [fullK_neg hs, fullK_neg hs] at e
      exact full_inj hw hd ss p p' h xs xs' hp hp' hl hl' hx hx' e
    · rw [opts_pos hs] at hp hp'
      obtain ⟨a, p, rfl, ha, hp2⟩ := tups_cons.1 hp
      obtain ⟨a', p', rfl, ha', hp2'⟩ := tups_cons.1 hp'
      have hnl : ∀ b, b < (nl.getD s.toNat []).length → (nl.getD s.toNat []).getD b (.mk 0 []) ∈ nl.getD s.toNat [] := fun b hb => by
        rw [show (nl.getD s.toNat []).getD b (.mk 0 []) = (nl.getD s.toNat [])[b] by rw [List.getD_eq_getElem?_getD, List.getElem?_eq_getElem hb]; rfl]
        exact List.getElem_mem hb
      cases a with
      | zero =>
        simp only [thM, hs, if_false] at hl
        rw [kidsP hs] at hl
        cases xs with
        | nil => simp at hl
        | cons x xs =>
          cases a' with
          | zero =>
            simp only [thM, hs, if_false] at hl'
            rw [kidsP hs] at hl'
            cases xs' with
            | nil => simp at hl'
            | cons x' xs' =>
              rw [fullK_keep hs, fullK_keep hs] at e
              obtain ⟨e1, e2⟩ := List.cons.inj e
              obtain ⟨q1, q2⟩ := full_inj hw hd ss p p' (h + 1) xs xs' hp2 hp2' (by simpa using hl) (by simpa using hl') (fun y hy => hx y (by simp [hy])) (fun y hy => hx' y (by simp [hy])) e2
              exact ⟨by rw [q1], by rw [e1, q2]⟩
          | succ a' =>
            rw [fullK_keep hs, fullK_gone hs] at e
            obtain ⟨e1, _⟩ := List.cons.inj e
            exact absurd (hw _ _ (hnl a' (by omega))) (by rw [← e1]; exact hx x (by simp))
      | succ a =>
        simp only [thM, hs, if_false] at hl
        cases a' with
        | zero =>
          simp only [thM, hs, if_false] at hl'
          rw [kidsP hs] at hl'
          cases xs' with
          | nil => simp at hl'
          | cons x' xs' =>
            rw [fullK_gone hs, fullK_keep hs] at e
            obtain ⟨e1, _⟩ := List.cons.inj e
            exact absurd (hw _ _ (hnl a (by omega))) (by rw [e1]; exact hx' x' (by simp))
        | succ a' =>
          simp only [thM, hs, if_false] at hl'
          rw [fullK_gone hs, fullK_gone hs] at e
          obtain ⟨e1, e2⟩ := List.cons.inj e
          obtain ⟨q1, q2⟩ := full_inj hw hd ss p p' h xs xs' hp2 hp2' hl hl' hx hx' e2
          have b1 : a < (nl.getD s.toNat []).length := by omega
          have b2 : a' < (nl.getD s.toNat []).length := by omega
          rw [show (nl.getD s.toNat []).getD a (.mk 0 []) = (nl.getD s.toNat [])[a] by rw [List.getD_eq_getElem?_getD, List.getElem?_eq_getElem b1]; rfl, show (nl.getD s.toNat []).getD a' (.mk 0 []) = (nl.getD s.toNat [])[a'] by rw [List.getD_eq_getElem?_getD, List.getElem?_eq_getElem b2]; rfl] at e1
          have := (List.getElem_inj (hd s.toNat)).1 e1
          exact ⟨by rw [q1, this], q2⟩
theorem full_all (ha : ∀ v : Nat, (v : Int) < g.vars → ∀ x, fits g x (v : Int) = true → wordT g x = [] → x ∈ nl.getD v []) : ∀ (ss : List Int) (h : Nat) (ks : List Tree), (∀ s ∈ ss, s < g.vars) → ks.length = (kids ss).length → fitss g ks (kids ss) = true → ∃ p ∈ tups (optsN nl ss), ∃ xs, ks = fullK nl ss p xs ∧ xs.length = (kids (thM nl ss p h).1).length ∧ fitss g xs (kids (thM nl ss p h).1) = true ∧ ∀ x ∈ xs, wordT g x ≠ [] ∧ x ∈ ks
  | [], h, ks, _, hl, _ => ⟨[], by simp [optsN, kids, tups], [], by rw [List.eq_nil_of_length_eq_zero hl]; rfl, rfl, by rw [fitss.eq_def], fun x hx => by cases hx⟩
  | s :: ss, h, ks, hg, hl, hf => by
    have hg' : ∀ s ∈ ss, s < g.vars := fun x hx => hg x (by simp [hx])
    by_cases hs : s < 0
    · rw [kidsN hs] at hl hf
      obtain ⟨p, hp, xs, k1, k2, k3, k4⟩ := full_all ha ss h ks hg' hl hf
      refine ⟨p, by rw [opts_neg hs]; exact hp, xs, by rw [fullK_neg hs]; exact k1, ?_, ?_, k4⟩
      · simp only [thM, hs, if_true]; rw [kidsN hs]; exact k2
      · simp only [thM, hs, if_true]; rw [kidsN hs]; exact k3
    · rw [kidsP hs] at hl hf
      cases ks with
      | nil => simp at hl
      | cons t ks =>
        rw [fitss, Bool.and_eq_true] at hf
        by_cases ht : wordT g t = []
        · have hm := ha s.toNat (by have := hg s (by simp); omega) t (by rw [show ((s.toNat : Nat) : Int) = s by omega]; exact hf.1) ht
          obtain ⟨a, hal, hat⟩ := List.mem_iff_getElem.1 hm
          obtain ⟨p, hp, xs, k1, k2, k3, k4⟩ := full_all ha ss h ks hg' (by simpa using hl) hf.2
          refine ⟨(a + 1) :: p, by rw [opts_pos hs]; exact tups_cons.2 ⟨a + 1, p, rfl, by omega, hp⟩, xs, ?_, ?_, ?_, fun x hx => ⟨(k4 x hx).1, by simp [(k4 x hx).2]⟩⟩
          · rw [fullK_gone hs, ← k1, List.getD_eq_getElem?_getD, List.getElem?_eq_getElem hal, Option.getD_some, hat]
          · simp only [thM, hs, if_false]; exact k2
          · simp only [thM, hs, if_false]; exact k3
        · obtain ⟨p, hp, xs, k1, k2, k3, k4⟩ := full_all ha ss (h + 1) ks hg' (by simpa using hl) hf.2
          refine ⟨0 :: p, by rw [opts_pos hs]; exact tups_cons.2 ⟨0, p, rfl, by omega, hp⟩, t :: xs, by rw [fullK_keep hs, ← k1], ?_, ?_, fun x hx => ?_⟩
          · simp only [thM, hs, if_false]; rw [kidsP hs, List.length_cons, List.length_cons, k2]
          · simp only [thM, hs, if_false]; rw [kidsP hs, fitss, hf.1, k3]; rfl
          · rcases List.mem_cons.1 hx with rfl | hx
            · exact ⟨ht, by simp⟩
            · exact ⟨(k4 x hx).1, by simp [(k4 x hx).2]⟩
end
section
variable {g : Gram} (hg : g.ok) (hc : cycL g = []) {nl : List (List Tree)} (hnl : nlF g = some nl)
include hg hc hnl
theorem nl_word : ∀ v, ∀ x ∈ nl.getD v [], wordT g x = [] := fun v x hx => by
  obtain ⟨h1, h2⟩ := nlF_at hnl
  by_cases hv : v < g.vars.toNat
  · obtain ⟨q1, q2⟩ := h2 v hv
    rw [q2] at hx
    have := ((fList_ok q1).mem hx).1.2
    exact (wordT_rules (g := g) (h := stG g v) rfl x).trans this
  · rw [List.getD_eq_getElem?_getD, List.getElem?_eq_none (by omega)] at hx
    cases hx
theorem nl_nodup : ∀ v, (nl.getD v []).Nodup := fun v => by
  obtain ⟨h1, h2⟩ := nlF_at hnl
  by_cases hv : v < g.vars.toNat
  · obtain ⟨q1, q2⟩ := h2 v hv
    rw [q2]; exact (fList_ok q1).nodup
  · rw [List.getD_eq_getElem?_getD, List.getElem?_eq_none (by omega)]
    exact List.Pairwise.nil
theorem nl_all : ∀ v : Nat, (v : Int) < g.vars → ∀ x, fits g x (v : Int) = true → wordT g x = [] → x ∈ nl.getD v [] := fun v hv x hf hw => by
  obtain ⟨h1, h2⟩ := nlF_at hnl
  obtain ⟨q1, q2⟩ := h2 v (by omega)
  rw [q2]
  exact (fList_ok q1).all ⟨(fits_rules (g := stG g v) (h := g) rfl x v).trans hf, (wordT_rules (g := stG g v) (h := g) rfl x).trans hw⟩
end
def thE (g : Gram) (u : Int) (x : Tree) : Prop := fits g x u = true ∧ wordT g x ≠ []
section
variable {g : Gram} (hg : g.ok) (hc : cycL g = []) {nl : List (List Tree)} (hnl : nlF g = some nl) {S : TS} (hA : thA nl 0 g.rules ⟨[], []⟩ = .ok S)
abbrev thI (g : Gram) (nl : List (List Tree)) : List (Nat × List Nat) := thPs g nl (List.range' 0 g.rules.length)
include hA in
theorem th_lists : S.rules = (thI g nl).map (fun q => ⟨(thG1 g q.1).left, (thM nl (thG1 g q.1).right q.2 0).1⟩) ∧ S.frags = (thI g nl).map (fun q => [.mk 1 (q.1 : Int) (thM nl (thG1 g q.1).right q.2 0).2]) := by
  obtain ⟨h1, h2⟩ := thA_list (g := g) (nl := nl) g.rules.length 0 ⟨[], []⟩ S (by omega) (by rw [List.drop_zero]; exact hA)
  exact ⟨by simpa using h1, by simpa using h2⟩
include hA in
theorem th_at {j : Nat} (hj : j < S.rules.length) : ∃ (r : Nat) (hr : r < g.rules.length) (p : List Nat) (hI : j < (thI g nl).length), (thI g nl)[j] = (r, p) ∧ p ∈ tups (optsN nl g.rules[r].right) ∧ (thM nl g.rules[r].right p 0).1 ≠ [] ∧ S.rules[j] = ⟨g.rules[r].left, (thM nl g.rules[r].right p 0).1⟩ ∧ S.frags.getD j [] = [.mk 1 (r : Int) (thM nl g.rules[r].right p 0).2] := by
  obtain ⟨e1, e2⟩ := th_lists hA
  have hI : j < (thI g nl).length := by rw [e1, List.length_map] at hj; exact hj
  obtain ⟨⟨r, p⟩, hp⟩ : ∃ p, (thI g nl)[j] = p := ⟨_, rfl⟩
  have hm := List.getElem_mem hI
  rw [hp] at hm
  obtain ⟨hr, m1, m2⟩ := thPs_mem.1 hm
  rw [thG1_is hr] at m1 m2
  refine ⟨r, hr, p, hI, hp, m1, fun q => ?_, ?_, ?_⟩
  · unfold thOne at m2
    rw [q] at m2
    simp at m2
  · simp only [e1, List.getElem_map, hp, thG1_is hr]
  · rw [e2, List.getD_eq_getElem?_getD, List.getElem?_map, List.getElem?_eq_getElem hI]
    simp only [Option.map_some, Option.getD_some, hp, thG1_is hr]
include hA in
theorem th_of {r : Nat} (hr : r < g.rules.length) {p : List Nat} (hp : p ∈ tups (optsN nl g.rules[r].right)) (hn : (thM nl g.rules[r].right p 0).1 ≠ []) : ∃ (j : Nat) (_ : j < S.rules.length) (hI : j < (thI g nl).length), (thI g nl)[j] = (r, p) := by
  obtain ⟨j, hj, e⟩ := List.mem_iff_getElem.1 (thPs_mem.2 ⟨hr, by rw [thG1_is hr]; exact hp, by rw [thG1_is hr]; unfold thOne; exact decide_eq_true (fun q => hn (List.eq_nil_of_length_eq_zero q))⟩ : (r, p) ∈ thI g nl)
  exact ⟨j, by rw [(th_lists hA).1, List.length_map]; exact hj, hj, e⟩
theorem thE_all {xs : List Tree} {us : List Int} (h : EL (thE g) xs us) : xs.length = us.length ∧ fitss g xs us = true ∧ ∀ x ∈ xs, wordT g x ≠ [] := ⟨h.1, fitss_all h.1 fun i h1 h2 => (h.2 i h1 h2).1, fun x hx => by
  obtain ⟨i, hi, rfl⟩ := List.mem_iff_getElem.1 hx
  exact (h.2 i hi (by rw [← h.1]; exact hi)).2⟩
theorem mu_rule {r : Nat} {ss : List Int} {p : List Nat} {xs : List Tree} (hp : p ∈ tups (optsN nl ss)) (hl : xs.length = (kids (thM nl ss p 0).1).length) : muL (sing xs) [.mk 1 (r : Int) (thM nl ss p 0).2] = [.mk (r : Int) (fullK nl ss p xs)] := by
  have := mu_thM (nl := nl) ss p [] xs hp hl
  simp only [List.nil_append, List.length_nil] at this
  rw [muL, muF, if_pos rfl, this, muL]; rfl
include hg hc hnl hA
theorem thin_leads : LeadsT g (thG g S) S.frags (thE g) where
  sound j hj xs h := by
    obtain ⟨r, hr, p, hI, e1, e2, e3, e4, e5⟩ := th_at hA hj
    have e4 : (thG g S).rules[j] = ⟨g.rules[r].left, (thM nl g.rules[r].right p 0).1⟩ := e4
    rw [e4] at h ⊢
    rw [e5]
    obtain ⟨k1, k2, k3⟩ := thE_all h
    obtain ⟨f1, f2, f3⟩ := full_fits (nl_fits hg hc hnl) (nl_word hg hc hnl) g.rules[r].right p 0 xs e2 k1 k2
    obtain ⟨m1, m2⟩ := fits_mk hr rfl f1 f2
    refine ⟨_, mu_rule e2 k1, ⟨m1, ?_⟩, by rw [m2, f3]⟩
    rw [m2, f3]
    exact word_more _ _ e3 k1 k3
  inj j j' hj hj' xs xs' hl h h' he := by
    obtain ⟨r, hr, p, hI, e1, e2, e3, e4, e5⟩ := th_at hA hj
    obtain ⟨r', hr', p', hI', e1', e2', e3', e4', e5'⟩ := th_at hA hj'
    have e4 : (thG g S).rules[j] = ⟨g.rules[r].left, (thM nl g.rules[r].right p 0).1⟩ := e4
    have e4' : (thG g S).rules[j'] = ⟨g.rules[r'].left, (thM nl g.rules[r'].right p' 0).1⟩ := e4'
    rw [e4] at h
    rw [e4'] at h'
    obtain ⟨k1, k2, k3⟩ := thE_all h
    obtain ⟨k1', k2', k3'⟩ := thE_all h'
    rw [e5, e5', mu_rule e2 k1, mu_rule e2' k1'] at he
    obtain ⟨q1, q2⟩ := Tree.mk.inj (List.cons.inj he).1
    obtain rfl : r = r' := by omega
    obtain ⟨w1, w2⟩ := full_inj (nl_word hg hc hnl) (nl_nodup hg hc hnl) _ p p' 0 xs xs' e2 e2' k1 k1' k3 k3' q2
    exact ⟨(List.getElem_inj (thPs_nodup g nl 0 g.rules.length)).1 (show (thI g nl)[j] = (thI g nl)[j'] by rw [e1, e1', w1]), w2⟩
  surj u x h0 h1 hx := by
    obtain ⟨r, hr, e1, e2, e3, e4, e5⟩ := fits_parts hx.1
    obtain ⟨p, hp, xs, k1, k2, k3, k4⟩ := full_all (nl_all hg hc hnl) g.rules[r].right 0 x.kids (hg.hi _ (List.getElem_mem hr)) e3.symm e4
    obtain ⟨f1, f2, f3⟩ := full_fits (nl_fits hg hc hnl) (nl_word hg hc hnl) g.rules[r].right p 0 xs hp k2 k3
    have hne : (thM nl g.rules[r].right p 0).1 ≠ [] := fun q => hx.2 (by rw [e5, k1, f3, q, wordL_nil])
    obtain ⟨j, hj, hI, ej⟩ := th_of hA hr hp hne
    obtain ⟨r', hr', p', hI', g1, g2, g3, g4, g5⟩ := th_at hA hj
    rw [ej] at g1
    obtain ⟨rfl, rfl⟩ := Prod.mk.inj g1
    have g4 : (thG g S).rules[j] = ⟨g.rules[r].left, (thM nl g.rules[r].right p 0).1⟩ := g4
    refine ⟨j, hj, xs, by rw [g4, ← e2], ?_, ?_, fun y hy => ?_⟩
    · rw [g4]
      exact ⟨k2, fun i i1 i2 => ⟨fitss_at k3 i1 i2, (k4 _ (List.getElem_mem i1)).1⟩⟩
    · rw [g5, mu_rule g2 k2, ← k1, ← e1, ← Tree.eta]
    · have := cnts_mem (k4 y hy).2; rw [cnt_eq x]; omega
end
theorem thinF_same {g : Gram} (h : (thinF g).2.code = 0) (w : List Int) : SameOk g (thinF g).1 w (decide (w = [])) := by
  have hs := thin_step h
  rcases thinF_cases g with ⟨h1, _⟩ | ⟨nl, S, hg, hc, hn, hA, e⟩
  · exact absurd h h1
  rw [e] at hs ⊢
  have hS := thin_good hg hc hn hA
  have hcy := thin_cyc hg hc hn hA
  by_cases hw : w = []
  · subst hw
    rw [decide_eq_true rfl]
    intro hch
    obtain ⟨hC, _⟩ := chF_ok hch
    have hok := hS.ok hg
    refine ⟨by rw [(chF_new hC hok rfl hcy).fault], fun _ => ⟨?_, ?_⟩, fun q => by cases q⟩
    · have hl := empty_list hok hcy (fun q hq => (hS.each q hq).2.1.1) (v := stN g) (by have := hg.start; have := hg.stN; show stN g < g.vars.toNat; omega)
      have e2 : stG (⟨g.vars, g.terms, g.start, S.rules⟩ : Gram) (stN g) = ⟨g.vars, g.terms, g.start, S.rules⟩ := by
        have := hg.stN
        simp only [stG, this]
      rw [e2] at hl
      have := (fList_ok (g := ⟨g.vars, g.terms, g.start, S.rules⟩) (w := []) (by rw [hl])).len
      rw [hl] at this
      exact this.symm
    · obtain ⟨h1, h2⟩ := nlF_at hn
      have hst := hg.start
      have hsn := hg.stN
      obtain ⟨q1, q2⟩ := h2 (stN g) (by omega)
      rw [stG_start hg] at q1 q2
      show cntF g [] = (nl.getD (stN g) []).length
      rw [q2, (fList_ok q1).len]
  · rw [decide_eq_false hw]
    have hL := (thin_leads hg hc hn hA).leads
    have hst : Starts g (thG g S) (oneD (thE g)) (sgW g) w := starts_one (fun x hx => hx.1) (fun x hx hxw => ⟨hx, by rw [hxw]; exact hw⟩)
    have hpl : ∀ l ∈ S.frags, plL l = true := fun l hl => by
      rw [(th_lists hA).2] at hl
      obtain ⟨q, _, rfl⟩ := List.mem_map.1 hl
      rw [plL, plF, if_pos rfl, plL_thM]; rfl
    exact same_ok (s := ⟨⟨g.vars, g.terms, g.start, S.rules⟩, S.frags, nl.getD (stN g) []⟩) (by rw [hs]) rfl (fun _ => hcy) hL hst (okT_same (by rw [hs]) hpl hL hst)
end Go.Proofs.Yticnpbopelgmiaa
