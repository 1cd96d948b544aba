/-
  Templates, plain: counted, which kids they use; steps. Splits, plain: what split.Make makes, and that it is a step.
-/
import Derived.Test.YticnpbopelgmiaaQGramC
import Derived.Test.YticnpbopelgmiaaT1
set_option linter.unusedVariables false
set_option linter.unusedSimpArgs false
set_option linter.unusedSectionVars false
namespace Go.Proofs.Yticnpbopelgmiaa
open Go.RowKit

theorem Frag.eta (x : Frag) : x = .mk x.op x.n x.l := by cases x; rfl
mutual
def fsz : Frag → Nat
  | .mk _ _ l => 1 + fszs l
def fszs : List Frag → Nat
  | [] => 0
  | x :: r => fsz x + fszs r
end
theorem fsz_eq (x : Frag) : fsz x = 1 + fszs x.l := by cases x; rfl
theorem fsz_pos (x : Frag) : 1 ≤ fsz x := by rw [fsz_eq]; omega
theorem fszs_append : ∀ (a b : List Frag), fszs (a ++ b) = fszs a + fszs b
  | [], b => by simp [fszs]
  | x :: a, b => by simp only [List.cons_append, fszs, fszs_append a b]; omega
theorem fszs_mem {x : Frag} : ∀ {l : List Frag}, x ∈ l → fsz x ≤ fszs l
  | y :: l, h => by
    simp only [fszs]
    rcases List.mem_cons.1 h with rfl | h
    · omega
    · have := fszs_mem h; omega
theorem fszs_len : ∀ (l : List Frag), l.length ≤ fszs l
  | [] => by simp
  | x :: l => by have := fszs_len l; have := fsz_pos x; simp only [List.length_cons, fszs]; omega
theorem fszs_take {l : List Frag} {i : Nat} (h : i < l.length) : fszs (l.take (i + 1)) = fszs (l.take i) + fsz l[i] := by
  rw [List.take_succ_eq_append_getElem h, fszs_append]; simp [fszs]
theorem fszs_split (l : List Frag) (i : Nat) : fszs l = fszs (l.take i) + fszs (l.drop i) := by rw [← fszs_append, List.take_append_drop]
/-! ### Parts that count -/
mutual
def cpF : Frag → Nat
  | .mk o _ l => 1 + (if o = 1 ∨ o = 4 then cpL l else 0)
def cpL : List Frag → Nat
  | [] => 0
  | x :: r => cpF x + cpL r
end
theorem cpL_append : ∀ (a b : List Frag), cpL (a ++ b) = cpL a + cpL b
  | [], b => by simp [cpL]
  | x :: a, b => by simp only [List.cons_append, cpL, cpL_append a b]; omega
/-! ### Kids used -/
def bump (u : List Int) (n : Int) : List Int := u.set n.toNat (u.getD n.toNat 0 + 1)
mutual
def usF (m : Int) : Frag → List Int → Bool × List Int
  | .mk o n l, u => if o = 1 then (if n < 0 ∨ m ≤ n then (false, u) else usL m l u)
    else if o = 2 then (if n < 0 ∨ (u.length : Int) ≤ n then (false, u) else (true, bump u n))
    else if o = 4 then (if n < 0 ∨ (u.length : Int) ≤ n then (false, u) else usL m l (bump u n))
    else if o = 3 then (true, u) else (false, u)
def usL (m : Int) : List Frag → List Int → Bool × List Int
  | [], u => (true, u)
  | x :: r, u => bif (usF m x u).1 then usL m r (usF m x u).2 else (false, (usF m x u).2)
end
def Upto (B : Nat) (u : List Int) : Prop := ∀ x ∈ u, 0 ≤ x ∧ x ≤ B
theorem Upto.mono {B C : Nat} {u : List Int} (h : Upto B u) (hb : B ≤ C) : Upto C u := fun x hx => ⟨(h x hx).1, by have := (h x hx).2; omega⟩
/-! ### Steps -/
def okUse (old : Gram) (l : List Frag) (right : List Int) : Bool := (usL old.rules.length l (List.replicate (kids right).length 0)).1 && (usL old.rules.length l (List.replicate (kids right).length 0)).2.all (fun x => decide (x = 1))
def partFault (old : Gram) (l : List Frag) (right : List Int) : Int := if 60 < cpL l then 6 else if okUse old l right = true then 0 else 14
structure Step.fit (s : Step) : Prop where
  g : s.g.fit
  frags : s.frags.length ≤ 100000000
  frag : ∀ l ∈ s.frags, fszs l ≤ 100000000
  tree : cnts s.empty ≤ 100000000

theorem Step.fit.empty {s : Step} (h : s.fit) : s.empty.length ≤ 100000000 := Nat.le_trans (cnts_len _) h.tree
theorem Step.fit.trees {s : Step} (h : s.fit) : ∀ x ∈ s.empty, cnt x ≤ 100000000 := fun x hx => Nat.le_trans (cnts_mem hx) h.tree

/-! ### The template of a rule that stays -/
def holes (k : Nat) : List Frag := (List.range k).map fun (i : Nat) => Frag.mk 2 (i : Int) []
def nodeF (r : Int) (k : Nat) : List Frag := [.mk 1 r (holes k)]

/-! ### As data -/
theorem IsElt.fragE {h : Hp} {t u : Bool} {sz i off : Nat} {xs : List Frag} (hi : i < xs.length) : IsElt h (.eptr t sz (xs.map (fragD u)) i off) (fragA u xs[i]) off [] := by
  have := IsElt.mapE (h := h) (t := t) (sz := sz) (off := off) (f := fragD u) hi
  rwa [fragA_eq] at this
theorem IsElt.fragO {h : Hp} {u : Bool} {k m sz i off : Nat} {e : TypeId} {xs : List Frag} (hk : hget h k = some (.row e sz (xs.map (fragD u)))) (hm : (xs.map (fragD u)).length = m) (hi : i < xs.length) : IsElt h (.optr k m i off) (fragA u xs[i]) off [(k, some (.row e sz (xs.map (fragD u))))] := by
  have := IsElt.mapO (f := fragD u) (off := off) hk hm hi
  rwa [fragA_eq] at this
end Go.Proofs.Yticnpbopelgmiaa
namespace Go.Proofs.Yticnpbopelgmiaa
open Go.RowKit

structure SP where
  vars : Int
  rules : List Rule
  frags : List (List Frag)
  term : List Int
def SP.many (s : SP) : Bool := decide (64 < s.vars) || decide (160 < s.rules.length)
def SP.rule (s : SP) (v : Int) (right : List Int) (l : List Frag) : SP := ⟨s.vars, s.rules ++ [⟨v, right⟩], s.frags ++ [l], s.term⟩
def SP.fresh (s : SP) : SP := ⟨s.vars + 1, s.rules, s.frags, s.term⟩
/-- A nonterminal in the place of a symbol. -/
def SP.lift (s : SP) (x : Int) : SP := if 0 ≤ x then s else
  if s.term.getD (-1 - x).toNat 0 < 0 then ⟨s.vars + 1, s.rules ++ [⟨s.vars, [x]⟩], s.frags ++ [[]], s.term.set (-1 - x).toNat s.vars⟩ else s
def SP.lifted (s : SP) (x : Int) : Int := if 0 ≤ x then x else (s.lift x).term.getD (-1 - x).toNat 0
def SP.lifts : SP → List Int → SP
  | s, [] => s
  | s, x :: r => SP.lifts (s.lift x) r
def SP.lifteds : SP → List Int → List Int
  | _, [] => []
  | s, x :: r => s.lifted x :: SP.lifteds (s.lift x) r
theorem SP.lifteds_length : ∀ (s : SP) (l : List Int), (s.lifteds l).length = l.length
  | _, [] => rfl
  | s, x :: r => by simp [SP.lifteds, SP.lifteds_length]
/-- The nonterminals of what is left, from the second symbol on. -/
def rests (v : Int) (l : List Int) : List Int := (List.range (l.length - 2)).map (fun (i : Nat) => v + (i : Int)) ++ [l.getD (l.length - 1) 0]
def holes2 : List Frag := [.mk 2 0 [], .mk 2 1 []]
/-- The rules of pairs: the first k of them. -/
def pairR (v : Int) (l rs : List Int) : Nat → List Rule
  | 0 => []
  | k + 1 => pairR v l rs k ++ [⟨if k = 0 then v else rs.getD (k - 1) 0, [l.getD k 0, rs.getD k 0]⟩]
def pairF (r : Int) : Nat → List (List Frag)
  | 0 => []
  | k + 1 => pairF r k ++ [if k = 0 then [.mk 1 r holes2] else holes2]
theorem rests_length (v : Int) {l : List Int} (h : 2 ≤ l.length) : (rests v l).length = l.length - 1 := by simp [rests]; omega
/-- What becomes of a rule of two symbols or more. -/
def SP.split (s : SP) (v r : Int) (right : List Int) : SP :=
  ⟨(s.lifts right).vars + ((right.length - 2 : Nat) : Int), (s.lifts right).rules ++ pairR v (s.lifteds right) (rests (s.lifts right).vars (s.lifteds right)) (right.length - 1),
    (s.lifts right).frags ++ pairF r (right.length - 1), (s.lifts right).term⟩
def SP.one (s : SP) (r : Nat) (x : Rule) : SP := if x.right.length < 2 then s.rule x.left x.right (nodeF r (kids x.right).length) else s.split x.left r x.right
def zeroStep : Step := ⟨⟨0, 0, 0, []⟩, [], []⟩
/-! ### Steps -/
inductive All2 {α β : Type} (P : α → β → Prop) : List α → List β → Prop
  | nil : All2 P [] []
  | cons {a : α} {b : β} {xs : List α} {ys : List β} (h : P a b) (r : All2 P xs ys) : All2 P (a :: xs) (b :: ys)
theorem All2.append {α β : Type} {P : α → β → Prop} {a c : List α} {b d : List β} (h : All2 P a b) (k : All2 P c d) : All2 P (a ++ c) (b ++ d) := by
  induction h with
  | nil => exact k
  | cons h r ih => exact .cons h ih
theorem All2.snoc {α β : Type} {P : α → β → Prop} {a : List α} {b : List β} {x : α} {y : β} (h : All2 P a b) (k : P x y) : All2 P (a ++ [x]) (b ++ [y]) := h.append (.cons k .nil)
theorem All2.len {α β : Type} {P : α → β → Prop} {a : List α} {b : List β} (h : All2 P a b) : a.length = b.length := by
  induction h with
  | nil => rfl
  | cons h r ih => simp [ih]
abbrev PartsOk (old : Gram) (ls : List (List Frag)) (rs : List Rule) : Prop := All2 (fun l r => partFault old l r.right = 0) ls rs
theorem usL_holes (m : Int) : ∀ (n i : Nat), usL m ((List.range' i n).map fun (j : Nat) => Frag.mk 2 (j : Int) []) (List.replicate i 1 ++ List.replicate n 0) = (true, List.replicate (i + n) 1)
  | 0, i => by simp [usL]
  | n + 1, i => by
    rw [List.range'_succ, List.map_cons, usL]
    have e : usF m (.mk 2 (i : Int) []) (List.replicate i 1 ++ List.replicate (n + 1) 0) = (true, List.replicate (i + 1) 1 ++ List.replicate n 0) := by
      rw [usF, if_neg (by decide), if_pos rfl, if_neg (by simp; omega)]
      congr 1
      rw [bump]
      simp only [Int.toNat_natCast]
      rw [List.replicate_succ, List.getD_eq_getElem?_getD, List.getElem?_append_right (by simp), List.set_append_right _ _ (by simp)]
      simp [List.replicate_succ']
    rw [e]
    simp only [cond_true]
    rw [usL_holes m n (i + 1)]
    congr 2
    omega
theorem usL_hole (m : Int) (k : Nat) : usL m (holes k) (List.replicate k 0) = (true, List.replicate k 1) := by
  have := usL_holes m k 0
  rw [holes, List.range_eq_range']
  simpa using this
theorem cpL_holes : ∀ (k : Nat), cpL (holes k) = k
  | 0 => rfl
  | k + 1 => by rw [show holes (k + 1) = holes k ++ [.mk 2 k []] by simp [holes, List.range_succ], cpL_append, cpL_holes k]; simp [cpL, cpF]
theorem part_node {old : Gram} {r : Nat} {right : List Int} (hr : r < old.rules.length) (hk : (kids right).length ≤ 59) : partFault old (nodeF r (kids right).length) right = 0 := by
  have h1 : cpL (nodeF r (kids right).length) = 1 + (kids right).length := by simp [nodeF, cpL, cpF, cpL_holes]
  have h2 : usL old.rules.length (nodeF r (kids right).length) (List.replicate (kids right).length 0) = (true, List.replicate (kids right).length 1) := by
    rw [nodeF, usL, usF, if_pos rfl, if_neg (by omega), usL_hole]; simp [usL]
  rw [partFault, if_neg (by omega), if_pos]
  rw [okUse, h2]; simp
theorem part_nil {old : Gram} {x : Int} (hx : x < 0) : partFault old [] [x] = 0 := by
  rw [partFault, if_neg (by simp [cpL]), if_pos]
  rw [okUse, kids_neg hx]; simp [usL]
theorem kids_two {a b : Int} (ha : 0 ≤ a) (hb : 0 ≤ b) : (kids [a, b]).length = 2 := by simp [kids, ha, hb]
theorem part_holes2 {old : Gram} {a b : Int} (ha : 0 ≤ a) (hb : 0 ≤ b) : partFault old holes2 [a, b] = 0 := by
  rw [partFault, if_neg (by simp [cpL, cpF, holes2]), if_pos]
  have := usL_hole old.rules.length 2
  rw [okUse, kids_two ha hb]
  rw [show holes2 = holes 2 from rfl, this]; decide
theorem part_node2 {old : Gram} {r : Nat} {a b : Int} (hr : r < old.rules.length) (ha : 0 ≤ a) (hb : 0 ≤ b) : partFault old [.mk 1 r holes2] [a, b] = 0 := by
  have := part_node (old := old) (r := r) (right := [a, b]) hr (by rw [kids_two ha hb]; omega)
  rwa [kids_two ha hb] at this

/-! ### What is so of a splitter on its way -/
structure SP.fit (g : Gram) (s : SP) : Prop where
  vars : g.vars ≤ s.vars
  left : ∀ r ∈ s.rules, 0 ≤ r.left ∧ r.left < s.vars
  sym : ∀ r ∈ s.rules, ∀ x ∈ r.right, -g.terms ≤ x ∧ x < s.vars
  two : ∀ r ∈ s.rules, r.right.length ≤ 2 ∧ (r.right.length = 2 → ∀ x ∈ r.right, 0 ≤ x)
  parts : PartsOk g s.frags s.rules
  tlen : (s.term.length : Int) = g.terms
  term : ∀ x ∈ s.term, x < s.vars
theorem SP.fit.rule {g : Gram} {s : SP} (h : s.fit g) {v : Int} {right : List Int} {l : List Frag} (h1 : 0 ≤ v ∧ v < s.vars) (h2 : ∀ x ∈ right, -g.terms ≤ x ∧ x < s.vars) (h3 : right.length ≤ 2 ∧ (right.length = 2 → ∀ x ∈ right, 0 ≤ x)) (h4 : partFault g l right = 0) : (s.rule v right l).fit g := by
  refine ⟨h.vars, ?_, ?_, ?_, h.parts.snoc h4, h.tlen, h.term⟩ <;>
  · intro r hr
    rcases List.mem_append.1 hr with hr | hr
    · first | exact h.left r hr | exact h.sym r hr | exact h.two r hr
    · rw [List.mem_singleton.1 hr]; first | exact h1 | exact h2 | exact h3
theorem SP.fit.grow {g : Gram} {s : SP} (h : s.fit g) {n : Int} (hn : 0 ≤ n) : SP.fit g ⟨s.vars + n, s.rules, s.frags, s.term⟩ :=
  ⟨by have := h.vars; dsimp only; omega, fun r hr => by have := h.left r hr; dsimp only; omega, fun r hr x hx => by have := h.sym r hr x hx; dsimp only; omega, h.two, h.parts, h.tlen, fun x hx => by have := h.term x hx; dsimp only; omega⟩
theorem SP.fit.lift {g : Gram} {s : SP} (hg : g.ok) (h : s.fit g) {x : Int} (hx : -g.terms ≤ x ∧ x < s.vars) : (s.lift x).fit g ∧ s.vars ≤ (s.lift x).vars ∧ 0 ≤ s.lifted x ∧ s.lifted x < (s.lift x).vars := by
  have hv := h.vars
  have hv1 := hg.vars1
  have hv2 := hg.terms0
  by_cases h0 : 0 ≤ x
  · have e : s.lift x = s := by rw [SP.lift, if_pos h0]
    rw [e]
    refine ⟨h, Int.le_refl _, ?_, ?_⟩ <;> rw [SP.lifted, if_pos h0]
    · exact h0
    · exact hx.2
  · have hl : (-1 - x).toNat < s.term.length := by have := h.tlen; omega
    by_cases h1 : s.term.getD (-1 - x).toNat 0 < 0
    · have e : s.lift x = ⟨s.vars + 1, s.rules ++ [⟨s.vars, [x]⟩], s.frags ++ [[]], s.term.set (-1 - x).toNat s.vars⟩ := by rw [SP.lift, if_neg h0, if_pos h1]
      have e2 : s.lifted x = s.vars := by
        rw [SP.lifted, if_neg h0, e]
        simp only [List.getD_eq_getElem?_getD]
        rw [List.getElem?_set_self hl]; rfl
      rw [e2, e]
      have k := (h.grow (n := 1) (by decide)).rule (v := s.vars) (right := [x]) (l := []) (by dsimp only; omega) (fun y hy => by rw [List.mem_singleton.1 hy]; dsimp only; omega) ⟨by simp, by simp⟩ (part_nil (by omega))
      refine ⟨⟨k.vars, k.left, k.sym, k.two, k.parts, by have := h.tlen; simpa using this, fun y hy => ?_⟩, by dsimp only; omega, by omega, by dsimp only; omega⟩
      rcases List.mem_or_eq_of_mem_set hy with hy | rfl
      · have := h.term y hy; dsimp only; omega
      · dsimp only; omega
    · have e : s.lift x = s := by rw [SP.lift, if_neg h0, if_neg h1]
      have e2 : s.lifted x = s.term.getD (-1 - x).toNat 0 := by rw [SP.lifted, if_neg h0, e]
      rw [e2, e]
      refine ⟨h, Int.le_refl _, by omega, ?_⟩
      rw [List.getD_eq_getElem?_getD, List.getElem?_eq_getElem hl]
      exact h.term _ (List.getElem_mem hl)
theorem SP.fit.lifts {g : Gram} (hg : g.ok) : ∀ {l : List Int} {s : SP}, s.fit g → (∀ x ∈ l, -g.terms ≤ x ∧ x < g.vars) → (s.lifts l).fit g ∧ s.vars ≤ (s.lifts l).vars ∧ ∀ y ∈ s.lifteds l, 0 ≤ y ∧ y < (s.lifts l).vars
  | [], s, h, _ => ⟨h, Int.le_refl _, fun y hy => by simp [SP.lifteds] at hy⟩
  | x :: l, s, h, hx => by
    have hv := h.vars
    have h0 := hx x (by simp)
    obtain ⟨k1, k2, k3, k4⟩ := h.lift hg (x := x) ⟨h0.1, by omega⟩
    obtain ⟨j1, j2, j3⟩ := SP.fit.lifts hg (l := l) k1 (fun y hy => hx y (by simp [hy]))
    refine ⟨j1, by rw [SP.lifts]; omega, fun y hy => ?_⟩
    rw [SP.lifteds] at hy
    rw [SP.lifts]
    rcases List.mem_cons.1 hy with rfl | hy
    · exact ⟨k3, by omega⟩
    · exact j3 y hy
theorem rests_get {v : Int} {l : List Int} {N : Int} (hl : 2 ≤ l.length) (h0 : 0 ≤ v) (hN : ∀ y ∈ l, 0 ≤ y ∧ y < N) (hv : v + ((l.length - 2 : Nat) : Int) ≤ N) : ∀ y ∈ rests v l, 0 ≤ y ∧ y < N := by
  intro y hy
  rw [rests] at hy
  rcases List.mem_append.1 hy with hy | hy
  · obtain ⟨i, hi, rfl⟩ := List.mem_map.1 hy
    have := List.mem_range.1 hi
    omega
  · rw [List.mem_singleton.1 hy, List.getD_eq_getElem?_getD, List.getElem?_eq_getElem (by omega)]
    exact hN _ (List.getElem_mem _)
theorem getD_mem {l : List Int} {k : Nat} (h : k < l.length) : l.getD k 0 ∈ l := by rw [List.getD_eq_getElem?_getD, List.getElem?_eq_getElem h]; exact List.getElem_mem h
theorem SP.fit.pairs {g : Gram} {s : SP} (h : s.fit g) {v : Int} {r : Nat} {l rs : List Int} (hr : r < g.rules.length) (hv : 0 ≤ v ∧ v < s.vars) (h1 : ∀ y ∈ l, 0 ≤ y ∧ y < s.vars) (h2 : ∀ y ∈ rs, 0 ≤ y ∧ y < s.vars) (ht : 0 ≤ g.terms) : ∀ k, k ≤ l.length → k ≤ rs.length → SP.fit g ⟨s.vars, s.rules ++ pairR v l rs k, s.frags ++ pairF r k, s.term⟩
  | 0, _, _ => by simpa [pairR, pairF] using h
  | k + 1, hk, hk' => by
    have ih := SP.fit.pairs h hr hv h1 h2 ht k (by omega) (by omega)
    have a1 := h1 _ (getD_mem (l := l) (k := k) (by omega))
    have a2 := h2 _ (getD_mem (l := rs) (k := k) (by omega))
    have := ih.rule (v := if k = 0 then v else rs.getD (k - 1) 0) (right := [l.getD k 0, rs.getD k 0]) (l := if k = 0 then [.mk 1 r holes2] else holes2) (by
        split
        · exact hv
        · exact h2 _ (getD_mem (by omega))) (fun x hx => by
        simp only [List.mem_cons, List.not_mem_nil, or_false] at hx
        rcases hx with rfl | rfl <;> dsimp only <;> omega) ⟨by simp, fun _ x hx => by
        simp only [List.mem_cons, List.not_mem_nil, or_false] at hx
        rcases hx with rfl | rfl <;> omega⟩ (by
        split
        · exact part_node2 hr a1.1 a2.1
        · exact part_holes2 a1.1 a2.1)
    simpa [SP.rule, pairR, pairF, List.append_assoc] using this
theorem SP.fit.one {g : Gram} {s : SP} (hg : g.ok) (h : s.fit g) {i : Nat} (hi : i < g.rules.length) {x : Rule} (hx : ruleFault g x = 0) : (s.one i x).fit g := by
  obtain ⟨h1, h2, h3, h4⟩ := ruleFault_zero hx
  have hv := h.vars
  rw [SP.one]
  split
  · rename_i hl
    refine h.rule ⟨h2, by omega⟩ (fun y hy => by have := h4 y hy; omega) ⟨by omega, by omega⟩ (part_node hi ?_)
    have := kids_le x.right
    omega
  · rename_i hl
    obtain ⟨k1, k2, k3⟩ := SP.fit.lifts hg h h4
    have hle := SP.lifteds_length s x.right
    have hk := hg.vars1
    have hr2 := rests_length (v := (s.lifts x.right).vars) (l := s.lifteds x.right) (by omega)
    have := (k1.grow (n := ((x.right.length - 2 : Nat) : Int)) (by omega)).pairs (v := x.left) (l := s.lifteds x.right) (rs := rests (s.lifts x.right).vars (s.lifteds x.right)) hi (by dsimp only; omega) (fun y hy => by have := k3 y hy; dsimp only; omega)
      (rests_get (by omega) (by omega) (fun y hy => by have := k3 y hy; dsimp only; omega) (by dsimp only; rw [hle]; omega)) hg.terms0 (x.right.length - 1) (by omega) (by omega)
    exact this
theorem Gram.ok.rule {g : Gram} (h : g.ok) {r : Rule} (hr : r ∈ g.rules) : ruleFault g r = 0 := by
  unfold ruleFault
  rw [if_neg (by have := h.right r hr; omega), if_neg]
  simp only [not_or]
  refine ⟨by have := h.left0 r hr; omega, by have := h.left r hr; omega, ?_⟩
  simp only [Bool.not_eq_true, List.any_eq_false]
  intro s hs
  have := h.lo r hr s hs
  have := h.hi r hr s hs
  simp [badSym]; omega
/-! ### Made once more -/
/-! ### The terminals that were met, as a list -/
structure TL (n : Nat) (T are term : List Int) : Prop where
  len : term.length = n
  are : are = T.map (fun x => term.getD (-1 - x).toNat 0)
  mem : ∀ x ∈ T, x < 0 ∧ (-1 - x).toNat < n ∧ 0 ≤ term.getD (-1 - x).toNat 0
  out : ∀ x : Int, x < 0 → (-1 - x).toNat < n → x ∉ T → term.getD (-1 - x).toNat 0 < 0
theorem TL.add {n : Nat} {T are term : List Int} (h : TL n T are term) {x v : Int} (hx : x < 0) (hn : (-1 - x).toNat < n) (hT : x ∉ T) (hv : 0 ≤ v) : TL n (T ++ [x]) (are ++ [v]) (term.set (-1 - x).toNat v) := by
  have hl := h.len
  have self : (term.set (-1 - x).toNat v).getD (-1 - x).toNat 0 = v := by
    rw [List.getD_eq_getElem?_getD, List.getElem?_set_self (by omega)]; rfl
  have other : ∀ y : Int, y < 0 → y ≠ x → (term.set (-1 - x).toNat v).getD (-1 - y).toNat 0 = term.getD (-1 - y).toNat 0 := fun y hy hne => by
    rw [List.getD_eq_getElem?_getD, List.getD_eq_getElem?_getD, List.getElem?_set_ne (by omega)]
  refine ⟨by simpa using hl, ?_, ?_, ?_⟩
  · rw [List.map_append, h.are]
    congr 1
    · refine List.map_congr_left fun y hy => ?_
      rw [other y (h.mem y hy).1 (fun e => hT (e ▸ hy))]
    · simp only [List.map_cons, List.map_nil, self]
  · intro y hy
    rcases List.mem_append.1 hy with hy | hy
    · rw [other y (h.mem y hy).1 (fun e => hT (e ▸ hy))]; exact h.mem y hy
    · rw [List.mem_singleton.1 hy]; exact ⟨hx, hn, by rw [self]; exact hv⟩
  · intro y hy hyn hyT
    have h1 : y ≠ x := fun e => hyT (by rw [e]; simp)
    rw [other y hy h1]
    exact h.out y hy hyn (fun hh => hyT (by simp [hh]))
end Go.Proofs.Yticnpbopelgmiaa
