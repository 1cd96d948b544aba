/-
  Thin, plain: rules without what may be nothing; one by one, and number by number. Thin, plain: number after number. Sim: trees: counted, fitting, order.
-/
import Derived.Test.YticnpbopelgmiaaSaP
import Derived.Test.YticnpbopelgmiaaP1
import Derived.Test.YticnpbopelgmiaaQG1
set_option linter.unusedVariables false
set_option linter.unusedSimpArgs false
set_option linter.unusedSectionVars false
namespace Go.Proofs.Yticnpbopelgmiaa
open Go.RowKit

mutual
def asF : Tree → Frag
  | .mk r k => .mk 1 r (asFs k)
def asFs : List Tree → List Frag
  | [] => []
  | x :: l => asF x :: asFs l
end
theorem asFs_map : ∀ l : List Tree, asFs l = l.map asF
  | [] => rfl
  | x :: l => by simp [asFs, asFs_map l]
theorem asF_eq (x : Tree) : asF x = .mk 1 x.rule (x.kids.map asF) := by cases x; rw [asF, asFs_map]; rfl
mutual
theorem asF_fsz : ∀ x : Tree, fsz (asF x) = cnt x
  | .mk r k => by rw [asF, fsz, asFs_fsz k, cnt]
theorem asFs_fsz : ∀ l : List Tree, fszs (asFs l) = cnts l
  | [] => rfl
  | x :: l => by simp only [asFs, fszs, asF_fsz x, asFs_fsz l, cnts]
end
/-- A hole. -/
abbrev holeF (n : Int) : Frag := .mk 2 n []
structure TS where
  rules : List Rule
  frags : List (List Frag)
def TS.put (S : TS) (left : Int) (r : Nat) (right : List Int) (l : List Frag) : Except TS TS :=
  if right.length = 0 then .ok S else if S.rules.length = 160 ∨ 60 < fszs l + 1 then .error S else .ok ⟨S.rules ++ [⟨left, right⟩], S.frags ++ [[.mk 1 r l]]⟩
/-- One behind the other, while none fails. -/
def thL {α : Type} (f : α → TS → Except TS TS) : List α → TS → Except TS TS
  | [], S => .ok S
  | t :: ts, S => match f t S with
    | .error e => .error e
    | .ok S' => thL f ts S'
theorem thL_append {α : Type} (f : α → TS → Except TS TS) : ∀ (a b : List α) (S : TS), thL f (a ++ b) S = match thL f a S with
    | .error e => .error e
    | .ok S' => thL f b S'
  | [], b, S => rfl
  | t :: a, b, S => by
    simp only [List.cons_append, thL]
    cases f t S with
    | error e => rfl
    | ok S' => exact thL_append f a b S'
theorem thL_map {α β : Type} (f : β → TS → Except TS TS) (k : α → β) : ∀ (a : List α) (S : TS), thL f (a.map k) S = thL (fun x => f (k x)) a S
  | [], S => rfl
  | t :: a, S => by
    simp only [List.map_cons, thL]
    cases f (k t) S with
    | error e => rfl
    | ok S' => exact thL_map f k a S'
theorem thL_congr {α : Type} {f g : α → TS → Except TS TS} : ∀ {a : List α}, (∀ x ∈ a, ∀ S, f x S = g x S) → ∀ S, thL f a S = thL g a S
  | [], _, S => rfl
  | t :: a, h, S => by
    simp only [thL]
    rw [h t (by simp)]
    cases g t S with
    | error e => rfl
    | ok S' => exact thL_congr (fun x hx => h x (by simp [hx])) S'
theorem thL_flat {α β : Type} (f : β → TS → Except TS TS) (k : α → List β) : ∀ (a : List α) (S : TS), thL f (a.flatMap k) S = thL (fun x => thL f (k x)) a S
  | [], S => rfl
  | t :: a, S => by
    rw [List.flatMap_cons, thL_append]
    simp only [thL]
    cases thL f (k t) S with
    | error e => rfl
    | ok S' => exact thL_flat f k a S'
/-- What becomes of a rule: its symbols from one on. -/
def thR (nl : List (List Tree)) (left : Int) (r : Nat) : List Int → Nat → List Int → List Frag → TS → Except TS TS
  | [], _, right, l, S => S.put left r right l
  | s :: ss, h, right, l, S => if s < 0 then thR nl left r ss h (right ++ [s]) l S else match thR nl left r ss (h + 1) (right ++ [s]) (l ++ [holeF h]) S with
    | .error e => .error e
    | .ok S' => thL (fun t S => thR nl left r ss h right (l ++ [asF t]) S) (nl.getD s.toNat []) S'
/-- All rules; the one at which there is too much. -/
def thA (nl : List (List Tree)) : Nat → List Rule → TS → Except Nat TS
  | _, [], S => .ok S
  | i, x :: rs, S => match thR nl x.left i x.right 0 [] [] S with
    | .error _ => .error i
    | .ok S' => thA nl (i + 1) rs S'
/-- The trees of the empty word, nonterminal by nonterminal. -/
abbrev stG (g : Gram) (v : Nat) : Gram := ⟨g.vars, g.terms, v, g.rules⟩
def nlA (g : Gram) : Nat → Nat → List (List Tree) → Option (List (List Tree))
  | 0, _, acc => some acc
  | n + 1, v, acc => if (fListF (stG g v) []).2.code = 0 then nlA g n (v + 1) (acc ++ [(fListF (stG g v) []).1]) else none
def nlF (g : Gram) : Option (List (List Tree)) := nlA g g.vars.toNat 0 []
def thinF (g : Gram) : Step × Fault :=
  if (gramFault g).code = 0 then
    if cycL g = [] then
      match nlF g with
      | none => (zeroStep, ⟨6, -1⟩)
      | some nl => match thA nl 0 g.rules ⟨[], []⟩ with
        | .error i => (zeroStep, ⟨6, i⟩)
        | .ok S => (⟨⟨g.vars, g.terms, g.start, S.rules⟩, S.frags, nl.getD (stN g) []⟩, ⟨0, 0⟩)
    else (zeroStep, ⟨10, -1⟩)
  else (zeroStep, gramFault g)
theorem nlA_some {g : Gram} : ∀ {n v : Nat} {acc nl : List (List Tree)}, nlA g n v acc = some nl → nl.length = acc.length + n ∧ (∀ i, i < acc.length → nl.getD i [] = acc.getD i []) ∧ ∀ i, i < n → (fListF (stG g (v + i)) []).2.code = 0 ∧ nl.getD (acc.length + i) [] = (fListF (stG g (v + i)) []).1
  | 0, v, acc, nl, h => by
    rw [nlA] at h; cases h
    exact ⟨rfl, fun _ _ => rfl, fun i hi => by omega⟩
  | n + 1, v, acc, nl, h => by
    rw [nlA] at h
    split at h
    · rename_i hc
      obtain ⟨h1, h2, h3⟩ := nlA_some h
      rw [List.length_append, List.length_singleton] at h1 h3
      refine ⟨by omega, fun i hi => ?_, fun i hi => ?_⟩
      · rw [h2 i (by simp; omega)]
        simp only [List.getD_eq_getElem?_getD]
        rw [List.getElem?_append_left hi]
      · cases i with
        | zero =>
          refine ⟨hc, ?_⟩
          have := h2 acc.length (by simp)
          rw [Nat.add_zero, this]
          simp
        | succ i =>
          obtain ⟨q1, q2⟩ := h3 i (by omega)
          rw [show v + (i + 1) = v + 1 + i by omega, show acc.length + (i + 1) = acc.length + 1 + i by omega]
          exact ⟨q1, q2⟩
    · cases h
theorem nlF_at {g : Gram} {nl : List (List Tree)} (h : nlF g = some nl) : nl.length = g.vars.toNat ∧ ∀ v, v < g.vars.toNat → (fListF (stG g v) []).2.code = 0 ∧ nl.getD v [] = (fListF (stG g v) []).1 := by
  obtain ⟨h1, _, h3⟩ := nlA_some h
  simp only [List.length_nil, Nat.zero_add] at h1 h3
  exact ⟨h1, h3⟩
theorem stG_ok {g : Gram} (hg : g.ok) {v : Nat} (hv : v < g.vars.toNat) : (stG g v).ok :=
  { hg with start := (by show (v : Int) < g.vars; omega), start0 := (by show 0 ≤ (v : Int); omega) }
theorem stG_cyc {g : Gram} (hg : g.ok) {v : Nat} (hv : v < g.vars.toNat) : cycL (stG g v) = cycL g := by rw [cycL_eq (stG_ok hg hv), cycL_eq hg]; rfl
theorem chF_of {g : Gram} (hg : g.ok) (hc : cycL g = []) : chF g [] = ⟨0, 0⟩ := by
  unfold chF
  rw [hg.fault, if_pos rfl, hc]
  rfl
theorem fList_bad {g : Gram} {w : List Int} (hch : chF g w = ⟨0, 0⟩) (h : ¬ (fListF g w).2.code = 0) : fListF g w = ([], ⟨6, -1⟩) := by
  have e : fListF g w = if (opF g w).code = 0 then (if 200 < cntF g w then ([], ⟨6, -1⟩) else listF g w (cntF g w) 0 []) else ([], opF g w) := rfl
  have ho : opF g w = if cntF g w = manyC then ⟨6, -1⟩ else ⟨0, 0⟩ := by unfold opF; rw [hch, if_pos rfl]
  rw [e] at h ⊢
  by_cases hm : cntF g w = manyC
  · rw [if_pos hm] at ho
    rw [ho, if_neg (by decide)]
  · rw [if_neg hm] at ho
    rw [ho, if_pos rfl] at h ⊢
    by_cases h2 : 200 < cntF g w
    · rw [if_pos h2]
    · rw [if_neg h2] at h ⊢
      exact listF_bad _ _ _ h
theorem nl_bad {g : Gram} (hg : g.ok) (hc : cycL g = []) {v : Nat} (hv : v < g.vars.toNat) (h : ¬ (fListF (stG g v) []).2.code = 0) : fListF (stG g v) [] = ([], ⟨6, -1⟩) :=
  fList_bad (chF_of (stG_ok hg hv) (by rw [stG_cyc hg hv, hc])) h
/-- Number by number: which of each kid's choices (none: it is kept). -/
def thM (nl : List (List Tree)) : List Int → List Nat → Nat → List Int × List Frag
  | [], _, _ => ([], [])
  | s :: ss, p, h => if s < 0 then (s :: (thM nl ss p h).1, (thM nl ss p h).2) else match p with
    | [] => ([], [])
    | 0 :: p => (s :: (thM nl ss p (h + 1)).1, holeF h :: (thM nl ss p (h + 1)).2)
    | (a + 1) :: p => ((thM nl ss p h).1, asF ((nl.getD s.toNat []).getD a (.mk 0 [])) :: (thM nl ss p h).2)
def tups : List Nat → List (List Nat)
  | [] => [[]]
  | c :: cs => (List.range c).flatMap fun a => (tups cs).map (a :: ·)
def optsN (nl : List (List Tree)) (syms : List Int) : List Nat := (kids syms).map fun s => (nl.getD s.toNat []).length + 1
theorem thR_tups (nl : List (List Tree)) (left : Int) (r : Nat) : ∀ (ss : List Int) (h : Nat) (right : List Int) (l : List Frag) (S : TS), thR nl left r ss h right l S = thL (fun p S => S.put left r (right ++ (thM nl ss p h).1) (l ++ (thM nl ss p h).2)) (tups (optsN nl ss)) S
  | [], h, right, l, S => by
    simp only [thR, optsN, kids, List.filter_nil, List.map_nil, tups, thL, thM, List.append_nil]
    cases S.put left r right l <;> rfl
  | s :: ss, h, right, l, S => by
    rw [thR]
    by_cases hs : s < 0
    · rw [if_pos hs, thR_tups nl left r ss h]
      have e : optsN nl (s :: ss) = optsN nl ss := by unfold optsN; rw [kidsN hs]
      rw [e]
      refine thL_congr (fun p _ S => ?_) S
      simp only [thM, hs, if_true, List.append_assoc, List.singleton_append]
    · rw [if_neg hs]
      have e : optsN nl (s :: ss) = ((nl.getD s.toNat []).length + 1) :: optsN nl ss := by unfold optsN; rw [kidsP hs]; rfl
      rw [e, tups, List.range_succ_eq_map, List.flatMap_cons, thL_append, thL_map, thR_tups nl left r ss (h + 1)]
      have e1 : thL (fun p S => S.put left r (right ++ [s] ++ (thM nl ss p (h + 1)).1) (l ++ [holeF h] ++ (thM nl ss p (h + 1)).2)) (tups (optsN nl ss)) S = thL (fun x S => S.put left r (right ++ (thM nl (s :: ss) (0 :: x) h).1) (l ++ (thM nl (s :: ss) (0 :: x) h).2)) (tups (optsN nl ss)) S := by
        refine thL_congr (fun p _ S => ?_) S
        simp only [thM, hs, if_false, List.append_assoc, List.singleton_append]
      rw [e1]
      cases thL (fun x S => S.put left r (right ++ (thM nl (s :: ss) (0 :: x) h).1) (l ++ (thM nl (s :: ss) (0 :: x) h).2)) (tups (optsN nl ss)) S with
      | error e => rfl
      | ok S' =>
        dsimp only
        rw [thL_flat, thL_map]
        have e2 : ∀ (ts : List Tree) (k : Nat), (nl.getD s.toNat []).drop k = ts → ∀ S, thL (fun t S => thR nl left r ss h right (l ++ [asF t]) S) ts S = thL (fun a S => thL (fun p S => S.put left r (right ++ (thM nl (s :: ss) p h).1) (l ++ (thM nl (s :: ss) p h).2)) ((tups (optsN nl ss)).map ((a + 1) :: ·)) S) (List.range' k ts.length) S := by
          intro ts
          induction ts with
          | nil => intro k hk S; rfl
          | cons t ts ih =>
            intro k hk S
            have hkl : k < (nl.getD s.toNat []).length := Classical.byContradiction fun hn => by
              rw [List.drop_of_length_le (by omega)] at hk; cases hk
            rw [List.drop_eq_getElem_cons hkl] at hk
            obtain ⟨h1, h2⟩ := List.cons.inj hk
            rw [List.length_cons, List.range'_succ]
            simp only [thL]
            rw [thR_tups nl left r ss h, thL_map]
            have e3 : thL (fun p S => S.put left r (right ++ (thM nl ss p h).1) (l ++ [asF t] ++ (thM nl ss p h).2)) (tups (optsN nl ss)) S = thL (fun x S => S.put left r (right ++ (thM nl (s :: ss) ((k + 1) :: x) h).1) (l ++ (thM nl (s :: ss) ((k + 1) :: x) h).2)) (tups (optsN nl ss)) S := by
              refine thL_congr (fun p _ S => ?_) S
              have : (nl.getD s.toNat []).getD k (.mk 0 []) = t := by rw [List.getD_eq_getElem?_getD, List.getElem?_eq_getElem hkl]; exact h1
              simp only [thM, hs, if_false, this, List.append_assoc, List.singleton_append]
            rw [e3]
            cases thL (fun x S => S.put left r (right ++ (thM nl (s :: ss) ((k + 1) :: x) h).1) (l ++ (thM nl (s :: ss) ((k + 1) :: x) h).2)) (tups (optsN nl ss)) S with
            | error e => rfl
            | ok S' => exact ih (k + 1) h2 S'
        have := e2 (nl.getD s.toNat []) 0 (by rw [List.drop_zero]) S'
        rw [this, List.range_eq_range']
end Go.Proofs.Yticnpbopelgmiaa
namespace Go.Proofs.Yticnpbopelgmiaa
open Go.RowKit

theorem tups_mem : ∀ (cs : List Nat) (p : List Nat), p ∈ tups cs → p.length = cs.length ∧ ∀ k, ∀ h : k < cs.length, p.getD k 0 < cs[k]
  | [], p, h => by
    simp only [tups, List.mem_singleton] at h
    subst h
    exact ⟨rfl, fun k hk => by simp at hk⟩
  | c :: cs, p, h => by
    rw [tups] at h
    simp only [List.mem_flatMap, List.mem_range, List.mem_map] at h
    obtain ⟨a, ha, q, hq, rfl⟩ := h
    obtain ⟨h1, h2⟩ := tups_mem cs q hq
    refine ⟨by simp [h1], fun k hk => ?_⟩
    cases k with
    | zero => simpa using ha
    | succ k =>
      have := h2 k (by simpa using hk)
      simp only [List.getD_cons_succ, List.getElem_cons_succ]
      exact this
theorem cpL_asFs : ∀ l : List Tree, cpL (asFs l) = cnts l := by
  have key : ∀ (n : Nat) (l : List Tree), cnts l < n → cpL (asFs l) = cnts l := by
    intro n
    induction n with
    | zero => intro l h; omega
    | succ n ih =>
      intro l
      induction l with
      | nil => intro _; rfl
      | cons x l ihl =>
        intro h
        cases x with
        | mk r k =>
          simp only [cnts, cnt] at h
          simp only [asFs, cpL, cnts, asF, cpF, cnt]
          have e1 := ihl (by omega)
          have e2 := ih k (by omega)
          rw [e1, e2]
          simp
  exact fun l => key _ l (Nat.lt_succ_self _)
theorem cpF_asF (x : Tree) : cpF (asF x) = cnt x := by
  have := cpL_asFs [x]
  simpa [asFs, cpL, cnts] using this
/-- Of what is made all parts count. -/
theorem thM_cp (nl : List (List Tree)) : ∀ (ss : List Int) (p : List Nat) (h : Nat), cpL (thM nl ss p h).2 = fszs (thM nl ss p h).2
  | [], p, h => by simp [thM, cpL, fszs]
  | s :: ss, p, h => by
    by_cases hs : s < 0
    · simp only [thM, hs, if_true]
      exact thM_cp nl ss p h
    · cases p with
      | nil => simp [thM, hs, cpL, fszs]
      | cons a p =>
        cases a with
        | zero =>
          simp only [thM, hs, if_false, cpL, fszs]
          rw [thM_cp nl ss p (h + 1)]; simp [cpF, fsz, fszs]
        | succ a =>
          simp only [thM, hs, if_false, cpL, fszs]
          rw [thM_cp nl ss p h, cpF_asF, asF_fsz]
end Go.Proofs.Yticnpbopelgmiaa
namespace Go.Proofs.Yticnpbopelgmiaa
open Go.RowKit
set_option maxRecDepth 100000

theorem kid_le {x : Tree} {N : Nat} (h : cnt x ≤ N) {i : Nat} (hi : i < x.kids.length) : cnt x.kids[i] ≤ N ∧ cnt x.kids[i] < cnt x := by
  have := cnts_mem (List.getElem_mem hi)
  rw [cnt_eq] at h
  have := cnt_eq x
  omega
theorem kids_len {x : Tree} {N : Nat} (h : cnt x ≤ N) : x.kids.length ≤ N := by
  have := cnts_len x.kids
  rw [cnt_eq] at h
  omega

/-! ### Counted -/
theorem size_sim {t : Bool} : ∀ (x : Tree), cnt x ≤ 100000000 → ∀ {m : Nat}, m ≤ 10000 → ACalls Try.prog 166 [.d (treeA t x), I m] [] (I (left_ m (cnt x))) [] := by
  refine Tree.ind fun x ih hN m hm => ?_
  refine ACalls.intro (n := 27) Try.func166 rfl rfl (by simp) (by rfl) ?_
  simp only [argFr]
  have hk := kids_len hN
  have hx := cnt_eq x
  repeat (first | refine wk ?_)
  refine t_loop (X := Nat) (fun i => i ≤ x.kids.length) (fun i => [(5, I i), (1, I (left_ m (1 + cnts (x.kids.take i)))), (2, .ptr 2 0)]) (fun _ => [(2, .box 49 [.d (iD x.rule), .d (treesD t x.kids)])]) (fun i => x.kids.length - i) 0 (Nat.zero_le _) ?_ (hf := ?_)
  rotate_left
  · refine ⟨.of rfl, int_eq rfl ?_, .of rfl, trivial⟩
    simp only [left_, List.take_zero, cnts]
    split <;> omega
  intro i hi
  by_cases hlt : i < x.kids.length
  · have hm1 := cnts_mem (List.getElem_mem hlt)
    have hm3 := cnts_take hlt
    have hm4 := cnts_drop hlt
    have hm5 : cnts x.kids = cnts (x.kids.take i) + cnts (x.kids.drop i) := by rw [← cnts_append, List.take_append_drop]
    by_cases hv : 1 + cnts (x.kids.take i) ≤ m
    · have e0 : left_ m (1 + cnts (x.kids.take i)) = ((m - (1 + cnts (x.kids.take i)) : Nat) : Int) := by unfold left_; rw [if_pos (by omega)]; omega
      rw [e0]
      repeat (first | refine wk ?_)
      refine s_call [] (hA := ih x.kids[i] (List.getElem_mem hlt) (by omega) (m := m - (1 + cnts (x.kids.take i))) (by omega)) (hr := ?_)
      have e : left_ ((m - (1 + cnts (x.kids.take i)) : Nat) : Int) (cnt x.kids[i]) = left_ m (1 + cnts (x.kids.take (i + 1))) := by
        unfold left_; rw [hm3]; split <;> split <;> omega
      rw [e]
      repeat (first | refine wk ?_)
      exact t_next (i + 1)
    · have e0 : left_ m (1 + cnts (x.kids.take i)) = -1 := by unfold left_; rw [if_neg (by omega)]
      have e1 : left_ m (cnt x) = -1 := by unfold left_; rw [if_neg (by omega)]
      rw [e0, e1]
      repeat (first | refine wk ?_)
      exact fin
  · rw [show x.kids.take i = x.kids from List.take_of_length_le (by omega), ← hx]
    repeat (first | refine wk ?_)
    exact fin

/-! ### Fitting -/
theorem fits_no {g : Gram} {x : Tree} {v : Int} (h : ¬ (0 ≤ x.rule ∧ x.rule < g.rules.length)) : fits g x v = false := by
  rw [fits_eq]
  by_cases h0 : 0 ≤ x.rule
  · rw [if_pos h0, List.getElem?_eq_none (by omega)]
  · rw [if_neg h0]
theorem fits_yes {g : Gram} {x : Tree} {v : Int} {i : Nat} (hi : i < g.rules.length) (e : x.rule = (i : Int)) : fits g x v = (decide (g.rules[i].left = v) && (decide ((kids g.rules[i].right).length = x.kids.length) && fitss g x.kids (kids g.rules[i].right))) := by
  rw [fits_eq, if_pos (by omega), e, Int.toNat_natCast, List.getElem?_eq_getElem hi]
set_option maxHeartbeats 4000000 in
theorem fits_sim {t u : Bool} {g : Gram} (hl : g.rules.length ≤ 100000000) (hr : ∀ r ∈ g.rules, r.right.length ≤ 100000000) : ∀ (x : Tree), cnt x ≤ 100000000 → ∀ {v : Int}, ACalls Try.prog 167 [.d (gramD t g), .d (treeA u x), I v] [] (B (fits g x v)) [] := by
  refine Tree.ind fun x ih hN v => ?_
  refine ACalls.intro (n := 62) Try.func167 rfl rfl (by simp) (by rfl) ?_
  simp only [argFr]
  have hk := kids_len hN
  by_cases h0 : x.rule < 0
  · rw [fits_no (by omega)]
    repeat (first | refine wk ?_)
    exact fin
  by_cases h1 : (g.rules.length : Int) ≤ x.rule
  · rw [fits_no (by omega)]
    repeat (first | refine wk ?_)
    exact fin
  obtain ⟨i, hi⟩ : ∃ i : Nat, x.rule = i := ⟨x.rule.toNat, by omega⟩
  have hlt : i < g.rules.length := by omega
  rw [fits_yes hlt hi]
  have hrk := hr _ (List.getElem_mem hlt)
  have hkl := kids_le g.rules[i].right
  by_cases h2 : g.rules[i].left = v
  rotate_left
  · rw [decide_eq_false h2, Bool.false_and]
    repeat (first | refine wk ?_)
    exact fin
  rw [decide_eq_true h2, Bool.true_and]
  repeat (first | refine wk ?_)
  refine s_call [(3, 900)] (hA := kids_sim) (hr := ?_)
  by_cases h3 : ((kids g.rules[i].right).length : Int) = x.kids.length
  · rw [decide_eq_true (by omega), Bool.true_and]
    repeat (first | refine wk ?_)
    refine t_loop (X := Nat) (fun j => j ≤ x.kids.length ∧ fitss g x.kids (kids g.rules[i].right) = fitss g (x.kids.drop j) ((kids g.rules[i].right).drop j)) (fun j => [(48, I j), (47, I x.kids.length), (46, .d (treesD u x.kids)), (7, .own 900 (kids g.rules[i].right).length), (4, .ptr 4 0), (3, .ptr 3 0)]) (fun _ => [(3, gramBox t g), (4, .box 49 [.d (iD x.rule), .d (treesD u x.kids)]), (900, .row 3 1 ((kids g.rules[i].right).map iD))]) (fun j => x.kids.length - j) 0 ⟨Nat.zero_le _, rfl⟩ ?_
    rintro j ⟨hj, hq⟩
    by_cases hjl : j < x.kids.length
    · have hjl' : j < (kids g.rules[i].right).length := by omega
      have hs := fitss_drop (g := g) (k := x.kids) (vs := kids g.rules[i].right) hjl hjl'
      have hkc := kid_le hN hjl
      repeat (first | refine wk ?_)
      refine s_call [] (hA := ih x.kids[j] (List.getElem_mem hjl) hkc.1 (v := (kids g.rules[i].right)[j])) (hr := ?_)
      cases hf : fits g x.kids[j] (kids g.rules[i].right)[j] with
      | true =>
        rw [hf, Bool.true_and] at hs
        repeat (first | refine wk ?_)
        exact t_next (j + 1) (a := ⟨by omega, hq.trans hs⟩)
      | false =>
        rw [hf, Bool.false_and] at hs
        rw [hq, hs]
        repeat (first | refine wk ?_)
        exact fin
    · rw [hq, fitss_end hjl]
      repeat (first | refine wk ?_)
      exact fin
  · rw [decide_eq_false (by omega), Bool.false_and]
    repeat (first | refine wk ?_)
    exact fin

/-! ### Order -/
theorem orderOf_sim {t u : Bool} : ∀ (x : Tree), cnt x ≤ 100000000 → ∀ (y : Tree), cnt y ≤ 100000000 → ACalls Try.prog 135 [.d (treeA t x), .d (treeA u y)] [] (I (ordT x y)) [] := by
  refine Tree.ind fun x ih hx y hy => ?_
  refine ACalls.intro (n := 59) Try.func135 rfl rfl (by simp) (by rfl) ?_
  simp only [argFr]
  rw [ordT_eq]
  have hk := kids_len hx
  have hl := kids_len hy
  by_cases h1 : x.rule < y.rule
  · rw [if_pos h1]
    repeat (first | refine wk ?_)
    exact fin
  by_cases h2 : y.rule < x.rule
  · rw [if_neg h1, if_pos h2]
    repeat (first | refine wk ?_)
    exact fin
  rw [if_neg h1, if_neg h2]
  repeat (first | refine wk ?_)
  refine t_loop (X := Nat) (fun i => i ≤ x.kids.length ∧ i ≤ y.kids.length ∧ ordL x.kids y.kids = ordL (x.kids.drop i) (y.kids.drop i)) (fun i => [(5, I i), (3, .ptr 3 0), (2, .ptr 2 0)]) (fun _ => [(2, .box 49 [.d (iD x.rule), .d (treesD t x.kids)]), (3, .box 49 [.d (iD y.rule), .d (treesD u y.kids)])]) (fun i => x.kids.length - i) 0 ⟨Nat.zero_le _, Nat.zero_le _, rfl⟩ ?_
  rintro i ⟨h1, h2, h3⟩
  by_cases hlt : i < x.kids.length
  · by_cases hlt' : i < y.kids.length
    · have hs := ordL_step hlt hlt'
      repeat (first | refine wk ?_)
      refine s_call [] (hA := ih x.kids[i] (List.getElem_mem hlt) (kid_le hx hlt).1 y.kids[i] (kid_le hy hlt').1) (hr := ?_)
      by_cases h0 : ordT x.kids[i] y.kids[i] = 0
      · rw [if_pos h0] at hs
        repeat (first | refine wk ?_)
        exact t_next (i + 1) (a := ⟨by omega, by omega, h3.trans hs⟩)
      · rw [if_neg h0] at hs
        rw [h3, hs]
        repeat (first | refine wk ?_)
        exact fin
    · rw [h3, ordL_gt hlt hlt']
      repeat (first | refine wk ?_)
      exact fin
  · by_cases hlt' : i < y.kids.length
    · rw [h3, ordL_lt hlt hlt']
      repeat (first | refine wk ?_)
      exact fin
    · rw [h3, ordL_end hlt hlt']
      repeat (first | refine wk ?_)
      exact fin
theorem sameTree_sim {t u : Bool} {x y : Tree} (hx : cnt x ≤ 100000000 := by ((try simp only [List.length_map, List.length_append, List.length_cons, List.length_nil, List.length_replicate, List.length_set, List.length_take, List.length_drop]); first | omega | assumption)) (hy : cnt y ≤ 100000000 := by ((try simp only [List.length_map, List.length_append, List.length_cons, List.length_nil, List.length_replicate, List.length_set, List.length_take, List.length_drop]); first | omega | assumption)) : ACalls Try.prog 107 [.d (treeA t x), .d (treeA u y)] [] (B (decide (ordT x y = 0))) [] := by
  refine ACalls.intro (n := 9) Try.func107 rfl rfl (by simp) (by rfl) ?_
  simp only [argFr]
  repeat (first | refine wk ?_)
  refine s_call [] (hA := orderOf_sim x hx y hy) (hr := ?_)
  repeat (first | refine wk ?_)
  exact fin
end Go.Proofs.Yticnpbopelgmiaa
