/-
  Thin, plain: rules without what may be nothing; one by one, and number by number. Thin, plain: number after number.
-/
import Derived.Test.YtflgmalhpglklaaSaP
import Derived.Test.YtflgmalhpglklaaP1
set_option linter.unusedVariables false
set_option linter.unusedSimpArgs false
set_option linter.unusedSectionVars false
namespace Go.Proofs.Ytflgmalhpglklaa
open Go.RowKit

mutual
def asF : Tree → Frag
  | .mk r k => .mk 1 r (asFs k)
def asFs : List Tree → List Frag
  | [] => []
  | x :: l => asF x :: asFs l
end
theorem asFs_map : ∀ l : List Tree, asFs l = l.map asF
  | [] => rfl
  | x :: l => by simp [asFs, asFs_map l]
theorem asF_eq (x : Tree) : asF x = .mk 1 x.rule (x.kids.map asF) := by cases x; rw [asF, asFs_map]; rfl
mutual
theorem asF_fsz : ∀ x : Tree, fsz (asF x) = cnt x
  | .mk r k => by rw [asF, fsz, asFs_fsz k, cnt]
theorem asFs_fsz : ∀ l : List Tree, fszs (asFs l) = cnts l
  | [] => rfl
  | x :: l => by simp only [asFs, fszs, asF_fsz x, asFs_fsz l, cnts]
end
/-- A hole. -/
abbrev holeF (n : Int) : Frag := .mk 2 n []
structure TS where
  rules : List Rule
  frags : List (List Frag)
def TS.put (S : TS) (left : Int) (r : Nat) (right : List Int) (l : List Frag) : Except TS TS :=
  if right.length = 0 then .ok S else if S.rules.length = 160 ∨ 60 < fszs l + 1 then .error S else .ok ⟨S.rules ++ [⟨left, right⟩], S.frags ++ [[.mk 1 r l]]⟩
/-- One behind the other, while none fails. -/
def thL {α : Type} (f : α → TS → Except TS TS) : List α → TS → Except TS TS
  | [], S => .ok S
  | t :: ts, S => match f t S with
    | .error e => .error e
    | .ok S' => thL f ts S'
theorem thL_append {α : Type} (f : α → TS → Except TS TS) : ∀ (a b : List α) (S : TS), thL f (a ++ b) S = match thL f a S with
    | .error e => .error e
    | .ok S' => thL f b S'
  | [], b, S => rfl
  | t :: a, b, S => by
    simp only [List.cons_append, thL]
    cases f t S with
    | error e => rfl
    | ok S' => exact thL_append f a b S'
theorem thL_map {α β : Type} (f : β → TS → Except TS TS) (k : α → β) : ∀ (a : List α) (S : TS), thL f (a.map k) S = thL (fun x => f (k x)) a S
  | [], S => rfl
  | t :: a, S => by
    simp only [List.map_cons, thL]
    cases f (k t) S with
    | error e => rfl
    | ok S' => exact thL_map f k a S'
theorem thL_congr {α : Type} {f g : α → TS → Except TS TS} : ∀ {a : List α}, (∀ x ∈ a, ∀ S, f x S = g x S) → ∀ S, thL f a S = thL g a S
  | [], _, S => rfl
  | t :: a, h, S => by
    simp only [thL]
    rw [h t (by simp)]
    cases g t S with
    | error e => rfl
    | ok S' => exact thL_congr (fun x hx => h x (by simp [hx])) S'
theorem thL_flat {α β : Type} (f : β → TS → Except TS TS) (k : α → List β) : ∀ (a : List α) (S : TS), thL f (a.flatMap k) S = thL (fun x => thL f (k x)) a S
  | [], S => rfl
  | t :: a, S => by
    rw [List.flatMap_cons, thL_append]
    simp only [thL]
    cases thL f (k t) S with
    | error e => rfl
    | ok S' => exact thL_flat f k a S'
/-- What becomes of a rule: its symbols from one on. -/
def thR (nl : List (List Tree)) (left : Int) (r : Nat) : List Int → Nat → List Int → List Frag → TS → Except TS TS
  | [], _, right, l, S => S.put left r right l
  | s :: ss, h, right, l, S => if s < 0 then thR nl left r ss h (right ++ [s]) l S else match thR nl left r ss (h + 1) (right ++ [s]) (l ++ [holeF h]) S with
    | .error e => .error e
    | .ok S' => thL (fun t S => thR nl left r ss h right (l ++ [asF t]) S) (nl.getD s.toNat []) S'
/-- All rules; the one at which there is too much. -/
def thA (nl : List (List Tree)) : Nat → List Rule → TS → Except Nat TS
  | _, [], S => .ok S
  | i, x :: rs, S => match thR nl x.left i x.right 0 [] [] S with
    | .error _ => .error i
    | .ok S' => thA nl (i + 1) rs S'
/-- The trees of the empty word, nonterminal by nonterminal. -/
abbrev stG (g : Gram) (v : Nat) : Gram := ⟨g.vars, g.terms, v, g.rules⟩
def nlA (g : Gram) : Nat → Nat → List (List Tree) → Option (List (List Tree))
  | 0, _, acc => some acc
  | n + 1, v, acc => if (fListF (stG g v) []).2.code = 0 then nlA g n (v + 1) (acc ++ [(fListF (stG g v) []).1]) else none
def nlF (g : Gram) : Option (List (List Tree)) := nlA g g.vars.toNat 0 []
def thinF (g : Gram) : Step × Fault :=
  if (gramFault g).code = 0 then
    if cycL g = [] then
      match nlF g with
      | none => (zeroStep, ⟨6, -1⟩)
      | some nl => match thA nl 0 g.rules ⟨[], []⟩ with
        | .error i => (zeroStep, ⟨6, i⟩)
        | .ok S => (⟨⟨g.vars, g.terms, g.start, S.rules⟩, S.frags, nl.getD (stN g) []⟩, ⟨0, 0⟩)
    else (zeroStep, ⟨10, -1⟩)
  else (zeroStep, gramFault g)
theorem nlA_some {g : Gram} : ∀ {n v : Nat} {acc nl : List (List Tree)}, nlA g n v acc = some nl → nl.length = acc.length + n ∧ (∀ i, i < acc.length → nl.getD i [] = acc.getD i []) ∧ ∀ i, i < n → (fListF (stG g (v + i)) []).2.code = 0 ∧ nl.getD (acc.length + i) [] = (fListF (stG g (v + i)) []).1
  | 0, v, acc, nl, h => by
    rw [nlA] at h; cases h
    exact ⟨rfl, fun _ _ => rfl, fun i hi => by omega⟩
  | n + 1, v, acc, nl, h => by
    rw [nlA] at h
    split at h
    · rename_i hc
      obtain ⟨h1, h2, h3⟩ := nlA_some h
      rw [List.length_append, List.length_singleton] at h1 h3
      refine ⟨by omega, fun i hi => ?_, fun i hi => ?_⟩
      · rw [h2 i (by simp; omega)]
        simp only [List.getD_eq_getElem?_getD]
        rw [List.getElem?_append_left hi]
      · cases i with
        | zero =>
          refine ⟨hc, ?_⟩
          have := h2 acc.length (by simp)
          rw [Nat.add_zero, this]
          simp
        | succ i =>
          obtain ⟨q1, q2⟩ := h3 i (by omega)
          rw [show v + (i + 1) = v + 1 + i by omega, show acc.length + (i + 1) = acc.length + 1 + i by omega]
          exact ⟨q1, q2⟩
    · cases h
theorem nlF_at {g : Gram} {nl : List (List Tree)} (h : nlF g = some nl) : nl.length = g.vars.toNat ∧ ∀ v, v < g.vars.toNat → (fListF (stG g v) []).2.code = 0 ∧ nl.getD v [] = (fListF (stG g v) []).1 := by
  obtain ⟨h1, _, h3⟩ := nlA_some h
  simp only [List.length_nil, Nat.zero_add] at h1 h3
  exact ⟨h1, h3⟩
theorem stG_ok {g : Gram} (hg : g.ok) {v : Nat} (hv : v < g.vars.toNat) : (stG g v).ok :=
  { hg with start := (by show (v : Int) < g.vars; omega), start0 := (by show 0 ≤ (v : Int); omega) }
theorem stG_cyc {g : Gram} (hg : g.ok) {v : Nat} (hv : v < g.vars.toNat) : cycL (stG g v) = cycL g := by rw [cycL_eq (stG_ok hg hv), cycL_eq hg]; rfl
theorem chF_of {g : Gram} (hg : g.ok) (hc : cycL g = []) : chF g [] = ⟨0, 0⟩ := by
  unfold chF
  rw [hg.fault, if_pos rfl, hc]
  rfl
theorem fList_bad {g : Gram} {w : List Int} (hch : chF g w = ⟨0, 0⟩) (h : ¬ (fListF g w).2.code = 0) : fListF g w = ([], ⟨6, -1⟩) := by
  have e : fListF g w = if (opF g w).code = 0 then (if 200 < cntF g w then ([], ⟨6, -1⟩) else listF g w (cntF g w) 0 []) else ([], opF g w) := rfl
  have ho : opF g w = if cntF g w = manyC then ⟨6, -1⟩ else ⟨0, 0⟩ := by unfold opF; rw [hch, if_pos rfl]
  rw [e] at h ⊢
  by_cases hm : cntF g w = manyC
  · rw [if_pos hm] at ho
    rw [ho, if_neg (by decide)]
  · rw [if_neg hm] at ho
    rw [ho, if_pos rfl] at h ⊢
    by_cases h2 : 200 < cntF g w
    · rw [if_pos h2]
    · rw [if_neg h2] at h ⊢
      exact listF_bad _ _ _ h
theorem nl_bad {g : Gram} (hg : g.ok) (hc : cycL g = []) {v : Nat} (hv : v < g.vars.toNat) (h : ¬ (fListF (stG g v) []).2.code = 0) : fListF (stG g v) [] = ([], ⟨6, -1⟩) :=
  fList_bad (chF_of (stG_ok hg hv) (by rw [stG_cyc hg hv, hc])) h
/-- Number by number: which of each kid's choices (none: it is kept). -/
def thM (nl : List (List Tree)) : List Int → List Nat → Nat → List Int × List Frag
  | [], _, _ => ([], [])
  | s :: ss, p, h => if s < 0 then (s :: (thM nl ss p h).1, (thM nl ss p h).2) else match p with
    | [] => ([], [])
    | 0 :: p => (s :: (thM nl ss p (h + 1)).1, holeF h :: (thM nl ss p (h + 1)).2)
    | (a + 1) :: p => ((thM nl ss p h).1, asF ((nl.getD s.toNat []).getD a (.mk 0 [])) :: (thM nl ss p h).2)
def tups : List Nat → List (List Nat)
  | [] => [[]]
  | c :: cs => (List.range c).flatMap fun a => (tups cs).map (a :: ·)
def optsN (nl : List (List Tree)) (syms : List Int) : List Nat := (kids syms).map fun s => (nl.getD s.toNat []).length + 1
theorem thR_tups (nl : List (List Tree)) (left : Int) (r : Nat) : ∀ (ss : List Int) (h : Nat) (right : List Int) (l : List Frag) (S : TS), thR nl left r ss h right l S = thL (fun p S => S.put left r (right ++ (thM nl ss p h).1) (l ++ (thM nl ss p h).2)) (tups (optsN nl ss)) S
  | [], h, right, l, S => by
    simp only [thR, optsN, kids, List.filter_nil, List.map_nil, tups, thL, thM, List.append_nil]
    cases S.put left r right l <;> rfl
  | s :: ss, h, right, l, S => by
    rw [thR]
    by_cases hs : s < 0
    · rw [if_pos hs, thR_tups nl left r ss h]
      have e : optsN nl (s :: ss) = optsN nl ss := by unfold optsN; rw [kidsN hs]
      rw [e]
      refine thL_congr (fun p _ S => ?_) S
      simp only [thM, hs, if_true, List.append_assoc, List.singleton_append]
    · rw [if_neg hs]
      have e : optsN nl (s :: ss) = ((nl.getD s.toNat []).length + 1) :: optsN nl ss := by unfold optsN; rw [kidsP hs]; rfl
      rw [e, tups, List.range_succ_eq_map, List.flatMap_cons, thL_append, thL_map, thR_tups nl left r ss (h + 1)]
      have e1 : thL (fun p S => S.put left r (right ++ [s] ++ (thM nl ss p (h + 1)).1) (l ++ [holeF h] ++ (thM nl ss p (h + 1)).2)) (tups (optsN nl ss)) S = thL (fun x S => S.put left r (right ++ (thM nl (s :: ss) (0 :: x) h).1) (l ++ (thM nl (s :: ss) (0 :: x) h).2)) (tups (optsN nl ss)) S := by
        refine thL_congr (fun p _ S => ?_) S
        simp only [thM, hs, if_false, List.append_assoc, List.singleton_append]
      rw [e1]
      cases thL (fun x S => S.put left r (right ++ (thM nl (s :: ss) (0 :: x) h).1) (l ++ (thM nl (s :: ss) (0 :: x) h).2)) (tups (optsN nl ss)) S with
      | error e => rfl
      | ok S' =>
        dsimp only
        rw [thL_flat, thL_map]
        have e2 : ∀ (ts : List Tree) (k : Nat), (nl.getD s.toNat []).drop k = ts → ∀ S, thL (fun t S => thR nl left r ss h right (l ++ [asF t]) S) ts S = thL (fun a S => thL (fun p S => S.put left r (right ++ (thM nl (s :: ss) p h).1) (l ++ (thM nl (s :: ss) p h).2)) ((tups (optsN nl ss)).map ((a + 1) :: ·)) S) (List.range' k ts.length) S := by
          intro ts
          induction ts with
          | nil => intro k hk S; rfl
          | cons t ts ih =>
            intro k hk S
            have hkl : k < (nl.getD s.toNat []).length := Classical.byContradiction fun hn => by
              rw [List.drop_of_length_le (by omega)] at hk; cases hk
            rw [List.drop_eq_getElem_cons hkl] at hk
            obtain ⟨h1, h2⟩ := List.cons.inj hk
            rw [List.length_cons, List.range'_succ]
            simp only [thL]
            rw [thR_tups nl left r ss h, thL_map]
            have e3 : thL (fun p S => S.put left r (right ++ (thM nl ss p h).1) (l ++ [asF t] ++ (thM nl ss p h).2)) (tups (optsN nl ss)) S = thL (fun x S => S.put left r (right ++ (thM nl (s :: ss) ((k + 1) :: x) h).1) (l ++ (thM nl (s :: ss) ((k + 1) :: x) h).2)) (tups (optsN nl ss)) S := by
              refine thL_congr (fun p _ S => ?_) S
              have : (nl.getD s.toNat []).getD k (.mk 0 []) = t := by rw [List.getD_eq_getElem?_getD, List.getElem?_eq_getElem hkl]; exact h1
              simp only [thM, hs, if_false, this, List.append_assoc, List.singleton_append]
            rw [e3]
            cases thL (fun x S => S.put left r (right ++ (thM nl (s :: ss) ((k + 1) :: x) h).1) (l ++ (thM nl (s :: ss) ((k + 1) :: x) h).2)) (tups (optsN nl ss)) S with
            | error e => rfl
            | ok S' => exact ih (k + 1) h2 S'
        have := e2 (nl.getD s.toNat []) 0 (by rw [List.drop_zero]) S'
        rw [this, List.range_eq_range']
end Go.Proofs.Ytflgmalhpglklaa
namespace Go.Proofs.Ytflgmalhpglklaa
open Go.RowKit

def nxtT : List Nat → List Nat → Option (List Nat)
  | c :: cs, a :: p => match nxtT cs p with
    | some p' => some (a :: p')
    | none => if a + 1 < c then some ((a + 1) :: List.replicate cs.length 0) else none
  | _, _ => none
/-- One behind the other, as far as there are any. -/
def Runs (cs : List Nat) : List (List Nat) → Prop
  | [] => False
  | [p] => nxtT cs p = none
  | p :: q :: r => nxtT cs p = some q ∧ Runs cs (q :: r)
theorem runs_block {c : Nat} {cs : List Nat} {a : Nat} {R : List (List Nat)} (hR : (R = [] ∧ ¬ a + 1 < c) ∨ (∃ R', R = ((a + 1) :: List.replicate cs.length 0) :: R' ∧ a + 1 < c ∧ Runs (c :: cs) R)) : ∀ L : List (List Nat), Runs cs L → Runs (c :: cs) (L.map (a :: ·) ++ R)
  | [], h => absurd h (by simp [Runs])
  | [p], h => by
    simp only [Runs] at h
    rcases hR with ⟨rfl, h2⟩ | ⟨R', rfl, h2, h3⟩
    · simp only [List.map_cons, List.map_nil, List.append_nil, Runs, nxtT, h]
      rw [if_neg h2]
    · simp only [List.map_cons, List.map_nil, List.singleton_append, Runs]
      refine ⟨?_, h3⟩
      simp only [nxtT, h]
      rw [if_pos h2]
  | p :: q :: r, h => by
    simp only [Runs] at h
    have ih := runs_block hR (q :: r) h.2
    simp only [List.map_cons, List.cons_append, Runs] at ih ⊢
    exact ⟨by simp only [nxtT, h.1], ih⟩
theorem tups_runs : ∀ cs : List Nat, (∀ c ∈ cs, 1 ≤ c) → Runs cs (tups cs) ∧ ∃ R, tups cs = List.replicate cs.length 0 :: R
  | [], _ => ⟨by simp [tups, Runs, nxtT], [], by simp [tups]⟩
  | c :: cs, h => by
    obtain ⟨ih1, R0, ih2⟩ := tups_runs cs (fun x hx => h x (by simp [hx]))
    have hc := h c (by simp)
    have key : ∀ d a, d + a = c → 1 ≤ d → Runs (c :: cs) ((List.range' a d).flatMap fun a => (tups cs).map (a :: ·)) ∧ ∃ R, ((List.range' a d).flatMap fun a => (tups cs).map (a :: ·)) = (a :: List.replicate cs.length 0) :: R := by
      intro d
      induction d with
      | zero => intro a _ h; omega
      | succ d ihd =>
        intro a hda _
        rw [List.range'_succ, List.flatMap_cons]
        refine ⟨?_, ?_⟩
        · refine runs_block ?_ _ ih1
          by_cases hd : d = 0
          · subst hd
            exact .inl ⟨rfl, by omega⟩
          · obtain ⟨k1, R', k2⟩ := ihd (a + 1) (by omega) (by omega)
            exact .inr ⟨R', k2, by omega, k1⟩
        · rw [ih2, List.map_cons, List.cons_append]
          exact ⟨_, rfl⟩
    obtain ⟨k1, R, k2⟩ := key c 0 (by omega) hc
    refine ⟨?_, R, ?_⟩
    · rw [tups, List.range_eq_range']; exact k1
    · rw [tups, List.range_eq_range', k2]; rfl
theorem tups_mem : ∀ (cs : List Nat) (p : List Nat), p ∈ tups cs → p.length = cs.length ∧ ∀ k, ∀ h : k < cs.length, p.getD k 0 < cs[k]
  | [], p, h => by
    simp only [tups, List.mem_singleton] at h
    subst h
    exact ⟨rfl, fun k hk => by simp at hk⟩
  | c :: cs, p, h => by
    rw [tups] at h
    simp only [List.mem_flatMap, List.mem_range, List.mem_map] at h
    obtain ⟨a, ha, q, hq, rfl⟩ := h
    obtain ⟨h1, h2⟩ := tups_mem cs q hq
    refine ⟨by simp [h1], fun k hk => ?_⟩
    cases k with
    | zero => simpa using ha
    | succ k =>
      have := h2 k (by simpa using hk)
      simp only [List.getD_cons_succ, List.getElem_cons_succ]
      exact this
theorem nxt_none : ∀ (cs p : List Nat), p.length = cs.length → (∀ k, ∀ h : k < cs.length, p.getD k 0 + 1 = cs[k]) → nxtT cs p = none
  | [], [], _, _ => rfl
  | c :: cs, a :: p, h, hk => by
    have ih := nxt_none cs p (by simpa using h) (fun k hk' => by have := hk (k + 1) (by simpa using hk'); simp only [List.getD_cons_succ, List.getElem_cons_succ] at this; exact this)
    have := hk 0 (by simp)
    simp only [List.getD_cons_zero, List.getElem_cons_zero] at this
    simp only [nxtT, ih]
    rw [if_neg (by omega)]
  | [], _ :: _, h, _ => by simp at h
  | _ :: _, [], h, _ => by simp at h
theorem nxt_some : ∀ (cs p : List Nat) (k : Nat), p.length = cs.length → ∀ h : k < cs.length, p.getD k 0 + 1 < cs[k] → (∀ j, k < j → ∀ h : j < cs.length, p.getD j 0 + 1 = cs[j]) → nxtT cs p = some (p.take k ++ (p.getD k 0 + 1) :: List.replicate (cs.length - k - 1) 0)
  | [], _, k, _, h, _, _ => by simp at h
  | c :: cs, [], k, hl, _, _, _ => by simp at hl
  | c :: cs, a :: p, 0, hl, h, h1, h2 => by
    have hn := nxt_none cs p (by simpa using hl) (fun k hk => by have := h2 (k + 1) (by omega) (by simpa using hk); simp only [List.getD_cons_succ, List.getElem_cons_succ] at this; exact this)
    simp only [List.getD_cons_zero, List.getElem_cons_zero] at h1
    simp only [nxtT, hn, List.take_zero, List.nil_append, List.getD_cons_zero, List.length_cons]
    rw [if_pos h1]
    rfl
  | c :: cs, a :: p, k + 1, hl, h, h1, h2 => by
    have ih := nxt_some cs p k (by simpa using hl) (by simpa using h) (by simp only [List.getD_cons_succ, List.getElem_cons_succ] at h1; exact h1) (fun j hj hj' => by have := h2 (j + 1) (by omega) (by simpa using hj'); simp only [List.getD_cons_succ, List.getElem_cons_succ] at this; exact this)
    simp only [nxtT, ih, List.take_succ_cons, List.cons_append, List.getD_cons_succ, List.length_cons]
    rw [show cs.length + 1 - (k + 1) - 1 = cs.length - k - 1 by omega]
/-- All are at their end, or there is a last one that is not. -/
theorem last_max : ∀ (cs p : List Nat), p.length = cs.length → (∀ k, ∀ h : k < cs.length, p.getD k 0 < cs[k]) → (∀ k, ∀ h : k < cs.length, p.getD k 0 + 1 = cs[k]) ∨ ∃ k, ∃ h : k < cs.length, p.getD k 0 + 1 < cs[k] ∧ ∀ j, k < j → ∀ h : j < cs.length, p.getD j 0 + 1 = cs[j]
  | [], _, _, _ => .inl (fun k h => by simp at h)
  | c :: cs, [], hl, _ => by simp at hl
  | c :: cs, a :: p, hl, h => by
    rcases last_max cs p (by simpa using hl) (fun k hk => by have := h (k + 1) (by simpa using hk); simp only [List.getD_cons_succ, List.getElem_cons_succ] at this; exact this) with h1 | ⟨k, hk, h1, h2⟩
    · have h0 := h 0 (by simp)
      simp only [List.getD_cons_zero, List.getElem_cons_zero] at h0
      by_cases he : a + 1 = c
      · refine .inl fun k hk => ?_
        cases k with
        | zero => simpa using he
        | succ k => simp only [List.getD_cons_succ, List.getElem_cons_succ]; exact h1 k (by simpa using hk)
      · refine .inr ⟨0, by simp, by simp only [List.getD_cons_zero, List.getElem_cons_zero]; omega, fun j hj hj' => ?_⟩
        obtain ⟨j, rfl⟩ : ∃ i, j = i + 1 := ⟨j - 1, by omega⟩
        simp only [List.getD_cons_succ, List.getElem_cons_succ]; exact h1 j (by simpa using hj')
    · refine .inr ⟨k + 1, by simpa using hk, by simp only [List.getD_cons_succ, List.getElem_cons_succ]; exact h1, fun j hj hj' => ?_⟩
      obtain ⟨j, rfl⟩ : ∃ i, j = i + 1 := ⟨j - 1, by omega⟩
      simp only [List.getD_cons_succ, List.getElem_cons_succ]; exact h2 j (by omega) (by simpa using hj')
theorem runs_end {cs p : List Nat} {rest : List (List Nat)} (h : Runs cs (p :: rest)) (hn : nxtT cs p = none) : rest = [] := by
  cases rest with
  | nil => rfl
  | cons q r => simp only [Runs] at h; rw [hn] at h; cases h.1
theorem runs_next {cs p q : List Nat} {rest : List (List Nat)} (h : Runs cs (p :: rest)) (hn : nxtT cs p = some q) : ∃ r, rest = q :: r ∧ Runs cs (q :: r) := by
  cases rest with
  | nil => simp only [Runs] at h; rw [hn] at h; cases h
  | cons q' r =>
    simp only [Runs] at h
    rw [hn] at h
    obtain rfl : q = q' := by injection h.1
    exact ⟨r, rfl, h.2⟩
/-- The row of numbers, those from k on gone back to the start. -/
def backP (p : List Nat) (k : Nat) : List Nat := p.take k ++ List.replicate (p.length - k) 0
theorem backP_len (p : List Nat) {k : Nat} (h : k ≤ p.length) : (backP p k).length = p.length := by unfold backP; simp; omega
theorem backP_all (p : List Nat) : backP p p.length = p := by unfold backP; simp
theorem backP_get (p : List Nat) {k : Nat} (h : k + 1 ≤ p.length) : (backP p (k + 1)).getD k 0 = p.getD k 0 := by
  unfold backP
  simp only [List.getD_eq_getElem?_getD]
  rw [List.getElem?_append_left (by simp; omega), List.getElem?_take_of_lt (by omega)]
theorem backP_set (p : List Nat) {k : Nat} (h : k + 1 ≤ p.length) (x : Nat) : (backP p (k + 1)).set k x = p.take k ++ x :: List.replicate (p.length - k - 1) 0 := by
  unfold backP
  rw [List.take_succ_eq_append_getElem (by omega), List.append_assoc, List.set_append_right _ _ (by simp; omega)]
  have : k - (p.take k).length = 0 := by simp; omega
  rw [this]
  simp only [List.singleton_append, List.set_cons_zero]
  rfl
theorem backP_back (p : List Nat) {k : Nat} (h : k + 1 ≤ p.length) : (backP p (k + 1)).set k 0 = backP p k := by
  rw [backP_set p h, backP, show p.length - k = (p.length - k - 1) + 1 by omega, List.replicate_succ]
  rfl
theorem cpL_asFs : ∀ l : List Tree, cpL (asFs l) = cnts l := by
  have key : ∀ (n : Nat) (l : List Tree), cnts l < n → cpL (asFs l) = cnts l := by
    intro n
    induction n with
    | zero => intro l h; omega
    | succ n ih =>
      intro l
      induction l with
      | nil => intro _; rfl
      | cons x l ihl =>
        intro h
        cases x with
        | mk r k =>
          simp only [cnts, cnt] at h
          simp only [asFs, cpL, cnts, asF, cpF, cnt]
          have e1 := ihl (by omega)
          have e2 := ih k (by omega)
          rw [e1, e2]
          simp
  exact fun l => key _ l (Nat.lt_succ_self _)
theorem cpF_asF (x : Tree) : cpF (asF x) = cnt x := by
  have := cpL_asFs [x]
  simpa [asFs, cpL, cnts] using this
theorem thM_fszs {nl : List (List Tree)} (hc : ∀ l ∈ nl, ∀ x ∈ l, cnt x ≤ 400) : ∀ (ss : List Int) (p : List Nat) (h : Nat), fszs (thM nl ss p h).2 ≤ 401 * ss.length
  | [], p, h => by simp [thM, fszs]
  | s :: ss, p, h => by
    rw [List.length_cons, Nat.mul_add]
    by_cases hs : s < 0
    · simp only [thM, hs, if_true]
      have := thM_fszs hc ss p h
      omega
    · cases p with
      | nil => simp [thM, hs, fszs]
      | cons a p =>
        cases a with
        | zero =>
          simp only [thM, hs, if_false, fszs, fsz]
          have := thM_fszs hc ss p (h + 1)
          omega
        | succ a =>
          simp only [thM, hs, if_false, fszs, asF_fsz]
          have := thM_fszs hc ss p h
          have h1 : cnt ((nl.getD s.toNat []).getD a (.mk 0 [])) ≤ 401 := by
            simp only [List.getD_eq_getElem?_getD]
            cases h2 : nl[s.toNat]? with
            | none => simp [cnt, cnts]
            | some l =>
              have hl := List.mem_of_getElem? h2
              simp only [Option.getD_some]
              cases h3 : l[a]? with
              | none => simp [cnt, cnts]
              | some x => have := hc l hl x (List.mem_of_getElem? h3); simp only [Option.getD_some]; omega
          omega
/-- Of what is made all parts count. -/
theorem thM_cp (nl : List (List Tree)) : ∀ (ss : List Int) (p : List Nat) (h : Nat), cpL (thM nl ss p h).2 = fszs (thM nl ss p h).2
  | [], p, h => by simp [thM, cpL, fszs]
  | s :: ss, p, h => by
    by_cases hs : s < 0
    · simp only [thM, hs, if_true]
      exact thM_cp nl ss p h
    · cases p with
      | nil => simp [thM, hs, cpL, fszs]
      | cons a p =>
        cases a with
        | zero =>
          simp only [thM, hs, if_false, cpL, fszs]
          rw [thM_cp nl ss p (h + 1)]; simp [cpF, fsz, fszs]
        | succ a =>
          simp only [thM, hs, if_false, cpL, fszs]
          rw [thM_cp nl ss p h, cpF_asF, asF_fsz]
end Go.Proofs.Ytflgmalhpglklaa
