/-
  Sim: values of a frame, objects of the call's own, what they say of memory, and how they stay when one object is new or changes.
-/
import Derived.Test.YtpaeihifcmohkaaSimA
set_option linter.unusedVariables false
set_option linter.unusedSimpArgs false
namespace Go.Proofs.Ytpaeihifcmohkaa
open Go.RowKit

/-! ### Values of slots, objects -/
inductive V where
  | d (x : D)
  | full (t : Bool) (sz : Nat) (es : List D)
  | own (k n : Nat)
  | ptr (k off : Nat)
  | eptr (t : Bool) (sz : Nat) (es : List D) (i off : Nat)
  | optr (k n i off : Nat)
  | fn (f : Fn) (first caps : List V)
  | agg (cs : List V)
  | tup (vs : List V)
  | junk
inductive Ob where
  | box (ty : TypeId) (cs : List V)
  | row (e : TypeId) (sz : Nat) (xs : List D)
  | froz (sz : Nat) (xs : List D)
  | dead (n : Nat)
abbrev Fr := List (Nat × V)
abbrev Hp := List (Nat × Ob)
def fget : Fr → Nat → V
  | [], _ => .junk
  | (j, v) :: r, i => match Nat.beq j i with
    | true => v
    | false => fget r i
def hget : Hp → Nat → Option Ob
  | [], _ => none
  | (j, o) :: r, i => match Nat.beq j i with
    | true => some o
    | false => hget r i
theorem fget_same (r : Fr) (i : Nat) (v : V) : fget ((i, v) :: r) i = v := by simp [fget, Nat.beq_refl]
theorem fget_other (r : Fr) {i j : Nat} (v : V) (h : j ≠ i) : fget ((j, v) :: r) i = fget r i := by
  have : Nat.beq j i = false := by cases e : Nat.beq j i with | false => rfl | true => exact absurd (Nat.eq_of_beq_eq_true e) h
  simp [fget, this]
theorem hget_same (r : Hp) (i : Nat) (v : Ob) : hget ((i, v) :: r) i = some v := by simp [hget, Nat.beq_refl]
theorem hget_other (r : Hp) {i j : Nat} (v : Ob) (h : j ≠ i) : hget ((j, v) :: r) i = hget r i := by
  have : Nat.beq j i = false := by cases e : Nat.beq j i with | false => rfl | true => exact absurd (Nat.eq_of_beq_eq_true e) h
  simp [hget, this]

structure Env where
  blk : Nat → Nat
  row : Nat → Value

def verAny (h : Hp) (k n : Nat) : Prop := (∃ e sz xs, hget h k = some (.row e sz xs) ∧ xs.length = n) ∨ (∃ sz xs, hget h k = some (.froz sz xs) ∧ xs.length = n) ∨ hget h k = some (.dead n)
def verRow (h : Hp) (k sz n : Nat) : Prop := ∃ e xs, hget h k = some (.row e sz xs) ∧ xs.length = n

mutual
def V.keys : V → List Nat
  | .d _ | .full .. | .eptr .. | .junk => []
  | .own k _ | .ptr k _ | .optr k _ _ _ => [k]
  | .fn _ f c => V.keyss f ++ V.keyss c
  | .agg cs => V.keyss cs
  | .tup vs => V.keyss vs
def V.keyss : List V → List Nat
  | [] => []
  | v :: r => v.keys ++ V.keyss r
end
def Ob.keys : Ob → List Nat
  | .box _ cs => V.keyss cs
  | _ => []

section
variable (E : Env) (h : Hp) (M : Bars) (w : World)
mutual
def V.Rep : V → Value → Prop
  | .d x, u => x.RepV M w u
  | .full t sz es, u => D.Rep M w (.sl t sz es) [u] ∧ ∃ a, u = .slice a es.length es.length
  | .own k n, u => ∃ m, verAny h k m ∧ n ≤ m ∧ u.oneCell' = true ∧ (n = m → u = E.row k)
  | .ptr k off, u => u = .pointer (some ⟨E.blk k, off, none⟩)
  | .eptr t sz es i off, u => ∃ b o us, u = .pointer (some ⟨b, o + (i * sz + off), none⟩) ∧ i < es.length ∧ (∀ x ∈ es, x.size = sz) ∧ D.Reps M w es us ∧ ¬ M t b ∧ b < w.heap.size ∧ ∀ j, j < us.length → w.cell? ⟨b, o + j, none⟩ = us[j]?
  | .optr k n i off, u => ∃ m, verAny h k m ∧ n ≤ m ∧ u.oneCell' = true ∧ (n = m → ∀ sz, verRow h k sz n → ∃ b o cap, E.row k = .slice (some ⟨b, o, none⟩) n cap ∧ u = .pointer (some ⟨b, o + (i * sz + off), none⟩))
  | .fn f fs cs, u => ∃ a c : List Value, u = .func f a.toArray c.toArray ∧ V.Reps fs a ∧ V.Reps cs c
  | .agg cs, u => ∃ us : List Value, u = .agg us.toArray ∧ V.Reps cs us ∧ ∀ x ∈ us, x.oneCell' = true
  | .tup vs, u => ∃ us : List Value, u = .tuple us.toArray ∧ V.Reps vs us
  | .junk, _ => True
def V.Reps : List V → List Value → Prop
  | [], us => us = []
  | v :: r, us => ∃ x y, us = x :: y ∧ V.Rep v x ∧ V.Reps r y
end
end

theorem verAny_one {h : Hp} {k m m' : Nat} (h1 : verAny h k m) (h2 : verAny h k m') : m = m' := by
  rcases h1 with ⟨e, sz, xs, h1, rfl⟩ | ⟨sz, xs, h1, rfl⟩ | h1 <;> rcases h2 with ⟨e', sz', xs', h2, rfl⟩ | ⟨sz', xs', h2, rfl⟩ | h2 <;> (rw [h1] at h2; cases h2) <;> rfl
theorem verRow.any {h : Hp} {k sz m : Nat} (h1 : verRow h k sz m) : verAny h k m := by
  obtain ⟨e, xs, h1, h2⟩ := h1
  exact .inl ⟨e, sz, xs, h1, h2⟩
/-- What lets values stay what they say. -/
structure Trans (E : Env) (h : Hp) (M : Bars) (w : World) (E' : Env) (h' : Hp) (M' : Bars) (w' : World) : Prop where
  blk : ∀ k, (hget h k).isSome = true → (hget h' k).isSome = true → E'.blk k = E.blk k
  ver : ∀ k, (hget h' k).isSome = true → ∀ m, verAny h k m → ∃ m', verAny h' k m' ∧ m ≤ m' ∧ (m = m' → E'.row k = E.row k)
  verR : ∀ k, (hget h k).isSome = true → ∀ sz n, verRow h' k sz n → ∃ m, verRow h k sz m
  carry : Carry M M' w w'

mutual
theorem V.Rep.move {E : Env} {h : Hp} {M : Bars} {w : World} {E' : Env} {h' : Hp} {M' : Bars} {w' : World} (T : Trans E h M w E' h' M' w') :
    ∀ {v : V} {u : Value}, (∀ k ∈ v.keys, (hget h k).isSome = true) → (∀ k ∈ v.keys, (hget h' k).isSome = true) → V.Rep E h M w v u → V.Rep E' h' M' w' v u
  | .d x, _, _, _, r => by simp only [V.Rep] at r ⊢; exact r.carry T.carry
  | .full t sz es, _, _, _, r => by simp only [V.Rep] at r ⊢; exact ⟨r.1.carry T.carry, r.2⟩
  | .own k n, _, _, hk', r => by
    simp only [V.Rep] at r ⊢
    obtain ⟨m, h1, h2, h0, h3⟩ := r
    obtain ⟨m', g1, g2, g3⟩ := T.ver k (hk' k (by simp [V.keys])) m h1
    exact ⟨m', g1, by omega, h0, fun e => by rw [g3 (by omega)]; exact h3 (by omega)⟩
  | .ptr k off, _, hk, hk', r => by simp only [V.Rep] at r ⊢; rw [T.blk k (hk k (by simp [V.keys])) (hk' k (by simp [V.keys]))]; exact r
  | .eptr t sz es i off, _, _, _, r => by
    simp only [V.Rep] at r ⊢
    obtain ⟨b, o, us, h1, h2, h3, h4, h5, h6, h7⟩ := r
    exact ⟨b, o, us, h1, h2, h3, h4.carry T.carry, (T.carry.1 t b h6 h5).2, Nat.lt_of_lt_of_le h6 T.carry.2, fun j hj => (World.cell?_of_block (w := w) (w' := w') (a := ⟨b, o + j, none⟩) (T.carry.1 t b h6 h5).1).trans (h7 j hj)⟩
  | .optr k n i off, _, hk, hk', r => by
    simp only [V.Rep] at r ⊢
    obtain ⟨m, h1, h2, h0, h3⟩ := r
    obtain ⟨m', g1, g2, g3⟩ := T.ver k (hk' k (by simp [V.keys])) m h1
    refine ⟨m', g1, by omega, h0, fun e sz hv => ?_⟩
    obtain ⟨m2, k2⟩ := T.verR k (hk k (by simp [V.keys])) sz n hv
    have e2 := verAny_one k2.any h1
    rw [g3 (by omega)]
    exact h3 (by omega) sz (by rw [show n = m2 by omega]; exact k2)
  | .fn f fs cs, _, hk, hk', r => by
    simp only [V.Rep] at r ⊢
    obtain ⟨a, c, h1, h2, h3⟩ := r
    exact ⟨a, c, h1, V.Reps.move T (fun k hx => hk k (by simp [V.keys, hx])) (fun k hx => hk' k (by simp [V.keys, hx])) h2, V.Reps.move T (fun k hx => hk k (by simp [V.keys, hx])) (fun k hx => hk' k (by simp [V.keys, hx])) h3⟩
  | .agg cs, _, hk, hk', r => by
    simp only [V.Rep] at r ⊢
    obtain ⟨us, h1, h2, h3⟩ := r
    exact ⟨us, h1, V.Reps.move T (fun k hx => hk k (by simpa [V.keys] using hx)) (fun k hx => hk' k (by simpa [V.keys] using hx)) h2, h3⟩
  | .tup cs, _, hk, hk', r => by
    simp only [V.Rep] at r ⊢
    obtain ⟨us, h1, h2⟩ := r
    exact ⟨us, h1, V.Reps.move T (fun k hx => hk k (by simpa [V.keys] using hx)) (fun k hx => hk' k (by simpa [V.keys] using hx)) h2⟩
  | .junk, _, _, _, _ => by simp only [V.Rep]
theorem V.Reps.move {E : Env} {h : Hp} {M : Bars} {w : World} {E' : Env} {h' : Hp} {M' : Bars} {w' : World} (T : Trans E h M w E' h' M' w') :
    ∀ {vs : List V} {us : List Value}, (∀ k ∈ V.keyss vs, (hget h k).isSome = true) → (∀ k ∈ V.keyss vs, (hget h' k).isSome = true) → V.Reps E h M w vs us → V.Reps E' h' M' w' vs us
  | [], _, _, _, r => by simp only [V.Reps] at r ⊢; exact r
  | v :: vs, _, hk, hk', r => by
    simp only [V.Reps] at r ⊢
    obtain ⟨x, y, h1, h2, h3⟩ := r
    exact ⟨x, y, h1, V.Rep.move T (fun k hx => hk k (by simp [V.keyss, hx])) (fun k hx => hk' k (by simp [V.keyss, hx])) h2, V.Reps.move T (fun k hx => hk k (by simp [V.keyss, hx])) (fun k hx => hk' k (by simp [V.keyss, hx])) h3⟩
end

section
variable {E : Env} {h : Hp} {M : Bars} {w : World}
theorem V.Reps.length : ∀ {vs : List V} {us : List Value}, V.Reps E h M w vs us → us.length = vs.length
  | [], _, r => by simp only [V.Reps] at r; subst r; rfl
  | v :: vs, _, r => by
    simp only [V.Reps] at r
    obtain ⟨x, y, rfl, _, h3⟩ := r
    simp [V.Reps.length h3]
theorem V.Reps.get : ∀ {vs : List V} {us : List Value} {i : Nat} {v : V}, V.Reps E h M w vs us → vs[i]? = some v → ∃ u, us[i]? = some u ∧ V.Rep E h M w v u
  | [], _, _, _, _, k => by simp at k
  | v :: vs, _, 0, x, r, k => by
    simp only [V.Reps] at r
    obtain ⟨u, y, rfl, h2, _⟩ := r
    simp only [List.getElem?_cons_zero, Option.some.injEq] at k
    subst k
    exact ⟨u, by simp, h2⟩
  | v :: vs, _, i + 1, x, r, k => by
    simp only [V.Reps] at r
    obtain ⟨u, y, rfl, _, h3⟩ := r
    obtain ⟨u', g1, g2⟩ := V.Reps.get h3 (by simpa using k)
    exact ⟨u', by simpa using g1, g2⟩
theorem V.Reps.of_get : ∀ {vs : List V} {us : List Value}, us.length = vs.length → (∀ (i : Nat) (v : V) (u : Value), vs[i]? = some v → us[i]? = some u → V.Rep E h M w v u) → V.Reps E h M w vs us
  | [], us, hl, _ => by simp only [V.Reps]; simpa using hl
  | v :: vs, [], hl, _ => by simp at hl
  | v :: vs, u :: us, hl, k => by
    simp only [V.Reps]
    exact ⟨u, us, rfl, k 0 v u (by simp) (by simp), V.Reps.of_get (by simpa using hl) (fun i v u h1 h2 => k (i + 1) v u (by simpa using h1) (by simpa using h2))⟩
theorem V.Reps.set {vs : List V} {us : List Value} (r : V.Reps E h M w vs us) (i : Nat) {v : V} {u : Value} (hv : V.Rep E h M w v u) : V.Reps E h M w (vs.set i v) (us.set i u) := by
  have hl := r.length
  refine V.Reps.of_get (by simp [hl]) fun j x y h1 h2 => ?_
  rw [List.getElem?_set] at h1 h2
  split at h1
  · rename_i e
    subst e
    rw [if_pos rfl] at h2
    split at h1
    · rename_i hlt
      rw [if_pos (by omega)] at h2
      simp only [Option.some.injEq] at h1 h2
      subst h1; subst h2; exact hv
    · cases h1
  · rename_i e
    rw [if_neg e] at h2
    obtain ⟨u', g1, g2⟩ := r.get h1
    rw [g1] at h2
    simp only [Option.some.injEq] at h2
    subst h2; exact g2
theorem V.Reps.append : ∀ {vs vs' : List V} {us us' : List Value}, V.Reps E h M w vs us → V.Reps E h M w vs' us' → V.Reps E h M w (vs ++ vs') (us ++ us')
  | [], _, _, _, r, k => by simp only [V.Reps] at r; subst r; simpa using k
  | v :: vs, _, _, _, r, k => by
    simp only [V.Reps, List.cons_append] at r ⊢
    obtain ⟨x, y, rfl, h2, h3⟩ := r
    exact ⟨x, y ++ _, by simp, h2, V.Reps.append h3 k⟩
theorem V.Reps.take {vs : List V} {us : List Value} (r : V.Reps E h M w vs us) (n : Nat) : V.Reps E h M w (vs.take n) (us.take n) := by
  refine V.Reps.of_get (by simp [r.length]) fun i v u h1 h2 => ?_
  rw [List.getElem?_take] at h1 h2
  split at h1
  · rename_i hl
    rw [if_pos hl] at h2
    obtain ⟨u', g1, g2⟩ := r.get h1
    rw [g1] at h2; cases h2; exact g2
  · cases h1
theorem V.Reps.drop {vs : List V} {us : List Value} (r : V.Reps E h M w vs us) (n : Nat) : V.Reps E h M w (vs.drop n) (us.drop n) := by
  refine V.Reps.of_get (by simp [r.length]) fun i v u h1 h2 => ?_
  rw [List.getElem?_drop] at h1 h2
  obtain ⟨u', g1, g2⟩ := r.get h1
  rw [g1] at h2; cases h2; exact g2
end
theorem V.keyss_mem : ∀ {vs : List V} {k : Nat}, k ∈ V.keyss vs ↔ ∃ v ∈ vs, k ∈ v.keys
  | [], k => by simp [V.keyss]
  | v :: vs, k => by simp [V.keyss, V.keyss_mem (vs := vs)]

/-! ### Rows of the call's own -/
/-- The block that a slice's value may write to by append. -/
def obOf : Value → Option Nat
  | .slice (some a) _ cap => if cap = 0 then none else some a.block
  | _ => none
/-- The slice v owns its row, or has no room at all; its elements are data that lie elsewhere. -/
def RowAt (M : Bars) (w : World) (e sz : Nat) (v : Value) (xs : List D) : Prop :=
  (∀ x ∈ xs, x.size = sz) ∧ ((∃ a, v = .slice a 0 0 ∧ xs = []) ∨
    ∃ g off cap cur, v = .slice (some ⟨g, off, none⟩) xs.length cap ∧ 0 < cap ∧ w.heap[g]? = some (.cells cur e (0, 0)) ∧ xs.length ≤ cap ∧ cap ≤ maxLen ∧
      cur.size = off + cap * sz ∧ D.Reps M w xs ((cur.toList.drop off).take (xs.length * sz)))
theorem RowAt.shape {M : Bars} {w : World} {e sz : Nat} {v : Value} {xs : List D} (h : RowAt M w e sz v xs) : ∃ a cap, v = .slice a xs.length cap ∧ xs.length ≤ cap ∧ cap ≤ maxLen := by
  obtain ⟨_, ⟨a, rfl, rfl⟩ | ⟨g, off, cap, cur, rfl, _, _, h1, h2, _⟩⟩ := h
  · exact ⟨a, 0, rfl, Nat.le_refl _, by simp [maxLen]⟩
  · exact ⟨_, cap, rfl, h1, h2⟩
theorem RowAt.move {M M' : Bars} {w w' : World} {e sz : Nat} {v : Value} {xs : List D} (h : RowAt M w e sz v xs) (hb : Carry M M' w w') (hg : ∀ b, obOf v = some b → w'.heap[b]? = w.heap[b]?) : RowAt M' w' e sz v xs := by
  obtain ⟨h0, h | ⟨g, off, cap, cur, rfl, h1, h2, h3, h4, h5, h6⟩⟩ := h
  · exact ⟨h0, .inl h⟩
  · exact ⟨h0, .inr ⟨g, off, cap, cur, rfl, h1, (hg g (by simp [obOf]; omega)).trans h2, h3, h4, h5, h6.carry hb⟩⟩
/-- What lies there. -/
theorem RowAt.cells {M : Bars} {w : World} {e sz : Nat} {v : Value} {xs : List D} (h : RowAt M w e sz v xs) (hne : xs ≠ []) :
    ∃ g off cap us, v = .slice (some ⟨g, off, none⟩) xs.length cap ∧ obOf v = some g ∧ D.Reps M w xs us ∧ us.length = xs.length * sz ∧ g < w.heap.size ∧ ∀ j, j < us.length → w.cell? ⟨g, off + j, none⟩ = us[j]? := by
  obtain ⟨h0, ⟨a, _, rfl⟩ | ⟨g, off, cap, cur, rfl, h1, h2, h3, h4, h5, h6⟩⟩ := h
  · exact absurd rfl hne
  · have hl := h6.length
    rw [D.sizes_eq h0] at hl
    refine ⟨g, off, cap, _, rfl, by simp [obOf]; omega, h6, hl, (Array.getElem?_eq_some_iff.1 h2).1, fun j hj => ?_⟩
    rw [hl] at hj
    simp only [World.cell?, h2]
    rw [List.getElem?_take, if_pos hj, List.getElem?_drop]
    simp

/-! ### All objects -/
def blkOf (E : Env) (h : Hp) (k : Nat) : Option Nat :=
  match hget h k with
  | some (.box _ _) => some (E.blk k)
  | some (.row _ _ _) => obOf (E.row k)
  | _ => none
def Live (E : Env) (h : Hp) (b : Nat) : Prop := ∃ k, blkOf E h k = some b
def bars (E : Env) (h : Hp) (o : Bars) : Bars := fun t b => Live E h b ∨ o t b
def ObRep (E : Env) (h : Hp) (M : Bars) (w : World) (k : Nat) : Ob → Prop
  | .box ty cs => ∃ us : List Value, w.heap[E.blk k]? = some (.cells us.toArray ty (0, 0)) ∧ V.Reps E h M w cs us ∧ ∀ x ∈ us, x.oneCell' = true
  | .row e sz xs => RowAt M w e sz (E.row k) xs
  | .froz sz xs => D.Rep M w (.sl false sz xs) [E.row k]
  | .dead _ => True
structure HRep (E : Env) (h : Hp) (o : Bars) (w : World) : Prop where
  obs : ∀ k ob, hget h k = some ob → ObRep E h (bars E h o) w k ob
  apart : ∀ k k' b, blkOf E h k = some b → blkOf E h k' = some b → k = k'
  closed : ∀ k ob, hget h k = some ob → ∀ j ∈ ob.keys, (hget h j).isSome = true
theorem HRep.lt {E : Env} {h : Hp} {o : Bars} {w : World} (H : HRep E h o w) {k b : Nat} (hb : blkOf E h k = some b) : b < w.heap.size := by
  unfold blkOf at hb
  split at hb
  · rename_i ty cs hk
    obtain ⟨us, h1, _⟩ := H.obs k _ hk
    simp only [Option.some.injEq] at hb
    subst hb
    exact (Array.getElem?_eq_some_iff.1 h1).1
  · rename_i e sz xs hk
    have hr := H.obs k _ hk
    simp only [ObRep] at hr
    obtain ⟨_, ⟨a, h1, _⟩ | ⟨g, off, cap, cur, h1, h2, h3, _⟩⟩ := hr
    · rw [h1] at hb; cases a <;> simp [obOf] at hb
    · rw [h1] at hb
      simp only [obOf] at hb
      rw [if_neg (by omega)] at hb
      simp only [Option.some.injEq] at hb
      subst hb
      exact (Array.getElem?_eq_some_iff.1 h3).1
  · cases hb

/-- Object k is new, or changes: what that needs. -/
structure Upd (E : Env) (h : Hp) (w : World) (k : Nat) (ob : Ob) (E' : Env) (w' : World) : Prop where
  offb : ∀ j, j ≠ k → E'.blk j = E.blk j
  offr : ∀ j, j ≠ k → E'.row j = E.row j
  blk : (hget h k).isSome = true → E'.blk k = E.blk k
  low : hget h k = none → k < 1000
  ver : ∀ m, verAny h k m → ∃ m', verAny ((k, ob) :: h) k m' ∧ m ≤ m' ∧ (m = m' → E'.row k = E.row k)
  verR : (hget h k).isSome = true → ∀ sz n, verRow ((k, ob) :: h) k sz n → ∃ m, verRow h k sz m
  ext : Ext (fun b => blkOf E h k = some b) w w'
  new : ∀ b, blkOf E' ((k, ob) :: h) k = some b → blkOf E h k = some b ∨ w.heap.size ≤ b
section
variable {E : Env} {h : Hp} {w : World} {k : Nat} {ob : Ob} {E' : Env} {w' : World}
theorem Upd.blkOf_other (U : Upd E h w k ob E' w') {j : Nat} (hj : j ≠ k) : blkOf E' ((k, ob) :: h) j = blkOf E h j := by
  unfold blkOf
  rw [hget_other h ob (Ne.symm hj), U.offb j hj, U.offr j hj]
theorem Upd.carry (U : Upd E h w k ob E' w') (o : Bars) : Carry (bars E h o) (bars E' ((k, ob) :: h) o) w w' := by
  refine ⟨fun t b hb hm => ?_, U.ext.size⟩
  have hnl : ¬ Live E h b := fun hl => hm (.inl hl)
  refine ⟨U.ext.block b hb (fun hx => hnl ⟨k, hx⟩), ?_⟩
  rintro (⟨j, hj⟩ | ho)
  · by_cases hjk : j = k
    · subst hjk
      rcases U.new b hj with h1 | h1
      · exact hnl ⟨j, h1⟩
      · omega
    · rw [U.blkOf_other hjk] at hj
      exact hnl ⟨j, hj⟩
  · exact hm (.inr ho)
theorem verAny_other (h : Hp) (ob : Ob) {j k n : Nat} (hj : j ≠ k) : verAny ((k, ob) :: h) j n ↔ verAny h j n := by
  unfold verAny; rw [hget_other h ob (Ne.symm hj)]
theorem verRow_other (h : Hp) (ob : Ob) {j k sz n : Nat} (hj : j ≠ k) : verRow ((k, ob) :: h) j sz n ↔ verRow h j sz n := by
  unfold verRow; rw [hget_other h ob (Ne.symm hj)]
theorem Upd.mono (_ : Upd E h w k ob E' w') (j : Nat) (hj : (hget h j).isSome = true) : (hget ((k, ob) :: h) j).isSome = true := by
  by_cases e : j = k
  · subst e; rw [hget_same]; rfl
  · rw [hget_other h ob (Ne.symm e)]; exact hj
theorem Upd.trans (U : Upd E h w k ob E' w') (o : Bars) : Trans E h (bars E h o) w E' ((k, ob) :: h) (bars E' ((k, ob) :: h) o) w' := by
  refine ⟨fun j hj _ => ?_, fun j _ m hv => ?_, fun j hj sz n hv => ?_, U.carry o⟩
  · by_cases e : j = k
    · subst e; exact U.blk hj
    · exact U.offb j e
  · by_cases e : j = k
    · subst e; exact U.ver m hv
    · exact ⟨m, (verAny_other h ob e).2 hv, Nat.le_refl _, fun _ => U.offr j e⟩
  · by_cases e : j = k
    · subst e; exact U.verR hj sz n hv
    · exact ⟨n, (verRow_other h ob e).1 hv⟩
theorem Upd.hrep (U : Upd E h w k ob E' w') {o : Bars} (H : HRep E h o w) (hnew : ObRep E' ((k, ob) :: h) (bars E' ((k, ob) :: h) o) w' k ob)
    (hcl : ∀ j ∈ ob.keys, (hget ((k, ob) :: h) j).isSome = true) : HRep E' ((k, ob) :: h) o w' := by
  have T := U.trans o
  have hsame : ∀ j, j ≠ k → ∀ b, blkOf E h j = some b → w'.heap[b]? = w.heap[b]? := fun j hj b hb =>
    U.ext.block b (H.lt hb) (fun hx => hj (H.apart j k b hb hx))
  refine ⟨fun j ob' hj => ?_, fun j j' b h1 h2 => ?_, fun j ob' hj i hi => ?_⟩
  · by_cases e : j = k
    · subst e; rw [hget_same] at hj; cases hj; exact hnew
    · rw [hget_other h ob (Ne.symm e)] at hj
      have hr := H.obs j ob' hj
      have hs := hsame j e
      have hcl' := H.closed j ob' hj
      cases ob' with
      | box ty cs =>
        simp only [ObRep] at hr ⊢
        obtain ⟨us, g1, g2, g3⟩ := hr
        have hcl'' : ∀ i ∈ V.keyss cs, (hget h i).isSome = true := by simpa [Ob.keys] using hcl'
        refine ⟨us, ?_, g2.move T hcl'' (fun i hi => U.mono i (hcl'' i hi)), g3⟩
        rw [U.offb j e, hs _ (by simp [blkOf, hj])]; exact g1
      | row e' sz xs =>
        simp only [ObRep] at hr ⊢
        rw [U.offr j e]
        exact hr.move T.carry (fun b hb => hs b (by simpa [blkOf, hj] using hb))
      | froz sz xs =>
        simp only [ObRep] at hr ⊢
        rw [U.offr j e]
        exact hr.carry T.carry
      | dead _ => trivial
  · have key : ∀ i, i ≠ k → ∀ b, blkOf E' ((k, ob) :: h) k = some b → blkOf E' ((k, ob) :: h) i = some b → False := fun i hi b hk hb => by
      rw [U.blkOf_other hi] at hb
      rcases U.new b hk with g | g
      · exact hi (H.apart i k b hb g)
      · have := H.lt hb; omega
    by_cases e : j = k
    · by_cases e' : j' = k
      · rw [e, e']
      · subst e; exact (key j' e' b h1 h2).elim
    · by_cases e' : j' = k
      · subst e'; exact (key j e b h2 h1).elim
      · rw [U.blkOf_other e] at h1
        rw [U.blkOf_other e'] at h2
        exact H.apart j j' b h1 h2
  · by_cases e : j = k
    · subst e; rw [hget_same] at hj; cases hj; exact hcl i hi
    · rw [hget_other h ob (Ne.symm e)] at hj
      exact U.mono i (H.closed j ob' hj i hi)
end

/-! ### A call's own state -/
structure Ctx where
  n : Nat
  w0 : World
  S : Nat → Prop
  E0 : Env
  h0 : Hp
  o : Bars
/-- What became of the objects that were handed in (numbers from 1000 on). -/
def Hist (E0 : Env) (h0 : Hp) (E : Env) (h : Hp) : Prop := ∀ k, 1000 ≤ k → (hget h k).isSome = true →
  (hget h0 k).isSome = true ∧ E.blk k = E0.blk k ∧ (∀ m, verAny h0 k m → ∃ m', verAny h k m' ∧ m ≤ m' ∧ (m = m' → E.row k = E0.row k)) ∧ ∀ sz n, verRow h k sz n → ∃ m, verRow h0 k sz m
structure Conc (G : Ctx) (E : Env) (fr : Fr) (h : Hp) (a : Act) (w : World) : Prop where
  size : a.tmps.size = G.n
  defers : a.defers = []
  frame : ∀ i, V.Rep E h (bars E h G.o) w (fget fr i) (a.tmps.getD i undef)
  heap : HRep E h G.o w
  closed : ∀ i, ∀ j ∈ (fget fr i).keys, (hget h j).isSome = true
  ext : Ext G.S G.w0 w
  fresh : ∀ k b, blkOf E h k = some b → G.S b ∨ G.w0.heap.size ≤ b
  keep : Hist G.E0 G.h0 E h
  outer : ∀ t b, G.o t b → b < G.w0.heap.size ∧ ¬ G.S b
  sub : ∀ b, G.o true b → G.o false b
section
variable {G : Ctx} {E : Env} {fr : Fr} {h : Hp} {a : Act} {w : World}
theorem getD_put {a : Act} {d : Nat} (hd : d < a.tmps.size) (u : Value) (i : Nat) : (a.put (some d) u).tmps.getD i undef = if i = d then u else a.tmps.getD i undef := by
  simp only [Act.put, Array.getD_eq_getD_getElem?]
  by_cases e : i = d
  · subst e; simp [hd]
  · rw [if_neg e, Array.getElem?_setIfInBounds_ne (Ne.symm e)]
/-- A slot is written, no object. -/
theorem Conc.put (C : Conc G E fr h a w) {d : Nat} (hd : d < G.n) {v : V} {u : Value} (hv : V.Rep E h (bars E h G.o) w v u) (hk : ∀ j ∈ v.keys, (hget h j).isSome = true) :
    Conc G E ((d, v) :: fr) h (a.put (some d) u) w := by
  refine ⟨by simp [Act.put, C.size], by simp [Act.put, C.defers], fun i => ?_, C.heap, fun i => ?_, C.ext, C.fresh, C.keep, C.outer, C.sub⟩
  · rw [getD_put (by rw [C.size]; exact hd)]
    by_cases e : i = d
    · subst e; rw [if_pos rfl, fget_same]; exact hv
    · rw [if_neg e, fget_other fr v (Ne.symm e)]; exact C.frame i
  · by_cases e : i = d
    · subst e; rw [fget_same]; exact hk
    · rw [fget_other fr v (Ne.symm e)]; exact C.closed i
theorem Conc.putNone (C : Conc G E fr h a w) (u : Value) : Conc G E fr h (a.put none u) w := C
/-- The world draws. -/
theorem Trans.drew (E : Env) (h : Hp) (M : Bars) (w : World) : Trans E h M w E h M w.drew :=
  ⟨fun _ _ _ => rfl, fun _ _ m hv => ⟨m, hv, Nat.le_refl _, fun _ => rfl⟩, fun _ _ _ n hv => ⟨n, hv⟩, ⟨fun _ _ _ hm => ⟨rfl, hm⟩, Nat.le_refl _⟩⟩
theorem HRep.drew {o : Bars} (H : HRep E h o w) : HRep E h o w.drew := by
  have T := Trans.drew E h (bars E h o) w
  refine ⟨fun k ob hk => ?_, H.apart, H.closed⟩
  have hr := H.obs k ob hk
  cases ob with
  | box ty cs =>
    obtain ⟨us, g1, g2, g3⟩ := hr
    exact ⟨us, g1, g2.move T (H.closed k _ hk) (H.closed k _ hk), g3⟩
  | row e sz xs => exact RowAt.move hr T.carry (fun _ _ => rfl)
  | froz sz xs => exact D.Rep.carry T.carry hr
  | dead _ => trivial
theorem Conc.drew (C : Conc G E fr h a w) : Conc G E fr h a w.drew :=
  ⟨C.size, C.defers, fun i => (C.frame i).move (Trans.drew E h _ w) (C.closed i) (C.closed i), C.heap.drew, C.closed, C.ext.drew, C.fresh, C.keep, C.outer, C.sub⟩
theorem Upd.hist {k : Nat} {ob : Ob} {E' : Env} {w' : World} (U : Upd E h w k ob E' w') {E0 : Env} {h0 : Hp} (H : Hist E0 h0 E h) : Hist E0 h0 E' ((k, ob) :: h) := by
  intro j hj hs
  by_cases e : j = k
  · subst e
    have hold : (hget h j).isSome = true := by
      cases hh : hget h j with
      | none => have := U.low hh; omega
      | some _ => rfl
    obtain ⟨g0, g1, g2, g3⟩ := H j hj hold
    refine ⟨g0, (U.blk hold).trans g1, fun m hm => ?_, fun sz n hv => ?_⟩
    · obtain ⟨m1, k1, k2, k3⟩ := g2 m hm
      obtain ⟨m2, l1, l2, l3⟩ := U.ver m1 k1
      exact ⟨m2, l1, by omega, fun e => (l3 (by omega)).trans (k3 (by omega))⟩
    · obtain ⟨m, hm⟩ := U.verR hold sz n hv
      exact g3 sz m hm
  · rw [hget_other h ob (Ne.symm e)] at hs
    obtain ⟨g0, g1, g2, g3⟩ := H j hj hs
    refine ⟨g0, (U.offb j e).trans g1, fun m hm => ?_, fun sz n hv => g3 sz n ((verRow_other h ob e).1 hv)⟩
    obtain ⟨m1, k1, k2, k3⟩ := g2 m hm
    exact ⟨m1, (verAny_other h ob e).2 k1, k2, fun q => (U.offr j e).trans (k3 q)⟩
/-- An object is new, or changes; no slot is written. -/
theorem Conc.upd (C : Conc G E fr h a w) {k : Nat} {ob : Ob} {E' : Env} {w' : World} (U : Upd E h w k ob E' w')
    (hnew : ObRep E' ((k, ob) :: h) (bars E' ((k, ob) :: h) G.o) w' k ob) (hcl : ∀ j ∈ ob.keys, (hget ((k, ob) :: h) j).isSome = true) : Conc G E' fr ((k, ob) :: h) a w' := by
  have T := U.trans G.o
  refine ⟨C.size, C.defers, fun i => (C.frame i).move T (C.closed i) (fun j hj => U.mono j (C.closed i j hj)), U.hrep C.heap hnew hcl, fun i j hj => U.mono j (C.closed i j hj), ?_, fun j b hb => ?_, U.hist C.keep, C.outer, C.sub⟩
  · refine C.ext.trans U.ext (fun x hx hl => ?_)
    rcases C.fresh k x hx with h1 | h1
    · exact h1
    · omega
  · by_cases e : j = k
    · subst e
      rcases U.new b hb with h1 | h1
      · exact C.fresh j b h1
      · exact .inr (Nat.le_trans C.ext.size h1)
    · rw [U.blkOf_other e] at hb; exact C.fresh j b hb
end
end Go.Proofs.Ytpaeihifcmohkaa
