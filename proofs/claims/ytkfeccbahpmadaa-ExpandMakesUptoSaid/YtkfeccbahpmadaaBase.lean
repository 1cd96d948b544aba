/-
  The ground of all proofs of this seat: how data lie in memory (D, Rep), what a call leaves as it was (Ext), slices that a call builds by append (Own).
  No condition; nothing of the program is named here.
-/
import Derived.WalkKit
import Derived.ProofKit
import Derived.Laws.AppendOwnNone
import Derived.Deep.QuietTactic
set_option linter.unusedVariables false
set_option linter.unusedSimpArgs false
set_option linter.unusedSectionVars false
namespace Go.Proofs.Ytkfeccbahpmadaa.Old
open Go.RowKit

/-! ### What stays -/

/-- w' is w with new blocks, and with writes to blocks of S alone. -/
structure Ext (S : List Nat) (w w' : World) : Prop where
  os : w'.os = w.os
  tape : w'.tape = w.tape
  output : w'.output = w.output
  size : w.heap.size ≤ w'.heap.size
  block : ∀ k, k < w.heap.size → k ∉ S → w'.heap[k]? = w.heap[k]?

namespace Ext
variable {S T : List Nat} {a b c w w' : World}
theorem refl (S : List Nat) (w : World) : Ext S w w := ⟨rfl, rfl, rfl, Nat.le_refl _, fun _ _ _ => rfl⟩
theorem trans (h : Ext S a b) (k : Ext T b c) (hT : ∀ x ∈ T, x < a.heap.size → x ∈ S) : Ext S a c :=
  ⟨k.os.trans h.os, k.tape.trans h.tape, k.output.trans h.output, Nat.le_trans h.size k.size,
    fun i hi hn => (k.block i (Nat.lt_of_lt_of_le hi h.size) (fun hx => hn (hT i hx hi))).trans (h.block i hi hn)⟩
theorem trans0 (h : Ext S a b) (k : Ext [] b c) : Ext S a c := h.trans k (by simp)
theorem mono (h : Ext S a b) (hs : ∀ x ∈ S, x ∈ T) : Ext T a b := ⟨h.os, h.tape, h.output, h.size, fun i hi hn => h.block i hi (fun hx => hn (hs i hx))⟩
theorem drew (h : Ext S a w) : Ext S a w.drew := ⟨h.os, h.tape, h.output, h.size, h.block⟩
theorem alloc (h : Ext S a w) (o : Obj) : Ext S a (w.alloc o) :=
  ⟨h.os, h.tape, h.output, by have := h.size; simp; omega, fun k hk hn => (Below.heap_alloc w o k (by have := h.size; omega)).trans (h.block k hk hn)⟩
theorem setCell (h : Ext S a w) {p : Addr} (hp : a.heap.size ≤ p.block ∨ p.block ∈ S) (u : Value) : Ext S a (w.setCell p u) :=
  ⟨h.os, h.tape, h.output, by have := h.size; simp [World.setCell]; omega, fun k hk hn => (Below.heap_setCell w p u k (by
    rintro rfl; rcases hp with hp | hp
    · omega
    · exact hn hp)).trans (h.block k hk hn)⟩
theorem grown (h : Ext S a w) {row : Option Nat} (hg : w.grownBy w' row) (hr : ∀ k, row = some k → a.heap.size ≤ k ∨ k ∈ S) : Ext S a w' :=
  ⟨hg.os.trans h.os, hg.tape.trans h.tape, hg.output.trans h.output, Nat.le_trans h.size hg.size, fun k hk hn =>
    (hg.block k (Nat.lt_of_lt_of_le hk h.size) (fun e => by
      rcases hr k e.symm with h1 | h1
      · omega
      · exact hn h1)).trans (h.block k hk hn)⟩
theorem of_grown {row : Option Nat} (hg : w.grownBy w' row) : Ext row.toList w w' :=
  (Ext.refl _ w).grown hg (fun k hk => by subst hk; simp)
theorem cell (h : Ext S w w') {p : Addr} (hp : p.block < w.heap.size) (hn : p.block ∉ S) : w'.cell? p = w.cell? p := World.cell?_of_block (w := w) (h.block p.block hp hn)
theorem frozen (h : Ext S w w') {p : Addr} (hp : p.block < w.heap.size) (hn : p.block ∉ S) : w'.frozen? p = w.frozen? p := World.frozen?_of_block (w := w) (h.block p.block hp hn)
theorem below (h : Ext [] w w') : Below w.heap.size w w' := ⟨h.os, h.tape, h.output, h.size, fun k hk => h.block k hk (by simp)⟩
theorem of_below (h : Below w.heap.size w w') : Ext [] w w' := ⟨h.os, h.tape, h.output, h.size, fun k hk _ => h.block k hk⟩
/-- The two rules that the walk takes by itself. -/
theorem cells (h : Ext [] w w') : (∀ b o, b < w.heap.size → w'.cell? ⟨b, o, none⟩ = w.cell? ⟨b, o, none⟩) ∧ (∀ b o, b < w.heap.size → w'.frozen? ⟨b, o, none⟩ = w.frozen? ⟨b, o, none⟩) :=
  ⟨fun b o hb => h.cell (p := ⟨b, o, none⟩) hb (by simp), fun b o hb => h.frozen (p := ⟨b, o, none⟩) hb (by simp)⟩
end Ext

/-! ### Data -/

/-- Data as they lie in cells: numbers, bools, texts, structs, slices (sz: the cells of an element). -/
inductive D where
  | int (k : IntKind) (n : Int)
  | bool (b : Bool)
  | str (s : ByteArray)
  | agg (fs : List D)
  | slice (sz : Nat) (xs : List D)

mutual
/-- How many cells. -/
def D.size : D → Nat
  | .int _ _ => 1
  | .bool _ => 1
  | .str _ => 1
  | .agg fs => D.sizes fs
  | .slice _ _ => 1
def D.sizes : List D → Nat
  | [] => 0
  | d :: ds => d.size + D.sizes ds
end

mutual
/-- Cells that are a datum, in a world, no block of M being read. -/
def D.Rep (M : List Nat) (w : World) : D → List Value → Prop
  | .int k n, cs => cs = [.int k n]
  | .bool b, cs => cs = [.bool b]
  | .str s, cs => cs = [.string s]
  | .agg fs, cs => D.Reps M w fs cs
  | .slice sz xs, cs => ∃ a cap es, cs = [.slice a xs.length cap] ∧ xs.length ≤ cap ∧ cap ≤ maxLen ∧ (∀ x ∈ xs, x.size = sz) ∧ D.Reps M w xs es ∧
      (xs ≠ [] → ∃ b off, a = some ⟨b, off, none⟩ ∧ b ∉ M ∧ b < w.heap.size ∧ ∀ j, j < es.length → w.cell? ⟨b, off + j, none⟩ = es[j]?)
def D.Reps (M : List Nat) (w : World) : List D → List Value → Prop
  | [], cs => cs = []
  | d :: ds, cs => ∃ c r, cs = c ++ r ∧ D.Rep M w d c ∧ D.Reps M w ds r
end

mutual
theorem D.Rep.length {M : List Nat} {w : World} : ∀ {d : D} {cs : List Value}, d.Rep M w cs → cs.length = d.size
  | .int _ _, _, h => by simp only [D.Rep] at h; subst h; rfl
  | .bool _, _, h => by simp only [D.Rep] at h; subst h; rfl
  | .str _, _, h => by simp only [D.Rep] at h; subst h; rfl
  | .agg fs, _, h => by simp only [D.Rep] at h; exact D.Reps.length h
  | .slice _ _, _, h => by simp only [D.Rep] at h; obtain ⟨a, cap, es, rfl, _⟩ := h; rfl
theorem D.Reps.length {M : List Nat} {w : World} : ∀ {ds : List D} {cs : List Value}, D.Reps M w ds cs → cs.length = D.sizes ds
  | [], _, h => by simp only [D.Reps] at h; subst h; rfl
  | d :: ds, _, h => by
    simp only [D.Reps] at h
    obtain ⟨c, r, rfl, h1, h2⟩ := h
    simp only [List.length_append, D.sizes]
    rw [D.Rep.length h1, D.Reps.length h2]
end

theorem D.sizes_eq {sz : Nat} : ∀ {xs : List D}, (∀ x ∈ xs, x.size = sz) → D.sizes xs = xs.length * sz
  | [], _ => by simp [D.sizes]
  | x :: xs, h => by
    simp only [D.sizes, List.length_cons]
    rw [D.sizes_eq (xs := xs) (fun y hy => h y (by simp [hy])), h x (by simp), Nat.add_mul]
    omega

mutual
/-- What was read stays, where no block that was read was written; and fewer blocks may be barred, or such as are not there. -/
theorem D.Rep.carry {M M' : List Nat} {w w' : World} (hb : ∀ k, k < w.heap.size → k ∉ M → w'.heap[k]? = w.heap[k]? ∧ k ∉ M') (hs : w.heap.size ≤ w'.heap.size) :
    ∀ {d : D} {cs : List Value}, d.Rep M w cs → d.Rep M' w' cs
  | .int _ _, _, h => by simp only [D.Rep] at h ⊢; exact h
  | .bool _, _, h => by simp only [D.Rep] at h ⊢; exact h
  | .str _, _, h => by simp only [D.Rep] at h ⊢; exact h
  | .agg fs, _, h => by simp only [D.Rep] at h ⊢; exact D.Reps.carry hb hs h
  | .slice _ xs, _, h => by
    simp only [D.Rep] at h ⊢
    obtain ⟨a, cap, es, rfl, h1, h2, h3, h4, h5⟩ := h
    refine ⟨a, cap, es, rfl, h1, h2, h3, D.Reps.carry hb hs h4, fun hne => ?_⟩
    obtain ⟨b, off, ha, hm, hlt, hc⟩ := h5 hne
    exact ⟨b, off, ha, (hb b hlt hm).2, by omega, fun j hj => (World.cell?_of_block (w := w) (w' := w') (a := ⟨b, off + j, none⟩) (hb b hlt hm).1).trans (hc j hj)⟩
theorem D.Reps.carry {M M' : List Nat} {w w' : World} (hb : ∀ k, k < w.heap.size → k ∉ M → w'.heap[k]? = w.heap[k]? ∧ k ∉ M') (hs : w.heap.size ≤ w'.heap.size) :
    ∀ {ds : List D} {cs : List Value}, D.Reps M w ds cs → D.Reps M' w' ds cs
  | [], _, h => by simp only [D.Reps] at h ⊢; exact h
  | d :: ds, _, h => by
    simp only [D.Reps] at h ⊢
    obtain ⟨c, r, rfl, h1, h2⟩ := h
    exact ⟨c, r, rfl, D.Rep.carry hb hs h1, D.Reps.carry hb hs h2⟩
end

theorem D.Rep.ext {M S : List Nat} {w w' : World} {d : D} {cs : List Value} (h : d.Rep M w cs) (he : Ext S w w') (hS : ∀ k ∈ S, k < w.heap.size → k ∈ M) : d.Rep M w' cs :=
  h.carry (fun k hk hn => ⟨he.block k hk (fun hx => hn (hS k hx hk)), hn⟩) he.size
theorem D.Reps.ext {M S : List Nat} {w w' : World} {ds : List D} {cs : List Value} (h : D.Reps M w ds cs) (he : Ext S w w') (hS : ∀ k ∈ S, k < w.heap.size → k ∈ M) : D.Reps M w' ds cs :=
  h.carry (fun k hk hn => ⟨he.block k hk (fun hx => hn (hS k hx hk)), hn⟩) he.size
theorem D.Rep.ext0 {M : List Nat} {w w' : World} {d : D} {cs : List Value} (h : d.Rep M w cs) (he : Ext [] w w') : d.Rep M w' cs := h.ext he (by simp)
theorem D.Reps.ext0 {M : List Nat} {w w' : World} {ds : List D} {cs : List Value} (h : D.Reps M w ds cs) (he : Ext [] w w') : D.Reps M w' ds cs := h.ext he (by simp)
/-- Blocks that are not there yet, or are barred already, may be barred. -/
theorem D.Rep.bar {M M' : List Nat} {w : World} {d : D} {cs : List Value} (h : d.Rep M w cs) (hM : ∀ k ∈ M', k < w.heap.size → k ∈ M) : d.Rep M' w cs :=
  h.carry (fun k hk hn => ⟨rfl, fun hx => hn (hM k hx hk)⟩) (Nat.le_refl _)
theorem D.Reps.bar {M M' : List Nat} {w : World} {ds : List D} {cs : List Value} (h : D.Reps M w ds cs) (hM : ∀ k ∈ M', k < w.heap.size → k ∈ M) : D.Reps M' w ds cs :=
  h.carry (fun k hk hn => ⟨rfl, fun hx => hn (hM k hx hk)⟩) (Nat.le_refl _)

theorem D.Reps.append {M : List Nat} {w : World} : ∀ {xs ys : List D} {cs es : List Value}, D.Reps M w xs cs → D.Reps M w ys es → D.Reps M w (xs ++ ys) (cs ++ es)
  | [], _, _, _, h, k => by simp only [D.Reps] at h; subst h; simpa using k
  | d :: ds, _, _, _, h, k => by
    simp only [D.Reps, List.cons_append] at h ⊢
    obtain ⟨c, r, rfl, h1, h2⟩ := h
    exact ⟨c, r ++ _, by simp, h1, h2.append k⟩
theorem D.Reps.one {M : List Nat} {w : World} {d : D} {cs : List Value} (h : d.Rep M w cs) : D.Reps M w [d] cs := by
  simp only [D.Reps]
  exact ⟨cs, [], by simp, h, rfl⟩
/-- The i-th of data that lie one behind the other. -/
theorem D.Reps.get {M : List Nat} {w : World} {sz : Nat} : ∀ {xs : List D} {es : List Value}, D.Reps M w xs es → (∀ x ∈ xs, x.size = sz) → ∀ i (hi : i < xs.length), ∃ c, xs[i].Rep M w c ∧ c.length = sz ∧ ∀ j, j < sz → es[i * sz + j]? = c[j]?
  | [], _, _, _, i, hi => by simp at hi
  | d :: ds, es, h, hs, i, hi => by
    simp only [D.Reps] at h
    obtain ⟨c, r, rfl, h1, h2⟩ := h
    have hc : c.length = sz := h1.length.trans (hs d (by simp))
    match i with
    | 0 => exact ⟨c, by simpa using h1, hc, fun j hj => by simp; rw [List.getElem?_append_left (by omega)]⟩
    | i + 1 =>
      obtain ⟨c', g1, g2, g3⟩ := h2.get (fun x hx => hs x (by simp [hx])) i (by simpa using hi)
      refine ⟨c', by simpa using g1, g2, fun j hj => ?_⟩
      rw [← g3 j hj, List.getElem?_append_right (by rw [hc, Nat.add_mul]; omega)]
      congr 1
      rw [hc, Nat.add_mul]
      omega
theorem D.Reps.take {M : List Nat} {w : World} {sz : Nat} : ∀ {xs : List D} {es : List Value}, D.Reps M w xs es → (∀ x ∈ xs, x.size = sz) → ∀ k, D.Reps M w (xs.take k) (es.take (k * sz))
  | [], _, h, _, k => by simp only [D.Reps] at h; subst h; simp [D.Reps]
  | d :: ds, es, h, hs, 0 => by simp [D.Reps]
  | d :: ds, es, h, hs, k + 1 => by
    simp only [D.Reps] at h
    obtain ⟨c, r, rfl, h1, h2⟩ := h
    have hc : c.length = sz := h1.length.trans (hs d (by simp))
    have ih := h2.take (fun x hx => hs x (by simp [hx])) k
    simp only [List.take_succ_cons, D.Reps]
    refine ⟨c, r.take (k * sz), ?_, h1, ih⟩
    rw [List.take_append, List.take_of_length_le (by rw [hc, Nat.add_mul]; omega)]
    congr 2
    rw [hc, Nat.add_mul]; omega
theorem D.Reps.drop {M : List Nat} {w : World} {sz : Nat} : ∀ {xs : List D} {es : List Value}, D.Reps M w xs es → (∀ x ∈ xs, x.size = sz) → ∀ k, D.Reps M w (xs.drop k) (es.drop (k * sz))
  | [], _, h, _, k => by simp only [D.Reps] at h; subst h; simp [D.Reps]
  | d :: ds, es, h, hs, 0 => by simpa using h
  | d :: ds, es, h, hs, k + 1 => by
    simp only [D.Reps] at h
    obtain ⟨c, r, rfl, h1, h2⟩ := h
    have hc : c.length = sz := h1.length.trans (hs d (by simp))
    have ih := h2.drop (fun x hx => hs x (by simp [hx])) k
    simp only [List.drop_succ_cons]
    have e : (c ++ r).drop ((k + 1) * sz) = r.drop (k * sz) := by
      have e1 : (k + 1) * sz = c.length + k * sz := by rw [hc, Nat.add_mul]; omega
      rw [e1, List.drop_append, List.drop_of_length_le (by omega)]
      simp
    rw [e]
    exact ih

/-! ### Slices -/

/-- A slice's value reads as a list of data. -/
def Sl (M : List Nat) (w : World) (sz : Nat) (v : Value) (xs : List D) : Prop := (D.slice sz xs).Rep M w [v]

theorem Sl.ext {M S : List Nat} {w w' : World} {sz : Nat} {v : Value} {xs : List D} (h : Sl M w sz v xs) (he : Ext S w w') (hS : ∀ k ∈ S, k < w.heap.size → k ∈ M) : Sl M w' sz v xs := D.Rep.ext h he hS
theorem Sl.ext0 {M : List Nat} {w w' : World} {sz : Nat} {v : Value} {xs : List D} (h : Sl M w sz v xs) (he : Ext [] w w') : Sl M w' sz v xs := D.Rep.ext0 h he
theorem Sl.bar {M M' : List Nat} {w : World} {sz : Nat} {v : Value} {xs : List D} (h : Sl M w sz v xs) (hM : ∀ k ∈ M', k < w.heap.size → k ∈ M) : Sl M' w sz v xs := D.Rep.bar h hM

theorem Sl.shape {M : List Nat} {w : World} {sz : Nat} {v : Value} {xs : List D} (h : Sl M w sz v xs) : ∃ a cap, v = .slice a xs.length cap ∧ xs.length ≤ cap ∧ cap ≤ maxLen := by
  simp only [Sl, D.Rep] at h
  obtain ⟨a, cap, es, he, h1, h2, _⟩ := h
  simp only [List.cons.injEq, and_true] at he
  exact ⟨a, cap, he, h1, h2⟩
/-- What lies there: at the address of a slice that is not empty, element by element. -/
theorem Sl.at {M : List Nat} {w : World} {sz : Nat} {a : Option Addr} {n cap : Nat} {xs : List D} (h : Sl M w sz (.slice a n cap) xs) (hne : 0 < n) :
    ∃ b off, a = some ⟨b, off, none⟩ ∧ b ∉ M ∧ b < w.heap.size ∧ ∀ i (hi : i < xs.length), ∃ c, xs[i].Rep M w c ∧ c.length = sz ∧ ∀ j, j < sz → w.cell? ⟨b, off + (i * sz + j), none⟩ = c[j]? := by
  simp only [Sl, D.Rep] at h
  obtain ⟨a', cap', es, he, h1, h2, h3, h4, h5⟩ := h
  simp only [List.cons.injEq, and_true, Value.slice.injEq] at he
  obtain ⟨rfl, rfl, rfl⟩ := he
  obtain ⟨b, off, ha, hm, hlt, hc⟩ := h5 (by intro e; subst e; simp at hne)
  refine ⟨b, off, ha, hm, hlt, fun i hi => ?_⟩
  obtain ⟨c, g1, g2, g3⟩ := h4.get h3 i hi
  refine ⟨c, g1, g2, fun j hj => ?_⟩
  have hl := h4.length
  rw [D.sizes_eq h3] at hl
  have : i * sz + j < es.length := by
    rw [hl]
    have : (i + 1) * sz ≤ xs.length * sz := Nat.mul_le_mul_right _ hi
    rw [Nat.add_mul] at this
    omega
  rw [hc _ this, g3 j hj]

/-- Elements of one cell each that are known outright: f (numbers, bools, texts). -/
theorem Sl.plain {α : Type} {f : α → D} {g : α → Value} (hf : ∀ M w x c, (f x).Rep M w c ↔ c = [g x]) {M : List Nat} {w : World} {a : Option Addr} {n cap : Nat} {xs : List α} (h : Sl M w 1 (.slice a n cap) (xs.map f)) (hne : 0 < n) :
    ∃ b off, a = some ⟨b, off, none⟩ ∧ b ∉ M ∧ b < w.heap.size ∧ ∀ i (hi : i < xs.length), w.cell? ⟨b, off + i, none⟩ = some (g xs[i]) := by
  obtain ⟨b, off, h1, h2, h3, h4⟩ := h.at hne
  refine ⟨b, off, h1, h2, h3, fun i hi => ?_⟩
  obtain ⟨c, g1, _, g3⟩ := h4 i (by simpa using hi)
  simp only [List.getElem_map, hf] at g1
  subst g1
  simpa using g3 0 (by omega)

theorem Sl.nil (M : List Nat) (w : World) (sz : Nat) (a : Option Addr) (cap : Nat) (hc : cap ≤ maxLen) : Sl M w sz (.slice a 0 cap) [] := by
  simp only [Sl, D.Rep]
  exact ⟨a, cap, [], rfl, Nat.zero_le _, hc, by simp, by simp [D.Reps], by simp⟩

/-! ### A slice that the call itself builds -/

/-- The block that a slice's value may write to by append. -/
def ob : Value → List Nat
  | .slice (some a) _ cap => if cap = 0 then [] else [a.block]
  | _ => []

/-- The slice v owns its row (of a block from B on), or has no room at all; its elements lie elsewhere, in no block of M. -/
def Own (B : Nat) (M : List Nat) (w : World) (e sz : Nat) (v : Value) (xs : List D) : Prop :=
  (∀ x ∈ xs, x.size = sz) ∧ ((∃ a, v = .slice a 0 0 ∧ xs = []) ∨
    ∃ g cap cur es, v = .slice (some ⟨g, 0, none⟩) xs.length cap ∧ 0 < cap ∧ B ≤ g ∧ g ∉ M ∧ w.heap[g]? = some (.cells cur e (0, 0)) ∧ xs.length ≤ cap ∧ cap ≤ maxLen ∧
      cur.size = cap * sz ∧ cur.toList.take (xs.length * sz) = es ∧ D.Reps (g :: M) w xs es)

theorem Own.nil (B : Nat) (M : List Nat) (w : World) (e sz : Nat) (a : Option Addr) : Own B M w e sz (.slice a 0 0) [] := ⟨by simp, .inl ⟨a, rfl, rfl⟩⟩

/-- What was built is read as any other. -/
theorem Own.sl {B : Nat} {M : List Nat} {w : World} {e sz : Nat} {v : Value} {xs : List D} (h : Own B M w e sz v xs) : Sl M w sz v xs := by
  obtain ⟨h2, ⟨a, rfl, rfl⟩ | ⟨g, cap, cur, es, rfl, h0, hb, hM, hg, hnc, hcm, hcs, ht, h3⟩⟩ := h
  · exact Sl.nil M w sz a 0 (by simp [maxLen])
  · simp only [Sl, D.Rep]
    refine ⟨_, cap, es, rfl, hnc, hcm, h2, h3.bar (fun k hk _ => by simp [hk]), fun _ => ⟨g, 0, rfl, hM, (Array.getElem?_eq_some_iff.1 hg).1, fun j hj => ?_⟩⟩
    have hl := h3.length
    rw [D.sizes_eq h2] at hl
    have hj' : j < xs.length * sz := by omega
    simp only [World.cell?, hg, Nat.zero_add]
    rw [← ht, List.getElem?_take, if_pos hj']
    simp

theorem Own.ext {B : Nat} {M S : List Nat} {w w' : World} {e sz : Nat} {v : Value} {xs : List D} (h : Own B M w e sz v xs) (he : Ext S w w') (hS : ∀ k ∈ S, k < w.heap.size → k ∈ M) : Own B M w' e sz v xs := by
  obtain ⟨h2, h | ⟨g, cap, cur, es, rfl, h0, hb, hM, hg, hnc, hcm, hcs, ht, h3⟩⟩ := h
  · exact ⟨h2, .inl h⟩
  · have hlt := (Array.getElem?_eq_some_iff.1 hg).1
    exact ⟨h2, .inr ⟨g, cap, cur, es, rfl, h0, hb, hM, (he.block g hlt (fun hx => hM (hS g hx hlt))).trans hg, hnc, hcm, hcs, ht, h3.ext he (fun k hk hlt => by simp [hS k hk hlt])⟩⟩
theorem Own.ext0 {B : Nat} {M : List Nat} {w w' : World} {e sz : Nat} {v : Value} {xs : List D} (h : Own B M w e sz v xs) (he : Ext [] w w') : Own B M w' e sz v xs := h.ext he (by simp)
theorem Own.bar {B B' : Nat} {M M' : List Nat} {w : World} {e sz : Nat} {v : Value} {xs : List D} (h : Own B M w e sz v xs) (hM : ∀ k ∈ M', k < w.heap.size → k ∈ M) (hB : B' ≤ B) : Own B' M' w e sz v xs := by
  obtain ⟨h2, h | ⟨g, cap, cur, es, rfl, h0, hb, hgM, hg, hnc, hcm, hcs, ht, h3⟩⟩ := h
  · exact ⟨h2, .inl h⟩
  · have hlt := (Array.getElem?_eq_some_iff.1 hg).1
    refine ⟨h2, .inr ⟨g, cap, cur, es, rfl, h0, by omega, fun hx => hgM (hM g hx hlt), hg, hnc, hcm, hcs, ht, h3.bar (fun k hk hlt => ?_)⟩⟩
    simp only [List.mem_cons] at hk ⊢
    rcases hk with hk | hk
    · exact .inl hk
    · exact .inr (hM k hk hlt)
theorem Own.block {B : Nat} {M : List Nat} {w : World} {e sz : Nat} {v : Value} {xs : List D} (h : Own B M w e sz v xs) : ∀ k ∈ ob v, B ≤ k ∧ k < w.heap.size ∧ k ∉ M := by
  obtain ⟨h2, ⟨a, rfl, rfl⟩ | ⟨g, cap, cur, es, rfl, h0, hb, hgM, hg, _⟩⟩ := h
  · intro k hk; cases a <;> simp [ob] at hk
  · intro k hk
    simp only [ob, if_neg (by omega : ¬ cap = 0), List.mem_singleton] at hk
    subst hk
    exact ⟨hb, (Array.getElem?_eq_some_iff.1 hg).1, hgM⟩
theorem Own.shape {B : Nat} {M : List Nat} {w : World} {e sz : Nat} {v : Value} {xs : List D} (h : Own B M w e sz v xs) : ∃ a cap, v = .slice a xs.length cap ∧ xs.length ≤ cap ∧ cap ≤ maxLen := h.sl.shape
theorem Own.sizes {B : Nat} {M : List Nat} {w : World} {e sz : Nat} {v : Value} {xs : List D} (h : Own B M w e sz v xs) : ∀ x ∈ xs, x.size = sz := h.1
/-- Its own block may be barred besides. -/
theorem Own.sl_bar {B : Nat} {M M' : List Nat} {w : World} {e sz : Nat} {v : Value} {xs : List D} (h : Own B M w e sz v xs) (hM : ∀ k ∈ M', k < w.heap.size → k ∈ M) : Sl M' w sz v xs := h.sl.bar hM

mutual
theorem D.Rep.one {M : List Nat} {w : World} : ∀ {d : D} {cs : List Value}, d.Rep M w cs → ∀ u ∈ cs, u.oneCell' = true
  | .int _ _, _, h => by simp only [D.Rep] at h; subst h; simp [Value.oneCell']
  | .bool _, _, h => by simp only [D.Rep] at h; subst h; simp [Value.oneCell']
  | .str _, _, h => by simp only [D.Rep] at h; subst h; simp [Value.oneCell']
  | .agg fs, _, h => by simp only [D.Rep] at h; exact D.Reps.one' h
  | .slice _ _, _, h => by simp only [D.Rep] at h; obtain ⟨a, cap, es, rfl, _⟩ := h; simp [Value.oneCell']
theorem D.Reps.one' {M : List Nat} {w : World} : ∀ {ds : List D} {cs : List Value}, D.Reps M w ds cs → ∀ u ∈ cs, u.oneCell' = true
  | [], _, h => by simp only [D.Reps] at h; subst h; simp
  | d :: ds, _, h => by
    simp only [D.Reps] at h
    obtain ⟨c, r, rfl, h1, h2⟩ := h
    intro u hu
    rcases List.mem_append.1 hu with hu | hu
    · exact D.Rep.one h1 u hu
    · exact D.Reps.one' h2 u hu
end

mutual
/-- No slice in it: read off its cells alone. -/
def D.flat : D → Bool
  | .int _ _ => true
  | .bool _ => true
  | .str _ => true
  | .agg fs => D.flats fs
  | .slice _ _ => false
def D.flats : List D → Bool
  | [] => true
  | d :: ds => d.flat && D.flats ds
end
mutual
theorem D.Rep.flat {M M' : List Nat} {w w' : World} : ∀ {d : D} {cs : List Value}, d.flat = true → d.Rep M w cs → d.Rep M' w' cs
  | .int _ _, _, _, h => by simp only [D.Rep] at h ⊢; exact h
  | .bool _, _, _, h => by simp only [D.Rep] at h ⊢; exact h
  | .str _, _, _, h => by simp only [D.Rep] at h ⊢; exact h
  | .agg fs, _, hf, h => by simp only [D.Rep] at h ⊢; exact D.Reps.flat (by simpa [D.flat] using hf) h
  | .slice _ xs, _, hf, h => by simp [D.flat] at hf
theorem D.Reps.flat {M M' : List Nat} {w w' : World} : ∀ {ds : List D} {cs : List Value}, D.flats ds = true → D.Reps M w ds cs → D.Reps M' w' ds cs
  | [], _, _, h => by simp only [D.Reps] at h ⊢; exact h
  | d :: ds, _, hf, h => by
    simp only [D.Reps] at h ⊢
    simp only [D.flats, Bool.and_eq_true] at hf
    obtain ⟨c, r, rfl, h1, h2⟩ := h
    exact ⟨c, r, rfl, D.Rep.flat hf.1 h1, D.Reps.flat hf.2 h2⟩
end
theorem D.flats_map {α : Type} (f : α → D) (hf : ∀ x, (f x).flat = true) : ∀ xs : List α, D.flats (xs.map f) = true
  | [] => rfl
  | x :: xs => by simp [D.flats, hf x, D.flats_map f hf xs]
/-- Elements without slices: whatever blocks are barred, but the row's own. -/
theorem Own.flat {B : Nat} {M M' : List Nat} {w : World} {e sz : Nat} {v : Value} {xs : List D} (h : Own B M w e sz v xs) (hf : D.flats xs = true) (hM : ∀ k ∈ M', k ∉ ob v) : Own B M' w e sz v xs := by
  obtain ⟨h2, h | ⟨g, cap, cur, es, rfl, h0, hb, hgM, hg, hnc, hcm, hcs, ht, h3⟩⟩ := h
  · exact ⟨h2, .inl h⟩
  · refine ⟨h2, .inr ⟨g, cap, cur, es, rfl, h0, hb, fun hx => hM g hx ?_, hg, hnc, hcm, hcs, ht, D.Reps.flat hf h3⟩⟩
    simp only [ob, if_neg (by omega : ¬ cap = 0), List.mem_singleton]

theorem addr_add (b off j : Nat) : (⟨b, off, none⟩ : Addr).add j = ⟨b, off + j, none⟩ := by
  unfold Addr.add
  split
  · rename_i h; subst h; rfl
  · rfl

/-- APPEND: a slice of the call's own, and whatever slice behind it. -/
theorem Own.run_append {P : Program} {w : World} {B : Nat} {M : List Nat} {e sz : Nat} {v x : Value} {xs ys : List D} (t ty : TypeId) (i : TypeInfo) (z : Value) (bytes : Nat)
    (ht : P.underlying t = some (.slice e)) (hi : P.info? e = some i) (hz : i.zero = some z) (hsize : i.size = sz) (hby : i.bytes = bytes) (hzs : z.cells.size = sz) (hsz : 0 < sz)
    (hown : Own B M w e sz v xs) (hx : Sl (ob v ++ M) w sz x ys) (hM : ∀ k ∈ M, k < w.heap.size) (hbytes : (xs.length + ys.length) * bytes ≤ 140737488355328) (h63 : xs.length + ys.length ≤ maxLen) (hbase : B ≤ w.heap.size) :
    ∃ v' w', (Builtin.append_ #[t, t] ty #[v, x]).run P w = .ok v' w' ∧ Own B M w' e sz v' (xs ++ ys) ∧ Ext (ob v) w w' := by
  subst hsize
  subst hby
  have hsmall : xs.length + ys.length ≤ 9223372036854775807 := by simp only [maxLen] at h63; omega
  simp only [Sl, D.Rep] at hx
  obtain ⟨xa, xc, news, hxe, hx1, hx2, hx3, hx4, hx5⟩ := hx
  simp only [List.cons.injEq, and_true] at hxe
  subst hxe
  have hxl := hx4.length
  rw [D.sizes_eq hx3] at hxl
  have hsizes : ∀ y ∈ xs ++ ys, y.size = i.size := by
    intro y hy
    rcases List.mem_append.1 hy with hy | hy
    · exact hown.sizes y hy
    · exact hx3 y hy
  by_cases hys : ys = []
  · subst hys
    have hnews : news = [] := List.eq_nil_of_length_eq_zero (by simpa using hxl)
    refine ⟨v, w, ?_, by simpa using hown, Ext.refl _ w⟩
    obtain ⟨a, cap, rfl, hc, _⟩ := hown.shape
    cases xa <;> cases a <;> simp [Builtin.append_, run_underlying ht, sizeOf, typeInfo, hi, Builtin.lenOf, Builtin.firstCells, loadCells, loadCellsFrom, storeCells, hc]
  · obtain ⟨xb, xoff, rfl, hxm, hxlt, hxc⟩ := hx5 hys
    have hyl : 0 < ys.length := List.length_pos_iff.2 hys
    have hn : ∀ j u, news[j]? = some u → w.cell? ((⟨xb, xoff, none⟩ : Addr).add j) = some u := fun j u hu => by
      rw [addr_add, hxc j (List.getElem?_eq_some_iff.1 hu).1, hu]
    -- a new row
    have grown : ∀ (old : Nat) (es : List Value) (M' : List Nat), D.Reps M' w xs es → (∀ k ∈ M, k ∈ M') → es.length = xs.length * i.size → old < xs.length + ys.length → D.Reps M w ys news →
        Own B M (w.drew.alloc (.cells (es.toArray ++ news.toArray ++ Builtin.zeroCells z.cells (grownCap w (xs.length + ys.length) old e - (xs.length + ys.length))) e)) e i.size
          (.slice (some ⟨w.heap.size, 0, none⟩) (xs.length + ys.length) (grownCap w (xs.length + ys.length) old e)) (xs ++ ys) := by
      intro old es M' h1 h2 h3 ho h4
      have hge := grownCap_ge w (xs.length + ys.length) old e
      have hcm : grownCap w (xs.length + ys.length) old e ≤ maxLen := grownCap_le_maxLen w (xs.length + ys.length) old e h63
      have hE : Ext [] w (w.drew.alloc (.cells (es.toArray ++ news.toArray ++ Builtin.zeroCells z.cells (grownCap w (xs.length + ys.length) old e - (xs.length + ys.length))) e)) := (Ext.refl [] w).drew.alloc _
      refine ⟨hsizes, .inr ⟨w.heap.size, _, _, es ++ news, by rw [List.length_append], by omega, hbase, fun hx => by have := hM _ hx; omega, heap_alloc_new w.drew _, by rw [List.length_append]; exact hge, hcm, ?_, ?_, ?_⟩⟩
      · simp only [Array.size_append, List.size_toArray, size_zeroCells, hzs, h3, hxl, ← Nat.add_mul]
        congr 1
        omega
      · simp only [Array.toList_append, List.append_assoc]
        rw [← List.append_assoc, List.length_append, Nat.add_mul, ← h3, ← hxl, ← List.length_append]
        exact List.take_left
      · refine D.Reps.append ?_ ?_
        · refine (h1.bar (M' := w.heap.size :: M) (fun k hk hlt => ?_)).ext0 hE
          rcases List.mem_cons.1 hk with hk | hk
          · omega
          · exact h2 k hk
        · refine (h4.bar (M' := w.heap.size :: M) (fun k hk hlt => ?_)).ext0 hE
          rcases List.mem_cons.1 hk with hk | hk
          · omega
          · exact hk
    have hx4' : D.Reps M w ys news := hx4.bar (fun k hk _ => by simp [hk])
    obtain ⟨hs0, ⟨a, rfl, rfl⟩ | ⟨g, cap, cur, es, rfl, h0, hb, hgM, hg, hnc, hcm, hcs, htk, h3⟩⟩ := hown
    · have hgr := grown 0 [] M (by simp [D.Reps]) (fun k hk => hk) (by simp) (by simp; omega) hx4'
      simp only [List.length_nil, Nat.zero_add, List.nil_append, Array.empty_append] at hgr hbytes hsmall ⊢
      cases a with
      | none =>
        have hr := run_append_nil (P := P) w t ty e i z ht hi hz ⟨xb, xoff, none⟩ ys.length xc news hxl hn (by omega) (by omega) (by omega)
        exact ⟨_, _, hr, hgr, (Ext.refl _ w).drew.alloc _⟩
      | some a =>
        have hr := run_append_grow (P := P) w t ty e i z ht hi hz a 0 0 [] (by simp) (by simp) ⟨xb, xoff, none⟩ ys.length xc news hxl hn (by omega) (by omega) (growslice_fits (by omega) (by simpa using hbytes))
        simp only [Nat.zero_add, Array.empty_append] at hr
        exact ⟨_, _, hr, hgr, (Ext.refl _ w).drew.alloc _⟩
    · have hobv : ob (.slice (some ⟨g, 0, none⟩) xs.length cap) = [g] := by simp only [ob]; rw [if_neg (by omega)]
      rw [hobv] at hx4 hxm ⊢
      have hel : es.length = xs.length * i.size := by have := h3.length; rw [D.sizes_eq hs0] at this; exact this
      have hglt := (Array.getElem?_eq_some_iff.1 hg).1
      by_cases hroom : xs.length + ys.length ≤ cap
      · have hfit : xs.length * i.size + news.length ≤ cur.size := by rw [hxl, hcs, ← Nat.add_mul]; exact Nat.mul_le_mul_right _ hroom
        have hr := run_append_room (P := P) w t ty e i ht hi g xs.length cap cur hg ⟨xb, xoff, none⟩ ys.length xc news hxl hn hx4.one' hroom hfit
        have hE : Ext [g] w (w.setRow g (cur.toList.take (xs.length * i.size) ++ news ++ cur.toList.drop (xs.length * i.size + news.length)).toArray) :=
          ⟨rfl, rfl, rfl, by simp, fun k _ hk => setRow_other w g k _ (fun h => hk (by simp [h]))⟩
        refine ⟨_, _, hr, ⟨hsizes, .inr ⟨g, cap, _, es ++ news, by rw [List.length_append], h0, hb, hgM, setRow_heap w g cur _ e _ hg, by rw [List.length_append]; exact hroom, hcm, ?_, ?_, ?_⟩⟩, hE⟩
        · simp only [List.size_toArray, List.length_append, List.length_take, List.length_drop, Array.length_toList]
          omega
        · rw [htk, List.length_append, Nat.add_mul, ← hel, ← hxl, ← List.length_append]
          exact List.take_left
        · exact (h3.ext hE (fun k hk _ => by simp at hk; simp [hk])).append (hx4.ext hE (fun k hk _ => by simp at hk; simp [hk]))
      · have holds : ∀ j u, es[j]? = some u → w.cell? ((⟨g, 0, none⟩ : Addr).add j) = some u := fun j u hu => by
          rw [addr_add]
          simp only [World.cell?, hg, Nat.zero_add]
          rw [← htk, List.getElem?_take] at hu
          split at hu
          · simpa using hu
          · cases hu
        have hr := run_append_grow (P := P) w t ty e i z ht hi hz ⟨g, 0, none⟩ xs.length cap es hel holds ⟨xb, xoff, none⟩ ys.length xc news hxl hn (by omega) (by omega) (growslice_fits (by omega) hbytes)
        exact ⟨_, _, hr, grown cap es (g :: M) h3 (fun k hk => by simp [hk]) hel (by omega) hx4', (Ext.refl _ w).drew.alloc _⟩

/-- The same as a law of the walk: of one operation, of a list of operations, of one step in a drawn region. -/
theorem wp_append {P : Program} {w : World} {o : Oper} {a : Act} {K : Act → World → Prop} {Q : Exit → Act → World → Prop} (s x : Operand) (t : TypeId)
    (ho : o.op = .call { callee := .builtin .append, args := #[s, x], argTypes := #[t, t] })
    (B : Nat) (M : List Nat) (e : TypeId) (sz bytes : Nat) (z : Value) (ht : P.underlying t = some (.slice e)) (hi : (P.info? e).map (fun i => (i.zero, i.size, i.bytes)) = some (some z, sz, bytes)) (hzs : z.cells.size = sz) (hsz : 0 < sz)
    (v y : Value) (xs ys : List D) (hs : a.eval s = v) (hy : a.eval x = y) (hown : Own B M w e sz v xs) (hx : Sl (ob v ++ M) w sz y ys)
    (hM : ∀ k ∈ M, k < w.heap.size) (hbytes : (xs.length + ys.length) * bytes ≤ 140737488355328) (h63 : xs.length + ys.length ≤ maxLen) (hbase : B ≤ w.heap.size)
    (h : ∀ a' n' c' w', Hid (n' = xs.length + ys.length) → Own B M w' e sz (.slice a' n' c') (xs ++ ys) → Ext (ob v) w w' → K (a.put o.dst (.slice a' n' c')) w') : o.wp P a w K Q := by
  obtain ⟨i, hi0, hz, hs0, hb0⟩ := info_parts hi
  obtain ⟨v', w', hr, h2, h3⟩ := hown.run_append (P := P) t o.type i z bytes ht hi0 hz hs0 hb0 hzs hsz hx hM hbytes h63 hbase
  unfold Oper.wp execOp
  simp only [ho, resolve, invoke, builtin, Sem.run_bind, Sem.run_pure, Result.andThen_ok, List.map_toArray, List.map_cons, List.map_nil, hs, hy, hr]
  obtain ⟨a', c', rfl, _⟩ := h2.shape
  exact h _ _ _ w' (by unfold Hid; simp) h2 h3
theorem wpList_append {P : Program} {w : World} {ops : Array Oper} {rest : List Oper} {o : Oper} {a : Act} {Q : Exit → Act → World → Prop} (hgd : o.guard = none) (s x : Operand) (t : TypeId)
    (ho : o.op = .call { callee := .builtin .append, args := #[s, x], argTypes := #[t, t] })
    (B : Nat) (M : List Nat) (e : TypeId) (sz bytes : Nat) (z : Value) (ht : P.underlying t = some (.slice e)) (hi : (P.info? e).map (fun i => (i.zero, i.size, i.bytes)) = some (some z, sz, bytes)) (hzs : z.cells.size = sz) (hsz : 0 < sz)
    (v y : Value) (xs ys : List D) (hs : a.eval s = v) (hy : a.eval x = y) (hown : Own B M w e sz v xs) (hx : Sl (ob v ++ M) w sz y ys)
    (hM : ∀ k ∈ M, k < w.heap.size) (hbytes : (xs.length + ys.length) * bytes ≤ 140737488355328) (h63 : xs.length + ys.length ≤ maxLen) (hbase : B ≤ w.heap.size)
    (h : ∀ a' n' c' w', Hid (n' = xs.length + ys.length) → Own B M w' e sz (.slice a' n' c') (xs ++ ys) → Ext (ob v) w w' → wpList P ops Q rest (a.put o.dst (.slice a' n' c')) w') : wpList P ops Q (o :: rest) a w :=
  wpList_plain hgd fun _ hK => wp_append s x t ho B M e sz bytes z ht hi hzs hsz v y xs ys hs hy hown hx hM hbytes h63 hbase fun a' n' c' w' g1 g2 g3 => hK _ _ (h a' n' c' w' g1 g2 g3)

/-! ### A block known whole: a struct behind a pointer -/
def Blk (w : World) (b : Nat) (cs : Array Value) (t : TypeId) : Prop := w.heap[b]? = some (.cells cs t (0, 0))
namespace Blk
variable {w w' : World} {b : Nat} {cs : Array Value} {t : TypeId}
theorem cell (h : Blk w b cs t) (i : Nat) : w.cell? ⟨b, i, none⟩ = cs[i]? := by
  unfold Blk at h
  simp [World.cell?, h]
theorem frozen (h : Blk w b cs t) (i : Nat) : w.frozen? ⟨b, i, none⟩ = false := by
  unfold Blk at h
  simp [World.frozen?, h]
theorem lt (h : Blk w b cs t) : b < w.heap.size := (Array.getElem?_eq_some_iff.1 h).1
theorem set (h : Blk w b cs t) (i : Nat) (v : Value) : Blk (w.setCell ⟨b, i, none⟩ v) b (cs.setIfInBounds i v) t := by
  unfold Blk at *
  simp [World.setCell, Array.getElem?_modify, h]
theorem ext {S : List Nat} (h : Blk w b cs t) (he : Ext S w w') (hb : b ∉ S) : Blk w' b cs t := (he.block b h.lt hb).trans h
theorem alloc (h : Blk w b cs t) (o : Obj) : Blk (w.alloc o) b cs t := h.ext ((Ext.refl [] w).alloc o) (by simp)
theorem drew (h : Blk w b cs t) : Blk w.drew b cs t := h
theorem setOther (h : Blk w b cs t) {p : Addr} (hp : p.block ≠ b) (v : Value) : Blk (w.setCell p v) b cs t := by
  unfold Blk at *
  rw [Below.heap_setCell _ _ _ _ (fun e => hp e.symm)]; exact h
theorem new (w : World) (cs : Array Value) (t : TypeId) : Blk (w.alloc (.cells cs t)) w.heap.size cs t := heap_alloc_new w _
end Blk
/-- A store into a block that may be written. -/
theorem Ext.store (w : World) (b i : Nat) (v : Value) : Ext [b] w (w.setCell ⟨b, i, none⟩ v) := (Ext.refl [b] w).setCell (Or.inr (by simp)) v
/-- One datum in a new block reads as a slice of one. -/
theorem Sl.one {M : List Nat} {w W : World} {e sz nb : Nat} {d : D} {cs : Array Value} (hd : d.Rep M w cs.toList) (hds : d.size = sz) (hM : ∀ k ∈ M, k < w.heap.size) (hE : Ext [] w W) (hb : Blk W nb cs e) (hn : w.heap.size ≤ nb) :
    Sl M W sz (.slice (some ⟨nb, 0, none⟩) 1 1) [d] := by
  simp only [Sl, D.Rep]
  refine ⟨_, 1, cs.toList, rfl, by simp, by simp [maxLen], by simpa using hds, D.Reps.one (hd.ext0 hE), fun _ => ⟨nb, 0, rfl, fun hx => by have := hM _ hx; omega, hb.lt, fun j hj => ?_⟩⟩
  rw [hb.cell]
  simp

/-- APPEND of one element, that lies in a new block nb of its own: w: the world of which things are known; W: the world as it stands. -/
theorem wp_append1 {P : Program} {w W : World} {o : Oper} {a : Act} {K : Act → World → Prop} {Q : Exit → Act → World → Prop} (s x : Operand) (t : TypeId)
    (ho : o.op = .call { callee := .builtin .append, args := #[s, x], argTypes := #[t, t] })
    (B : Nat) (M : List Nat) (e : TypeId) (sz bytes : Nat) (z : Value) (ht : P.underlying t = some (.slice e)) (hi : (P.info? e).map (fun i => (i.zero, i.size, i.bytes)) = some (some z, sz, bytes)) (hzs : z.cells.size = sz) (hsz : 0 < sz)
    (v : Value) (xs : List D) (d : D) (cs : Array Value) (nb : Nat) (hs : a.eval s = v) (hy : a.eval x = .slice (some ⟨nb, 0, none⟩) 1 1) (hE : Ext [] w W) (hb : Blk W nb cs e) (hnb : w.heap.size ≤ nb) (hown : Own B M w e sz v xs) (hd : d.Rep (ob v ++ M) w cs.toList) (hds : d.size = sz)
    (hM : ∀ k ∈ M, k < w.heap.size) (hbytes : (xs.length + 1) * bytes ≤ 140737488355328) (hb1 : 0 < bytes) (hbase : B ≤ w.heap.size)
    (h : ∀ a' n' c' w', Hid (n' = xs.length + 1) → Own B M w' e sz (.slice a' n' c') (xs ++ [d]) → Ext (ob v) w w' → K (a.put o.dst (.slice a' n' c')) w') : o.wp P a W K Q := by
  have hM' : ∀ k ∈ ob v ++ M, k < w.heap.size := by
    intro k hk
    rcases List.mem_append.1 hk with hk | hk
    · exact (hown.block k hk).2.1
    · exact hM k hk
  have h63 : xs.length + 1 ≤ maxLen := by
    have h1 : (xs.length + 1) * 1 ≤ (xs.length + 1) * bytes := Nat.mul_le_mul_left _ hb1
    have h2 : xs.length + 1 ≤ 140737488355328 := by omega
    exact Nat.le_trans h2 (by decide)
  refine wp_append s x t ho B M e sz bytes z ht hi hzs hsz v _ xs [d] hs hy (hown.ext0 hE) (Sl.one hd hds hM' hE hb hnb) (fun k hk => by have := hM k hk; have := hE.size; omega) (by simpa using hbytes) (by simpa using h63) (by have := hE.size; omega) fun a' n' c' w' hn h1 h2 => ?_
  refine h _ _ _ w' hn h1 ?_
  exact (hE.mono (T := ob v) (by simp)).trans h2 (fun k hk hl => hk)
theorem wpList_append1 {P : Program} {w W : World} {ops : Array Oper} {rest : List Oper} {o : Oper} {a : Act} {Q : Exit → Act → World → Prop} (hgd : o.guard = none) (s x : Operand) (t : TypeId)
    (ho : o.op = .call { callee := .builtin .append, args := #[s, x], argTypes := #[t, t] })
    (B : Nat) (M : List Nat) (e : TypeId) (sz bytes : Nat) (z : Value) (ht : P.underlying t = some (.slice e)) (hi : (P.info? e).map (fun i => (i.zero, i.size, i.bytes)) = some (some z, sz, bytes)) (hzs : z.cells.size = sz) (hsz : 0 < sz)
    (v : Value) (xs : List D) (d : D) (cs : Array Value) (nb : Nat) (hs : a.eval s = v) (hy : a.eval x = .slice (some ⟨nb, 0, none⟩) 1 1) (hE : Ext [] w W) (hb : Blk W nb cs e) (hnb : w.heap.size ≤ nb) (hown : Own B M w e sz v xs) (hd : d.Rep (ob v ++ M) w cs.toList) (hds : d.size = sz)
    (hM : ∀ k ∈ M, k < w.heap.size) (hbytes : (xs.length + 1) * bytes ≤ 140737488355328) (hb1 : 0 < bytes) (hbase : B ≤ w.heap.size)
    (h : ∀ a' n' c' w', Hid (n' = xs.length + 1) → Own B M w' e sz (.slice a' n' c') (xs ++ [d]) → Ext (ob v) w w' → wpList P ops Q rest (a.put o.dst (.slice a' n' c')) w') : wpList P ops Q (o :: rest) a W :=
  wpList_plain hgd fun _ hK => wp_append1 s x t ho B M e sz bytes z ht hi hzs hsz v xs d cs nb hs hy hE hb hnb hown hd hds hM hbytes hb1 hbase fun a' n' c' w' g1 g2 g3 => hK _ _ (h a' n' c' w' g1 g2 g3)
theorem step_append1 {P : Program} {w W : World} {ops : Array Oper} {o : Oper} {a : Act} {K : Act → World → Prop} {Q : Exit → Act → World → Prop} {E : Prop} (hgd : o.guard = none) (s x : Operand) (t : TypeId)
    (ho : o.op = .call { callee := .builtin .append, args := #[s, x], argTypes := #[t, t] })
    (B : Nat) (M : List Nat) (e : TypeId) (sz bytes : Nat) (z : Value) (ht : P.underlying t = some (.slice e)) (hi : (P.info? e).map (fun i => (i.zero, i.size, i.bytes)) = some (some z, sz, bytes)) (hzs : z.cells.size = sz) (hsz : 0 < sz)
    (v : Value) (xs : List D) (d : D) (cs : Array Value) (nb : Nat) (hs : a.eval s = v) (hy : a.eval x = .slice (some ⟨nb, 0, none⟩) 1 1) (hE : Ext [] w W) (hb : Blk W nb cs e) (hnb : w.heap.size ≤ nb) (hown : Own B M w e sz v xs) (hd : d.Rep (ob v ++ M) w cs.toList) (hds : d.size = sz)
    (hM : ∀ k ∈ M, k < w.heap.size) (hbytes : (xs.length + 1) * bytes ≤ 140737488355328) (hb1 : 0 < bytes) (hbase : B ≤ w.heap.size)
    (h : ∀ a' n' c' w', Hid (n' = xs.length + 1) → Own B M w' e sz (.slice a' n' c') (xs ++ [d]) → Ext (ob v) w w' → K (a.put o.dst (.slice a' n' c')) w') :
    if Region.wanted o (yielded ops a.tmps) = true then o.wp P a W K Q else E := by
  rw [if_pos (by simp [Region.wanted, hgd])]
  exact wp_append1 s x t ho B M e sz bytes z ht hi hzs hsz v xs d cs nb hs hy hE hb hnb hown hd hds hM hbytes hb1 hbase h
theorem newBlk (w : World) (cs : Array Value) (t : TypeId) (nb : Nat) (h : nb = w.heap.size) : Blk (w.alloc (.cells cs t)) nb cs t := by subst h; exact Blk.new w cs t
/-- A new block, and draws around it. -/
theorem Blk.new_drew (w : World) (cs : Array Value) (t : TypeId) : Blk (w.alloc (.cells cs t)).drew w.heap.size cs t := Blk.new w cs t
theorem Ext.new (w : World) (o : Obj) : Ext [] w (w.alloc o) := (Ext.refl _ w).alloc o
theorem Ext.new_drew (w : World) (o : Obj) : Ext [] w (w.alloc o).drew := ((Ext.refl _ w).alloc o).drew
theorem drewN_ext {S : List Nat} {a w : World} (h : Ext S a w) (n : Nat) : Ext S a (w.drewN n) := ⟨h.os, h.tape, h.output, h.size, h.block⟩

end Go.Proofs.Ytkfeccbahpmadaa.Old
