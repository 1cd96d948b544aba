/-
  Sim, the ground: data as trees (D), values of a frame (V), objects of the call's own (Ob), what of memory they say (Rep), and that it stays.
  No condition; nothing of a program is named here.
-/
import Derived.WalkKit
import Derived.ProofKit
import Derived.Laws.AppendOwnNone
import Derived.Deep.MidRow
import Derived.OrdersHeld
set_option linter.unusedVariables false
set_option linter.unusedSimpArgs false
namespace Go.Proofs.Ytpaeihifcmohkaa
open Go.RowKit

/-! ### What stays -/
/-- w' is w with new blocks, and with writes to blocks of S alone. -/
structure Ext (S : Nat → Prop) (w w' : World) : Prop where
  os : w'.os = w.os
  tape : w'.tape = w.tape
  output : w'.output = w.output
  size : w.heap.size ≤ w'.heap.size
  block : ∀ k, k < w.heap.size → ¬ S k → w'.heap[k]? = w.heap[k]?
def NoB : Nat → Prop := fun _ => False
namespace Ext
variable {S T : Nat → Prop} {a b c w w' : World}
theorem refl (S : Nat → Prop) (w : World) : Ext S w w := ⟨rfl, rfl, rfl, Nat.le_refl _, fun _ _ _ => rfl⟩
theorem trans (h : Ext S a b) (k : Ext T b c) (hT : ∀ x, T x → x < a.heap.size → S x) : Ext S a c :=
  ⟨k.os.trans h.os, k.tape.trans h.tape, k.output.trans h.output, Nat.le_trans h.size k.size,
    fun i hi hn => (k.block i (Nat.lt_of_lt_of_le hi h.size) (fun hx => hn (hT i hx hi))).trans (h.block i hi hn)⟩
theorem mono (h : Ext S a b) (hs : ∀ x, S x → T x) : Ext T a b := ⟨h.os, h.tape, h.output, h.size, fun i hi hn => h.block i hi (fun hx => hn (hs i hx))⟩
theorem drew (h : Ext S a w) : Ext S a w.drew := ⟨h.os, h.tape, h.output, h.size, h.block⟩
theorem undrew (h : Ext S a w.drew) : Ext S a w := ⟨h.os, h.tape, h.output, h.size, h.block⟩
theorem alloc (h : Ext S a w) (o : Obj) : Ext S a (w.alloc o) :=
  ⟨h.os, h.tape, h.output, by have := h.size; simp; omega, fun k hk hn => (Below.heap_alloc w o k (by have := h.size; omega)).trans (h.block k hk hn)⟩
theorem new (w : World) (o : Obj) : Ext S w (w.alloc o) := (Ext.refl S w).alloc o
theorem setRow (w : World) (g : Nat) (cs : Array Value) (hg : S g) : Ext S w (w.setRow g cs) :=
  ⟨rfl, rfl, rfl, by simp, fun k _ hk => setRow_other w g k _ (fun h => hk (by subst h; exact hg))⟩
theorem cell (h : Ext S w w') {p : Addr} (hp : p.block < w.heap.size) (hn : ¬ S p.block) : w'.cell? p = w.cell? p := World.cell?_of_block (w := w) (h.block p.block hp hn)
end Ext

/-! ### Data -/
inductive D where
  | raw (v : Value)
  | sl (t : Bool) (sz : Nat) (es : List D)
  | agg (fs : List D)

mutual
def D.size : D → Nat
  | .raw _ => 1
  | .sl _ _ _ => 1
  | .agg fs => D.sizes fs
def D.sizes : List D → Nat
  | [] => 0
  | d :: ds => d.size + D.sizes ds
end

/-- Bars: which blocks data of this kind (true: for a while only) may not lie in. -/
abbrev Bars := Bool → Nat → Prop

mutual
/-- Cells that are a datum, in a world. -/
def D.Rep (M : Bars) (w : World) : D → List Value → Prop
  | .raw v, cs => cs = [v] ∧ v.oneCell' = true
  | .agg fs, cs => D.Reps M w fs cs
  | .sl t sz es, cs => ∃ a cap us, cs = [.slice a es.length cap] ∧ es.length ≤ cap ∧ cap ≤ maxLen ∧ (∀ x ∈ es, x.size = sz) ∧ D.Reps M w es us ∧
      (es ≠ [] → ∃ b off, a = some ⟨b, off, none⟩ ∧ ¬ M t b ∧ b < w.heap.size ∧ ∀ j, j < us.length → w.cell? ⟨b, off + j, none⟩ = us[j]?)
def D.Reps (M : Bars) (w : World) : List D → List Value → Prop
  | [], cs => cs = []
  | d :: ds, cs => ∃ c r, cs = c ++ r ∧ D.Rep M w d c ∧ D.Reps M w ds r
end

mutual
theorem D.Rep.length {M : Bars} {w : World} : ∀ {d : D} {cs : List Value}, d.Rep M w cs → cs.length = d.size
  | .raw _, _, h => by simp only [D.Rep] at h; rw [h.1]; rfl
  | .agg fs, _, h => by simp only [D.Rep] at h; exact D.Reps.length h
  | .sl _ _ _, _, h => by simp only [D.Rep] at h; obtain ⟨a, cap, us, rfl, _⟩ := h; rfl
theorem D.Reps.length {M : Bars} {w : World} : ∀ {ds : List D} {cs : List Value}, D.Reps M w ds cs → cs.length = D.sizes ds
  | [], _, h => by simp only [D.Reps] at h; subst h; rfl
  | d :: ds, _, h => by
    simp only [D.Reps] at h
    obtain ⟨c, r, rfl, h1, h2⟩ := h
    simp only [List.length_append, D.sizes]
    rw [D.Rep.length h1, D.Reps.length h2]
end
theorem D.sizes_eq {sz : Nat} : ∀ {xs : List D}, (∀ x ∈ xs, x.size = sz) → D.sizes xs = xs.length * sz
  | [], _ => by simp [D.sizes]
  | x :: xs, h => by
    simp only [D.sizes, List.length_cons]
    rw [D.sizes_eq (xs := xs) (fun y hy => h y (by simp [hy])), h x (by simp), Nat.add_mul]
    omega

mutual
theorem D.Rep.one {M : Bars} {w : World} : ∀ {d : D} {cs : List Value}, d.Rep M w cs → ∀ u ∈ cs, u.oneCell' = true
  | .raw _, _, h => by simp only [D.Rep] at h; obtain ⟨rfl, h⟩ := h; simpa using h
  | .agg fs, _, h => by simp only [D.Rep] at h; exact D.Reps.one h
  | .sl _ _ _, _, h => by simp only [D.Rep] at h; obtain ⟨a, cap, us, rfl, _⟩ := h; simp [Value.oneCell']
theorem D.Reps.one {M : Bars} {w : World} : ∀ {ds : List D} {cs : List Value}, D.Reps M w ds cs → ∀ u ∈ cs, u.oneCell' = true
  | [], _, h => by simp only [D.Reps] at h; subst h; simp
  | d :: ds, _, h => by
    simp only [D.Reps] at h
    obtain ⟨c, r, rfl, h1, h2⟩ := h
    intro u hu
    rcases List.mem_append.1 hu with hu | hu
    · exact D.Rep.one h1 u hu
    · exact D.Reps.one h2 u hu
end

/-- What data need, to stay data. -/
def Carry (M M' : Bars) (w w' : World) : Prop := (∀ t k, k < w.heap.size → ¬ M t k → w'.heap[k]? = w.heap[k]? ∧ ¬ M' t k) ∧ w.heap.size ≤ w'.heap.size
theorem Carry.refl (M : Bars) (w : World) : Carry M M w w := ⟨fun _ _ _ h => ⟨rfl, h⟩, Nat.le_refl _⟩
mutual
theorem D.Rep.carry {M M' : Bars} {w w' : World} (hb : Carry M M' w w') : ∀ {d : D} {cs : List Value}, d.Rep M w cs → d.Rep M' w' cs
  | .raw _, _, h => by simp only [D.Rep] at h ⊢; exact h
  | .agg fs, _, h => by simp only [D.Rep] at h ⊢; exact D.Reps.carry hb h
  | .sl t _ es, _, h => by
    simp only [D.Rep] at h ⊢
    obtain ⟨a, cap, us, rfl, h1, h2, h3, h4, h5⟩ := h
    refine ⟨a, cap, us, rfl, h1, h2, h3, D.Reps.carry hb h4, fun hne => ?_⟩
    obtain ⟨b, off, ha, hm, hlt, hc⟩ := h5 hne
    exact ⟨b, off, ha, (hb.1 t b hlt hm).2, Nat.lt_of_lt_of_le hlt hb.2, fun j hj => (World.cell?_of_block (w := w) (w' := w') (a := ⟨b, off + j, none⟩) (hb.1 t b hlt hm).1).trans (hc j hj)⟩
theorem D.Reps.carry {M M' : Bars} {w w' : World} (hb : Carry M M' w w') : ∀ {ds : List D} {cs : List Value}, D.Reps M w ds cs → D.Reps M' w' ds cs
  | [], _, h => by simp only [D.Reps] at h ⊢; exact h
  | d :: ds, _, h => by
    simp only [D.Reps] at h ⊢
    obtain ⟨c, r, rfl, h1, h2⟩ := h
    exact ⟨c, r, rfl, D.Rep.carry hb h1, D.Reps.carry hb h2⟩
end

theorem D.Reps.append {M : Bars} {w : World} : ∀ {xs ys : List D} {cs es : List Value}, D.Reps M w xs cs → D.Reps M w ys es → D.Reps M w (xs ++ ys) (cs ++ es)
  | [], _, _, _, h, k => by simp only [D.Reps] at h; subst h; simpa using k
  | d :: ds, _, _, _, h, k => by
    simp only [D.Reps, List.cons_append] at h ⊢
    obtain ⟨c, r, rfl, h1, h2⟩ := h
    exact ⟨c, r ++ _, by simp, h1, h2.append k⟩
theorem D.Reps.split {M : Bars} {w : World} : ∀ {xs ys : List D} {cs : List Value}, D.Reps M w (xs ++ ys) cs → D.Reps M w xs (cs.take (D.sizes xs)) ∧ D.Reps M w ys (cs.drop (D.sizes xs))
  | [], _, _, h => by simp [D.Reps, D.sizes]; simpa using h
  | d :: ds, ys, cs, h => by
    simp only [D.Reps, List.cons_append] at h
    obtain ⟨c, r, rfl, h1, h2⟩ := h
    obtain ⟨k1, k2⟩ := D.Reps.split h2
    have hc := h1.length
    simp only [D.Reps, D.sizes]
    refine ⟨⟨c, r.take (D.sizes ds), ?_, h1, k1⟩, ?_⟩
    · rw [List.take_append, List.take_of_length_le (by omega)]; congr 2; omega
    · have e : (c ++ r).drop (d.size + D.sizes ds) = r.drop (D.sizes ds) := by
        rw [List.drop_append, List.drop_of_length_le (by omega)]; simp; congr 1; omega
      rw [e]; exact k2
theorem D.Reps.single {M : Bars} {w : World} {d : D} {cs : List Value} : D.Reps M w [d] cs ↔ d.Rep M w cs := by
  simp only [D.Reps]
  constructor
  · rintro ⟨c, r, rfl, h, rfl⟩; simpa using h
  · intro h; exact ⟨cs, [], by simp, h, rfl⟩
/-- The i-th of data that lie one behind the other. -/
theorem D.Reps.get {M : Bars} {w : World} {sz : Nat} {xs : List D} {us : List Value} (h : D.Reps M w xs us) (hs : ∀ x ∈ xs, x.size = sz) {i : Nat} {x : D} (hi : xs[i]? = some x) :
    x.Rep M w ((us.drop (i * sz)).take sz) := by
  obtain ⟨hl, rfl⟩ := List.getElem?_eq_some_iff.1 hi
  have e : xs = xs.take i ++ ([xs[i]] ++ xs.drop (i + 1)) := by simp
  rw [e] at h
  have hz : D.sizes (xs.take i) = i * sz := by
    rw [D.sizes_eq (sz := sz) (fun y hy => hs y (List.mem_of_mem_take hy)), List.length_take, Nat.min_eq_left (by omega)]
  have hz1 : D.sizes [xs[i]] = sz := by simp [D.sizes, hs xs[i] (List.getElem_mem hl)]
  have h2 := (D.Reps.split (D.Reps.split h).2).1
  rw [hz, hz1] at h2
  exact D.Reps.single.1 h2
/-- One is put in the place of another. -/
theorem D.Reps.set {M : Bars} {w : World} {sz : Nat} {xs : List D} {us : List Value} (h : D.Reps M w xs us) (hs : ∀ x ∈ xs, x.size = sz) {i : Nat} (hi : i < xs.length) {x : D} {c : List Value} (hx : x.Rep M w c) :
    D.Reps M w (xs.set i x) (us.take (i * sz) ++ c ++ us.drop (i * sz + sz)) := by
  have e : xs = xs.take i ++ ([xs[i]] ++ xs.drop (i + 1)) := by simp
  have hz : D.sizes (xs.take i) = i * sz := by
    rw [D.sizes_eq (sz := sz) (fun y hy => hs y (List.mem_of_mem_take hy)), List.length_take, Nat.min_eq_left (by omega)]
  have hz1 : D.sizes [xs[i]] = sz := by simp [D.sizes, hs xs[i] (List.getElem_mem hi)]
  have h' := h
  rw [e] at h'
  have h1 := (D.Reps.split h').1
  have h2 := (D.Reps.split (D.Reps.split h').2).2
  rw [hz] at h1 h2
  rw [hz1, List.drop_drop] at h2
  rw [List.set_eq_take_append_cons_drop, if_pos hi]
  have := (h1.append (D.Reps.single.2 hx)).append h2
  simpa using this
/-- One cell of data that are a cell each, as far as that one. -/
def D.at : List D → Nat → Option D
  | [], _ => none
  | .agg _ :: _, _ => none
  | d :: _, 0 => some d
  | _ :: ds, i + 1 => D.at ds i
theorem D.Reps.at {M : Bars} {w : World} : ∀ {ds : List D} {us : List Value} {i : Nat} {d : D}, D.Reps M w ds us → D.at ds i = some d → ∃ u, us[i]? = some u ∧ d.Rep M w [u]
  | [], _, _, _, _, h => by simp [D.at] at h
  | .agg _ :: _, _, i, _, _, h => by cases i <;> simp [D.at] at h
  | .raw v :: ds, us, i, d, h, k => by
    simp only [D.Reps] at h
    obtain ⟨c, r, rfl, h1, h2⟩ := h
    have h1' := h1
    simp only [D.Rep] at h1
    obtain ⟨rfl, _⟩ := h1
    match i with
    | 0 => simp only [D.at, Option.some.injEq] at k; subst k; exact ⟨v, by simp, h1'⟩
    | i + 1 =>
      simp only [D.at] at k
      obtain ⟨u, g1, g2⟩ := D.Reps.at h2 k
      exact ⟨u, by simpa using g1, g2⟩
  | .sl t sz es :: ds, us, i, d, h, k => by
    simp only [D.Reps] at h
    obtain ⟨c, r, rfl, h1, h2⟩ := h
    have h1' := h1
    have hl := h1.length
    simp only [D.size] at hl
    match c, hl with
    | [v], _ =>
      match i with
      | 0 => simp only [D.at, Option.some.injEq] at k; subst k; exact ⟨v, by simp, h1'⟩
      | i + 1 =>
        simp only [D.at] at k
        obtain ⟨u, g1, g2⟩ := D.Reps.at h2 k
        exact ⟨u, by simpa using g1, g2⟩

mutual
/-- As something that is handed on for a while. -/
def D.view : D → D
  | .raw v => .raw v
  | .sl _ sz es => .sl true sz (D.views es)
  | .agg fs => .agg (D.views fs)
def D.views : List D → List D
  | [] => []
  | d :: ds => d.view :: D.views ds
end
theorem D.views_map : ∀ (ds : List D), D.views ds = ds.map D.view
  | [] => rfl
  | d :: ds => by simp [D.views, D.views_map ds]
mutual
theorem D.view_size : ∀ (d : D), d.view.size = d.size
  | .raw _ => rfl
  | .sl _ _ _ => rfl
  | .agg fs => by simp only [D.view, D.size]; exact D.views_sizes fs
theorem D.views_sizes : ∀ (ds : List D), D.sizes (D.views ds) = D.sizes ds
  | [] => rfl
  | d :: ds => by simp only [D.views, D.sizes, D.view_size d, D.views_sizes ds]
end
mutual
theorem D.Rep.view {M : Bars} {w : World} (hM : ∀ k, M true k → M false k) : ∀ {d : D} {cs : List Value}, d.Rep M w cs → d.view.Rep M w cs
  | .raw _, _, h => by simp only [D.view]; exact h
  | .agg fs, _, h => by simp only [D.view, D.Rep] at h ⊢; exact D.Reps.view hM h
  | .sl t sz es, _, h => by
    simp only [D.view, D.Rep] at h ⊢
    obtain ⟨a, cap, us, rfl, h1, h2, h3, h4, h5⟩ := h
    have hl : (D.views es).length = es.length := by simp [D.views_map]
    rw [hl]
    refine ⟨a, cap, us, rfl, h1, h2, ?_, D.Reps.view hM h4, fun hne => ?_⟩
    · intro x hx
      rw [D.views_map] at hx
      obtain ⟨y, hy, rfl⟩ := List.mem_map.1 hx
      rw [D.view_size]; exact h3 y hy
    · obtain ⟨b, off, ha, hm, hlt, hc⟩ := h5 (by rintro rfl; exact hne rfl)
      refine ⟨b, off, ha, fun hx => hm ?_, hlt, hc⟩
      cases t
      · exact hM b hx
      · exact hx
theorem D.Reps.view {M : Bars} {w : World} (hM : ∀ k, M true k → M false k) : ∀ {ds : List D} {cs : List Value}, D.Reps M w ds cs → D.Reps M w (D.views ds) cs
  | [], _, h => by simp only [D.views]; exact h
  | d :: ds, _, h => by
    simp only [D.views, D.Reps] at h ⊢
    obtain ⟨c, r, rfl, h1, h2⟩ := h
    exact ⟨c, r, rfl, D.Rep.view hM h1, D.Reps.view hM h2⟩
end

/-- As a value of a slot. -/
def D.RepV (M : Bars) (w : World) : D → Value → Prop
  | .agg fs, u => ∃ us : List Value, u = .agg us.toArray ∧ D.Reps M w fs us
  | x, u => D.Rep M w x [u]
theorem D.RepV.carry {M M' : Bars} {w w' : World} (hb : Carry M M' w w') {d : D} {u : Value} (h : d.RepV M w u) : d.RepV M' w' u := by
  cases d with
  | agg fs => obtain ⟨us, rfl, h⟩ := h; exact ⟨us, rfl, h.carry hb⟩
  | raw v => exact D.Rep.carry hb h
  | sl t sz es => exact D.Rep.carry hb h
theorem D.RepV.cells {M : Bars} {w : World} {d : D} {u : Value} (h : d.RepV M w u) : d.Rep M w u.cells.toList := by
  cases d with
  | agg fs => obtain ⟨us, rfl, h⟩ := h; simpa [Value.cells, D.Rep] using h
  | raw v =>
    have h' := h
    simp only [D.RepV, D.Rep, List.cons.injEq, and_true] at h'
    obtain ⟨rfl, h1⟩ := h'
    have : u.cells = #[u] := by cases u <;> simp_all [Value.cells, Value.oneCell']
    rw [this]; exact h
  | sl t sz es =>
    have h' := h
    simp only [D.RepV, D.Rep] at h'
    obtain ⟨a, cap, us, h1, _⟩ := h'
    simp only [List.cons.injEq, and_true] at h1
    subst h1
    exact h
end Go.Proofs.Ytpaeihifcmohkaa
