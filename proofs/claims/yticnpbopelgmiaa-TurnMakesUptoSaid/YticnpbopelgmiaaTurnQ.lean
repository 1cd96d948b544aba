/-
  Turn, plain: which kids templates use, and where; what holds on the way.
-/
import Derived.Test.YticnpbopelgmiaaQFactorP
set_option linter.unusedVariables false
set_option linter.unusedSimpArgs false
set_option linter.unusedSectionVars false
namespace Go.Proofs.Yticnpbopelgmiaa
open Go.RowKit

/-! ### The kids of a template, one behind the other -/
mutual
def kdF : Frag → List Int
  | .mk o n l => if o = 1 then kdL l else if o = 2 then [n] else if o = 4 then n :: kdL l else []
def kdL : List Frag → List Int
  | [] => []
  | x :: r => kdF x ++ kdL r
end
mutual
/-- Well formed. -/
def wfF (m : Int) : Frag → Prop
  | .mk o n l => (o = 1 ∧ 0 ≤ n ∧ n < m ∧ wfL m l) ∨ (o = 2 ∧ l = []) ∨ (o = 3 ∧ n = 0 ∧ l = []) ∨ (o = 4 ∧ wfL m l)
def wfL (m : Int) : List Frag → Prop
  | [] => True
  | x :: r => wfF m x ∧ wfL m r
end
mutual
/-- No filling of the first kid. -/
def nzF : Frag → Prop
  | .mk o n l => ¬ (o = 4 ∧ n = 0) ∧ nzL l
def nzL : List Frag → Prop
  | [] => True
  | x :: r => nzF x ∧ nzL r
end
theorem kdL_append : ∀ a b : List Frag, kdL (a ++ b) = kdL a ++ kdL b
  | [], b => rfl
  | x :: a, b => by rw [List.cons_append, kdL, kdL, kdL_append a b, List.append_assoc]
theorem wfL_append {m : Int} : ∀ {a b : List Frag}, wfL m (a ++ b) ↔ wfL m a ∧ wfL m b
  | [], b => by simp [wfL]
  | x :: a, b => by rw [List.cons_append, wfL, wfL, wfL_append, and_assoc]
theorem nzL_append : ∀ {a b : List Frag}, nzL (a ++ b) ↔ nzL a ∧ nzL b
  | [], b => by simp [nzL]
  | x :: a, b => by rw [List.cons_append, nzL, nzL, nzL_append, and_assoc]
theorem kdL_holes (k : Nat) : kdL (holes k) = (List.range k).map fun (i : Nat) => (i : Int) := by
  unfold holes
  have : ∀ l : List Nat, kdL (l.map fun (i : Nat) => Frag.mk 2 (i : Int) []) = l.map fun (i : Nat) => (i : Int) := by
    intro l
    induction l with
    | nil => rfl
    | cons i l ih => rw [List.map_cons, kdL, ih, kdF]; rfl
  exact this _
theorem wfL_holes (m : Int) (k : Nat) : wfL m (holes k) := by
  unfold holes
  have : ∀ l : List Nat, wfL m (l.map fun (i : Nat) => Frag.mk 2 (i : Int) []) := by
    intro l
    induction l with
    | nil => trivial
    | cons i l ih => exact ⟨.inr (.inl ⟨rfl, rfl⟩), ih⟩
  exact this _
theorem nzL_holes (k : Nat) : nzL (holes k) := by
  unfold holes
  have : ∀ l : List Nat, nzL (l.map fun (i : Nat) => Frag.mk 2 (i : Int) []) := by
    intro l
    induction l with
    | nil => trivial
    | cons i l ih => exact ⟨⟨fun h => absurd h.1 (by decide), trivial⟩, ih⟩
  exact this _
/-- What comes of a kid's number. -/
def putN (b : Int) (inn : List Int) (n : Int) : List Int := if n = 0 then inn else [mvN 2 n 0 b]
theorem mvN_is {o n b : Int} (ho : o = 2 ∨ o = 4) : mvN o n 0 b = if 0 < n then n + b else n := by
  unfold mvN
  by_cases h : 0 < n
  · rw [if_pos ⟨ho, h⟩, if_pos h]
  · rw [if_neg (fun q => h q.2), if_neg h]
theorem kd_two (n : Int) (l : List Frag) : kdF (.mk 2 n l) = [n] := by rw [kdF, if_neg (by decide), if_pos rfl]
mutual
theorem kd_put {m b : Int} {inn : List Frag} : ∀ x : Frag, wfF m x → nzF x → kdL (ptF 0 inn b x) = (kdF x).flatMap (putN b (kdL inn))
  | .mk o n l, h, hz => by
    rw [wfF] at h
    rw [nzF] at hz
    rw [ptF]
    rcases h with ⟨rfl, _, _, hl⟩ | ⟨rfl, rfl⟩ | ⟨rfl, _, rfl⟩ | ⟨rfl, hl⟩
    · rw [if_neg (fun q => absurd q.1 (by decide)), if_neg (fun q => absurd q.1 (by decide)), kdL, kdF, if_pos rfl, kdL, List.append_nil, kd_puts l hl hz.2, kdF, if_pos rfl]
    · rw [kd_two, List.flatMap_cons, List.flatMap_nil, List.append_nil]
      unfold putN
      by_cases h0 : n = 0
      · rw [if_pos ⟨rfl, h0⟩, if_pos h0]
      · rw [if_neg (fun q => h0 q.2), if_neg (fun q => absurd q.1 (by decide)), if_neg h0, kdL, kdF, if_neg (by decide), if_pos rfl]
        rfl
    · rw [if_neg (fun q => absurd q.1 (by decide)), if_neg (fun q => absurd q.1 (by decide)), kdL, kdF, kdF, if_neg (by decide), if_neg (by decide), if_neg (by decide)]
      rfl
    · have h0 : ¬ n = 0 := fun q => hz.1 ⟨rfl, q⟩
      rw [if_neg (fun q => absurd q.1 (by decide)), if_neg (fun q => h0 q.2), kdL, kdF, if_neg (by decide), if_neg (by decide), if_pos rfl, kdL, List.append_nil, kd_puts l hl hz.2, kdF, if_neg (by decide), if_neg (by decide), if_pos rfl, List.flatMap_cons]
      unfold putN
      rw [if_neg h0, mvN_is (.inr rfl), mvN_is (.inl rfl)]
      rfl
theorem kd_puts {m b : Int} {inn : List Frag} : ∀ l : List Frag, wfL m l → nzL l → kdL (ptL 0 inn b l) = (kdL l).flatMap (putN b (kdL inn))
  | [], _, _ => rfl
  | x :: r, h, hz => by
    rw [ptL, kdL_append, kd_put x h.1 hz.1, kd_puts r h.2 hz.2, kdL, List.flatMap_append]
end
mutual
theorem wf_put {m b : Int} {inn : List Frag} (hi : wfL m inn) : ∀ x : Frag, wfF m x → nzF x → wfL m (ptF 0 inn b x)
  | .mk o n l, h, hz => by
    rw [wfF] at h
    rw [nzF] at hz
    rw [ptF]
    rcases h with ⟨rfl, h1, h2, hl⟩ | ⟨rfl, rfl⟩ | ⟨rfl, h1, rfl⟩ | ⟨rfl, hl⟩
    · rw [if_neg (fun q => absurd q.1 (by decide)), if_neg (fun q => absurd q.1 (by decide))]
      refine ⟨.inl ⟨rfl, ?_, ?_, wf_puts hi l hl hz.2⟩, trivial⟩
      · unfold mvN; rw [if_neg (fun q => by rcases q.1 with q | q <;> exact absurd q (by decide))]; exact h1
      · unfold mvN; rw [if_neg (fun q => by rcases q.1 with q | q <;> exact absurd q (by decide))]; exact h2
    · by_cases h0 : n = 0
      · rw [if_pos ⟨rfl, h0⟩]; exact hi
      · rw [if_neg (fun q => h0 q.2), if_neg (fun q => absurd q.1 (by decide))]
        exact ⟨.inr (.inl ⟨rfl, rfl⟩), trivial⟩
    · rw [if_neg (fun q => absurd q.1 (by decide)), if_neg (fun q => absurd q.1 (by decide))]
      refine ⟨.inr (.inr (.inl ⟨rfl, ?_, rfl⟩)), trivial⟩
      unfold mvN; rw [if_neg (fun q => by rcases q.1 with q | q <;> exact absurd q (by decide))]; exact h1
    · have h0 : ¬ n = 0 := fun q => hz.1 ⟨rfl, q⟩
      rw [if_neg (fun q => absurd q.1 (by decide)), if_neg (fun q => h0 q.2)]
      exact ⟨.inr (.inr (.inr ⟨rfl, wf_puts hi l hl hz.2⟩)), trivial⟩
theorem wf_puts {m b : Int} {inn : List Frag} (hi : wfL m inn) : ∀ l : List Frag, wfL m l → nzL l → wfL m (ptL 0 inn b l)
  | [], _, _ => trivial
  | x :: r, h, hz => by
    rw [ptL, wfL_append]
    exact ⟨wf_put hi x h.1 hz.1, wf_puts hi r h.2 hz.2⟩
end
mutual
/-- The fillings' numbers stay above nothing. -/
theorem nz_put {m b : Int} {inn : List Frag} (hi : nzL inn) (hb : 0 ≤ b) : ∀ x : Frag, wfF m x → nzF x → (∀ n ∈ kdF x, 0 ≤ n) → nzL (ptF 0 inn b x)
  | .mk o n l, h, hz, hk => by
    rw [wfF] at h
    rw [nzF] at hz
    rw [ptF]
    rcases h with ⟨rfl, h1, h2, hl⟩ | ⟨rfl, rfl⟩ | ⟨rfl, h1, rfl⟩ | ⟨rfl, hl⟩
    · rw [if_neg (fun q => absurd q.1 (by decide)), if_neg (fun q => absurd q.1 (by decide))]
      rw [kdF, if_pos rfl] at hk
      exact ⟨⟨fun q => absurd q.1 (by decide), nz_puts hi hb l hl hz.2 hk⟩, trivial⟩
    · by_cases h0 : n = 0
      · rw [if_pos ⟨rfl, h0⟩]; exact hi
      · rw [if_neg (fun q => h0 q.2), if_neg (fun q => absurd q.1 (by decide))]
        exact ⟨⟨fun q => absurd q.1 (by decide), trivial⟩, trivial⟩
    · rw [if_neg (fun q => absurd q.1 (by decide)), if_neg (fun q => absurd q.1 (by decide))]
      exact ⟨⟨fun q => absurd q.1 (by decide), trivial⟩, trivial⟩
    · have h0 : ¬ n = 0 := fun q => hz.1 ⟨rfl, q⟩
      rw [kdF, if_neg (by decide), if_neg (by decide), if_pos rfl] at hk
      have hn := hk n (by simp)
      rw [if_neg (fun q => absurd q.1 (by decide)), if_neg (fun q => h0 q.2)]
      refine ⟨⟨fun q => ?_, nz_puts hi hb l hl hz.2 fun x hx => hk x (by simp [hx])⟩, trivial⟩
      have := q.2
      rw [mvN_is (.inr rfl), if_pos (by omega)] at this
      omega
theorem nz_puts {m b : Int} {inn : List Frag} (hi : nzL inn) (hb : 0 ≤ b) : ∀ l : List Frag, wfL m l → nzL l → (∀ n ∈ kdL l, 0 ≤ n) → nzL (ptL 0 inn b l)
  | [], _, _, _ => trivial
  | x :: r, h, hz, hk => by
    rw [ptL, nzL_append]
    rw [kdL] at hk
    exact ⟨nz_put hi hb x h.1 hz.1 fun n hn => hk n (by simp [hn]), nz_puts hi hb r h.2 hz.2 fun n hn => hk n (by simp [hn])⟩
end
mutual
theorem sz_put {m b : Int} {inn : List Frag} : ∀ x : Frag, wfF m x → nzF x → fszs (ptF 0 inn b x) ≤ fsz x + (kdF x).count 0 * fszs inn
  | .mk o n l, h, hz => by
    rw [wfF] at h
    rw [nzF] at hz
    rw [ptF]
    rcases h with ⟨rfl, h1, h2, hl⟩ | ⟨rfl, rfl⟩ | ⟨rfl, h1, rfl⟩ | ⟨rfl, hl⟩
    · rw [if_neg (fun q => absurd q.1 (by decide)), if_neg (fun q => absurd q.1 (by decide)), kdF, if_pos rfl]
      have := sz_puts (m := m) (b := b) (inn := inn) l hl hz.2
      simp only [fszs, fsz]; omega
    · rw [kd_two]
      by_cases h0 : n = 0
      · rw [if_pos ⟨rfl, h0⟩, h0]; simp
      · rw [if_neg (fun q => h0 q.2), if_neg (fun q => absurd q.1 (by decide))]
        simp [fszs, fsz, ptL]
    · rw [if_neg (fun q => absurd q.1 (by decide)), if_neg (fun q => absurd q.1 (by decide))]
      simp [fszs, fsz, ptL]
    · have h0 : ¬ n = 0 := fun q => hz.1 ⟨rfl, q⟩
      rw [if_neg (fun q => absurd q.1 (by decide)), if_neg (fun q => h0 q.2), kdF, if_neg (by decide), if_neg (by decide), if_pos rfl, List.count_cons_of_ne h0]
      have := sz_puts (m := m) (b := b) (inn := inn) l hl hz.2
      simp only [fszs, fsz]; omega
theorem sz_puts {m b : Int} {inn : List Frag} : ∀ l : List Frag, wfL m l → nzL l → fszs (ptL 0 inn b l) ≤ fszs l + (kdL l).count 0 * fszs inn
  | [], _, _ => by simp [ptL, fszs]
  | x :: r, h, hz => by
    have h1 := sz_put (b := b) (inn := inn) x h.1 hz.1
    have h2 := sz_puts (b := b) (inn := inn) r h.2 hz.2
    rw [ptL, fszs_append, kdL, List.count_append, Nat.add_mul, fszs]; omega
end
theorem count_len (l : List Int) : l.count 0 ≤ l.length := List.count_le_length
mutual
theorem kdF_len : ∀ x : Frag, (kdF x).length ≤ fsz x
  | .mk o n l => by
    have := kdL_len l
    rw [kdF, fsz]
    split
    · omega
    · split
      · rw [List.length_singleton]; omega
      · split
        · simp only [List.length_cons]; omega
        · simp
theorem kdL_len : ∀ l : List Frag, (kdL l).length ≤ fszs l
  | [] => Nat.le_refl _
  | x :: r => by
    have h1 := kdF_len x
    have h2 := kdL_len r
    rw [kdL, List.length_append, fszs]; omega
end
/-- All that comes in between is small. -/
theorem ptL_small {m b : Int} {inn : List Frag} : ∀ l : List Frag, wfL m l → nzL l → fszs l + fszs l * fszs inn ≤ 100000000 → PtL 0 inn b l := by
  have key : ∀ (N : Nat) (l : List Frag), fszs l < N → wfL m l → nzL l → fszs l + fszs l * fszs inn ≤ 100000000 → PtL 0 inn b l := by
    intro N
    induction N with
    | zero => intro l h; omega
    | succ N ih =>
      intro l hN h hz hs
      cases l with
      | nil => trivial
      | cons x r =>
        have hx := fsz_pos x
        rw [fszs] at hN
        have hsx : fszs x.l + fszs x.l * fszs inn ≤ 100000000 := by
          have h1 : fszs x.l ≤ fszs (x :: r) := by rw [fszs, fsz_eq]; omega
          have h2 : fszs x.l * fszs inn ≤ fszs (x :: r) * fszs inn := Nat.mul_le_mul_right _ h1
          omega
        have hsr : fszs r + fszs r * fszs inn ≤ 100000000 := by
          have h1 : fszs r ≤ fszs (x :: r) := by rw [fszs]; omega
          have h2 : fszs r * fszs inn ≤ fszs (x :: r) * fszs inn := Nat.mul_le_mul_right _ h1
          omega
        rw [PtL]
        refine ⟨?_, ih r (by omega) h.2 hz.2 hsr, ?_⟩
        · cases x with
          | mk o n l =>
            have hz1 := hz.1
            have hw := h.1
            rw [nzF] at hz1
            rw [wfF] at hw
            rw [PtF]
            refine ⟨?_, fun q => absurd q hz1.1⟩
            rcases hw with ⟨_, _, _, hl⟩ | ⟨_, rfl⟩ | ⟨_, _, rfl⟩ | ⟨_, hl⟩
            · exact ih l (by rw [fsz] at hN; omega) hl hz1.2 hsx
            · trivial
            · trivial
            · exact ih l (by rw [fsz] at hN; omega) hl hz1.2 hsx
        · have h1 := sz_puts (m := m) (b := b) (inn := inn) (x :: r) h hz
          have h2 := Nat.mul_le_mul_right (fszs inn) (Nat.le_trans (count_len (kdL (x :: r))) (kdL_len (x :: r)))
          omega
  exact fun l => key _ l (Nat.lt_succ_self _)
mutual
theorem nb_of {m B : Int} (hB : 0 ≤ B) (hm : m ≤ B) : ∀ x : Frag, wfF m x → (∀ n ∈ kdF x, -B ≤ n ∧ n ≤ B) → NbF B x
  | .mk o n l, h, hk => by
    rw [wfF] at h
    rcases h with ⟨rfl, h1, h2, hl⟩ | ⟨rfl, rfl⟩ | ⟨rfl, h1, rfl⟩ | ⟨rfl, hl⟩
    · rw [kdF, if_pos rfl] at hk
      exact ⟨by omega, nbs_of hB hm l hl hk⟩
    · rw [kdF, if_neg (by decide), if_pos rfl] at hk
      exact ⟨hk n (by simp), trivial⟩
    · exact ⟨by omega, trivial⟩
    · rw [kdF, if_neg (by decide), if_neg (by decide), if_pos rfl] at hk
      exact ⟨hk n (by simp), nbs_of hB hm l hl fun x hx => hk x (by simp [hx])⟩
theorem nbs_of {m B : Int} (hB : 0 ≤ B) (hm : m ≤ B) : ∀ l : List Frag, wfL m l → (∀ n ∈ kdL l, -B ≤ n ∧ n ≤ B) → NbL B l
  | [], _, _ => trivial
  | x :: r, h, hk => by
    rw [kdL] at hk
    exact ⟨nb_of hB hm x h.1 fun n hn => hk n (by simp [hn]), nbs_of hB hm r h.2 fun n hn => hk n (by simp [hn])⟩
end
/-! ### Each kid once -/
def upTo (k : Nat) : List Int := (List.range k).map fun (i : Nat) => (i : Int)
theorem upTo_mem {k : Nat} {n : Int} : n ∈ upTo k ↔ 0 ≤ n ∧ n < k := by
  unfold upTo
  simp only [List.mem_map, List.mem_range]
  constructor
  · rintro ⟨i, hi, rfl⟩; omega
  · rintro ⟨h1, h2⟩; exact ⟨n.toNat, by omega, by omega⟩
theorem upTo_succ (k : Nat) : upTo (k + 1) = 0 :: (upTo k).map (· + 1) := by
  unfold upTo
  rw [List.range_succ_eq_map, List.map_cons, List.map_map, List.map_map]
  rfl
theorem upTo_add (a c : Nat) : upTo (a + c) = upTo a ++ (upTo c).map (· + (a : Int)) := by
  unfold upTo
  rw [List.range_add, List.map_append, List.map_map, List.map_map]
  congr 1
  refine List.map_congr_left fun i _ => ?_
  simp only [Function.comp]; omega
theorem upTo_snoc (k : Nat) : upTo (k + 1) = upTo k ++ [(k : Int)] := by
  unfold upTo; rw [List.range_succ, List.map_append]; rfl
/-- Plugged: each kid once again. -/
theorem perm_put {l inn : List Int} {k ki : Nat} (hl : l.Perm (upTo (k + 1))) (hi : inn.Perm (upTo ki)) : (l.flatMap (putN ((ki : Int) - 1) inn)).Perm (upTo (ki + k)) := by
  have h1 : (l.flatMap (putN ((ki : Int) - 1) inn)).Perm ((upTo (k + 1)).flatMap (putN ((ki : Int) - 1) inn)) := hl.flatMap_right _
  refine h1.trans ?_
  rw [upTo_succ, List.flatMap_cons, upTo_add]
  have e0 : putN ((ki : Int) - 1) inn 0 = inn := by unfold putN; rw [if_pos rfl]
  rw [e0]
  refine hi.append ?_
  have e1 : ((upTo k).map (· + 1)).flatMap (putN ((ki : Int) - 1) inn) = (upTo k).map (· + (ki : Int)) := by
    rw [List.flatMap_map]
    have : ∀ n ∈ upTo k, putN ((ki : Int) - 1) inn (n + 1) = [n + (ki : Int)] := fun n hn => by
      have := (upTo_mem.1 hn).1
      unfold putN
      rw [if_neg (by omega), mvN_is (.inl rfl), if_pos (by omega)]
      congr 1; omega
    generalize upTo k = u at *
    induction u with
    | nil => rfl
    | cons a u ih => rw [List.flatMap_cons, this a (by simp), ih fun n hn => this n (by simp [hn])]; rfl
  rw [e1]
theorem count_upTo (k : Nat) (l : List Int) (h : l.Perm (upTo k)) : l.count 0 ≤ 1 := by
  rw [h.count_eq]
  cases k with
  | zero => simp [upTo]
  | succ k =>
    rw [upTo_succ, List.count_cons_self]
    have : ((upTo k).map (· + 1)).count 0 = 0 := by
      rw [List.count_eq_zero]
      intro hm
      obtain ⟨n, hn, e⟩ := List.mem_map.1 hm
      have := (upTo_mem.1 hn).1
      omega
    omega
end Go.Proofs.Yticnpbopelgmiaa
