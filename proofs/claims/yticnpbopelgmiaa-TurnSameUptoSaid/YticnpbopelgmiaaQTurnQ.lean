/-
  Turn, plain: which kids templates use, and where; what holds on the way. Sim: sets of nonterminals: Has, With, List. Sim: which have the empty word, which have a tree. Sim: sets that grow; Nullable, Productive; NullOf, GoodOf. Sim: the reference's: allIn, NullOf, GoodOf, ListOf.
-/
import Derived.Test.YticnpbopelgmiaaQP1
import Derived.Test.YticnpbopelgmiaaG1
import Derived.Test.YticnpbopelgmiaaQS5
import Derived.Test.YticnpbopelgmiaaT1
set_option linter.unusedVariables false
set_option linter.unusedSimpArgs false
set_option linter.unusedSectionVars false
namespace Go.Proofs.Yticnpbopelgmiaa
open Go.RowKit

/-! ### The kids of a template, one behind the other -/
mutual
def kdF : Frag → List Int
  | .mk o n l => if o = 1 then kdL l else if o = 2 then [n] else if o = 4 then n :: kdL l else []
def kdL : List Frag → List Int
  | [] => []
  | x :: r => kdF x ++ kdL r
end
mutual
/-- Well formed. -/
def wfF (m : Int) : Frag → Prop
  | .mk o n l => (o = 1 ∧ 0 ≤ n ∧ n < m ∧ wfL m l) ∨ (o = 2 ∧ l = []) ∨ (o = 3 ∧ n = 0 ∧ l = []) ∨ (o = 4 ∧ wfL m l)
def wfL (m : Int) : List Frag → Prop
  | [] => True
  | x :: r => wfF m x ∧ wfL m r
end
mutual
/-- No filling of the first kid. -/
def nzF : Frag → Prop
  | .mk o n l => ¬ (o = 4 ∧ n = 0) ∧ nzL l
def nzL : List Frag → Prop
  | [] => True
  | x :: r => nzF x ∧ nzL r
end
theorem kdL_append : ∀ a b : List Frag, kdL (a ++ b) = kdL a ++ kdL b
  | [], b => rfl
  | x :: a, b => by rw [List.cons_append, kdL, kdL, kdL_append a b, List.append_assoc]
theorem wfL_append {m : Int} : ∀ {a b : List Frag}, wfL m (a ++ b) ↔ wfL m a ∧ wfL m b
  | [], b => by simp [wfL]
  | x :: a, b => by rw [List.cons_append, wfL, wfL, wfL_append, and_assoc]
theorem nzL_append : ∀ {a b : List Frag}, nzL (a ++ b) ↔ nzL a ∧ nzL b
  | [], b => by simp [nzL]
  | x :: a, b => by rw [List.cons_append, nzL, nzL, nzL_append, and_assoc]
theorem kdL_holes (k : Nat) : kdL (holes k) = (List.range k).map fun (i : Nat) => (i : Int) := by
  unfold holes
  have : ∀ l : List Nat, kdL (l.map fun (i : Nat) => Frag.mk 2 (i : Int) []) = l.map fun (i : Nat) => (i : Int) := by
    intro l
    induction l with
    | nil => rfl
    | cons i l ih => rw [List.map_cons, kdL, ih, kdF]; rfl
  exact this _
theorem wfL_holes (m : Int) (k : Nat) : wfL m (holes k) := by
  unfold holes
  have : ∀ l : List Nat, wfL m (l.map fun (i : Nat) => Frag.mk 2 (i : Int) []) := by
    intro l
    induction l with
    | nil => trivial
    | cons i l ih => exact ⟨.inr (.inl ⟨rfl, rfl⟩), ih⟩
  exact this _
theorem nzL_holes (k : Nat) : nzL (holes k) := by
  unfold holes
  have : ∀ l : List Nat, nzL (l.map fun (i : Nat) => Frag.mk 2 (i : Int) []) := by
    intro l
    induction l with
    | nil => trivial
    | cons i l ih => exact ⟨⟨fun h => absurd h.1 (by decide), trivial⟩, ih⟩
  exact this _
/-- What comes of a kid's number. -/
def putN (b : Int) (inn : List Int) (n : Int) : List Int := if n = 0 then inn else [mvN 2 n 0 b]
theorem mvN_is {o n b : Int} (ho : o = 2 ∨ o = 4) : mvN o n 0 b = if 0 < n then n + b else n := by
  unfold mvN
  by_cases h : 0 < n
  · rw [if_pos ⟨ho, h⟩, if_pos h]
  · rw [if_neg (fun q => h q.2), if_neg h]
theorem kd_two (n : Int) (l : List Frag) : kdF (.mk 2 n l) = [n] := by rw [kdF, if_neg (by decide), if_pos rfl]
mutual
theorem kd_put {m b : Int} {inn : List Frag} : ∀ x : Frag, wfF m x → nzF x → kdL (ptF 0 inn b x) = (kdF x).flatMap (putN b (kdL inn))
  | .mk o n l, h, hz => by
    rw [wfF] at h
    rw [nzF] at hz
    rw [ptF]
    rcases h with ⟨rfl, _, _, hl⟩ | ⟨rfl, rfl⟩ | ⟨rfl, _, rfl⟩ | ⟨rfl, hl⟩
    · rw [if_neg (fun q => absurd q.1 (by decide)), if_neg (fun q => absurd q.1 (by decide)), kdL, kdF, if_pos rfl, kdL, List.append_nil, kd_puts l hl hz.2, kdF, if_pos rfl]
    · rw [kd_two, List.flatMap_cons, List.flatMap_nil, List.append_nil]
      unfold putN
      by_cases h0 : n = 0
      · rw [if_pos ⟨rfl, h0⟩, if_pos h0]
      · rw [if_neg (fun q => h0 q.2), if_neg (fun q => absurd q.1 (by decide)), if_neg h0, kdL, kdF, if_neg (by decide), if_pos rfl]
        rfl
    · rw [if_neg (fun q => absurd q.1 (by decide)), if_neg (fun q => absurd q.1 (by decide)), kdL, kdF, kdF, if_neg (by decide), if_neg (by decide), if_neg (by decide)]
      rfl
    · have h0 : ¬ n = 0 := fun q => hz.1 ⟨rfl, q⟩
      rw [if_neg (fun q => absurd q.1 (by decide)), if_neg (fun q => h0 q.2), kdL, kdF, if_neg (by decide), if_neg (by decide), if_pos rfl, kdL, List.append_nil, kd_puts l hl hz.2, kdF, if_neg (by decide), if_neg (by decide), if_pos rfl, List.flatMap_cons]
      unfold putN
      rw [if_neg h0, mvN_is (.inr rfl), mvN_is (.inl rfl)]
      rfl
theorem kd_puts {m b : Int} {inn : List Frag} : ∀ l : List Frag, wfL m l → nzL l → kdL (ptL 0 inn b l) = (kdL l).flatMap (putN b (kdL inn))
  | [], _, _ => rfl
  | x :: r, h, hz => by
    rw [ptL, kdL_append, kd_put x h.1 hz.1, kd_puts r h.2 hz.2, kdL, List.flatMap_append]
end
mutual
theorem wf_put {m b : Int} {inn : List Frag} (hi : wfL m inn) : ∀ x : Frag, wfF m x → nzF x → wfL m (ptF 0 inn b x)
  | .mk o n l, h, hz => by
    rw [wfF] at h
    rw [nzF] at hz
    rw [ptF]
    rcases h with ⟨rfl, h1, h2, hl⟩ | ⟨rfl, rfl⟩ | ⟨rfl, h1, rfl⟩ | ⟨rfl, hl⟩
    · rw [if_neg (fun q => absurd q.1 (by decide)), if_neg (fun q => absurd q.1 (by decide))]
      refine ⟨.inl ⟨rfl, ?_, ?_, wf_puts hi l hl hz.2⟩, trivial⟩
      · unfold mvN; rw [if_neg (fun q => by rcases q.1 with q | q <;> exact absurd q (by decide))]; exact h1
      · unfold mvN; rw [if_neg (fun q => by rcases q.1 with q | q <;> exact absurd q (by decide))]; exact h2
    · by_cases h0 : n = 0
      · rw [if_pos ⟨rfl, h0⟩]; exact hi
      · rw [if_neg (fun q => h0 q.2), if_neg (fun q => absurd q.1 (by decide))]
        exact ⟨.inr (.inl ⟨rfl, rfl⟩), trivial⟩
    · rw [if_neg (fun q => absurd q.1 (by decide)), if_neg (fun q => absurd q.1 (by decide))]
      refine ⟨.inr (.inr (.inl ⟨rfl, ?_, rfl⟩)), trivial⟩
      unfold mvN; rw [if_neg (fun q => by rcases q.1 with q | q <;> exact absurd q (by decide))]; exact h1
    · have h0 : ¬ n = 0 := fun q => hz.1 ⟨rfl, q⟩
      rw [if_neg (fun q => absurd q.1 (by decide)), if_neg (fun q => h0 q.2)]
      exact ⟨.inr (.inr (.inr ⟨rfl, wf_puts hi l hl hz.2⟩)), trivial⟩
theorem wf_puts {m b : Int} {inn : List Frag} (hi : wfL m inn) : ∀ l : List Frag, wfL m l → nzL l → wfL m (ptL 0 inn b l)
  | [], _, _ => trivial
  | x :: r, h, hz => by
    rw [ptL, wfL_append]
    exact ⟨wf_put hi x h.1 hz.1, wf_puts hi r h.2 hz.2⟩
end
mutual
/-- The fillings' numbers stay above nothing. -/
theorem nz_put {m b : Int} {inn : List Frag} (hi : nzL inn) (hb : 0 ≤ b) : ∀ x : Frag, wfF m x → nzF x → (∀ n ∈ kdF x, 0 ≤ n) → nzL (ptF 0 inn b x)
  | .mk o n l, h, hz, hk => by
    rw [wfF] at h
    rw [nzF] at hz
    rw [ptF]
    rcases h with ⟨rfl, h1, h2, hl⟩ | ⟨rfl, rfl⟩ | ⟨rfl, h1, rfl⟩ | ⟨rfl, hl⟩
    · rw [if_neg (fun q => absurd q.1 (by decide)), if_neg (fun q => absurd q.1 (by decide))]
      rw [kdF, if_pos rfl] at hk
      exact ⟨⟨fun q => absurd q.1 (by decide), nz_puts hi hb l hl hz.2 hk⟩, trivial⟩
    · by_cases h0 : n = 0
      · rw [if_pos ⟨rfl, h0⟩]; exact hi
      · rw [if_neg (fun q => h0 q.2), if_neg (fun q => absurd q.1 (by decide))]
        exact ⟨⟨fun q => absurd q.1 (by decide), trivial⟩, trivial⟩
    · rw [if_neg (fun q => absurd q.1 (by decide)), if_neg (fun q => absurd q.1 (by decide))]
      exact ⟨⟨fun q => absurd q.1 (by decide), trivial⟩, trivial⟩
    · have h0 : ¬ n = 0 := fun q => hz.1 ⟨rfl, q⟩
      rw [kdF, if_neg (by decide), if_neg (by decide), if_pos rfl] at hk
      have hn := hk n (by simp)
      rw [if_neg (fun q => absurd q.1 (by decide)), if_neg (fun q => h0 q.2)]
      refine ⟨⟨fun q => ?_, nz_puts hi hb l hl hz.2 fun x hx => hk x (by simp [hx])⟩, trivial⟩
      have := q.2
      rw [mvN_is (.inr rfl), if_pos (by omega)] at this
      omega
theorem nz_puts {m b : Int} {inn : List Frag} (hi : nzL inn) (hb : 0 ≤ b) : ∀ l : List Frag, wfL m l → nzL l → (∀ n ∈ kdL l, 0 ≤ n) → nzL (ptL 0 inn b l)
  | [], _, _, _ => trivial
  | x :: r, h, hz, hk => by
    rw [ptL, nzL_append]
    rw [kdL] at hk
    exact ⟨nz_put hi hb x h.1 hz.1 fun n hn => hk n (by simp [hn]), nz_puts hi hb r h.2 hz.2 fun n hn => hk n (by simp [hn])⟩
end
mutual
theorem sz_put {m b : Int} {inn : List Frag} : ∀ x : Frag, wfF m x → nzF x → fszs (ptF 0 inn b x) ≤ fsz x + (kdF x).count 0 * fszs inn
  | .mk o n l, h, hz => by
    rw [wfF] at h
    rw [nzF] at hz
    rw [ptF]
    rcases h with ⟨rfl, h1, h2, hl⟩ | ⟨rfl, rfl⟩ | ⟨rfl, h1, rfl⟩ | ⟨rfl, hl⟩
    · rw [if_neg (fun q => absurd q.1 (by decide)), if_neg (fun q => absurd q.1 (by decide)), kdF, if_pos rfl]
      have := sz_puts (m := m) (b := b) (inn := inn) l hl hz.2
      simp only [fszs, fsz]; omega
    · rw [kd_two]
      by_cases h0 : n = 0
      · rw [if_pos ⟨rfl, h0⟩, h0]; simp
      · rw [if_neg (fun q => h0 q.2), if_neg (fun q => absurd q.1 (by decide))]
        simp [fszs, fsz, ptL]
    · rw [if_neg (fun q => absurd q.1 (by decide)), if_neg (fun q => absurd q.1 (by decide))]
      simp [fszs, fsz, ptL]
    · have h0 : ¬ n = 0 := fun q => hz.1 ⟨rfl, q⟩
      rw [if_neg (fun q => absurd q.1 (by decide)), if_neg (fun q => h0 q.2), kdF, if_neg (by decide), if_neg (by decide), if_pos rfl, List.count_cons_of_ne h0]
      have := sz_puts (m := m) (b := b) (inn := inn) l hl hz.2
      simp only [fszs, fsz]; omega
theorem sz_puts {m b : Int} {inn : List Frag} : ∀ l : List Frag, wfL m l → nzL l → fszs (ptL 0 inn b l) ≤ fszs l + (kdL l).count 0 * fszs inn
  | [], _, _ => by simp [ptL, fszs]
  | x :: r, h, hz => by
    have h1 := sz_put (b := b) (inn := inn) x h.1 hz.1
    have h2 := sz_puts (b := b) (inn := inn) r h.2 hz.2
    rw [ptL, fszs_append, kdL, List.count_append, Nat.add_mul, fszs]; omega
end
theorem count_len (l : List Int) : l.count 0 ≤ l.length := List.count_le_length
mutual
theorem kdF_len : ∀ x : Frag, (kdF x).length ≤ fsz x
  | .mk o n l => by
    have := kdL_len l
    rw [kdF, fsz]
    split
    · omega
    · split
      · rw [List.length_singleton]; omega
      · split
        · simp only [List.length_cons]; omega
        · simp
theorem kdL_len : ∀ l : List Frag, (kdL l).length ≤ fszs l
  | [] => Nat.le_refl _
  | x :: r => by
    have h1 := kdF_len x
    have h2 := kdL_len r
    rw [kdL, List.length_append, fszs]; omega
end
/-- All that comes in between is small. -/
theorem ptL_small {m b : Int} {inn : List Frag} : ∀ l : List Frag, wfL m l → nzL l → fszs l + fszs l * fszs inn ≤ 100000000 → PtL 0 inn b l := by
  have key : ∀ (N : Nat) (l : List Frag), fszs l < N → wfL m l → nzL l → fszs l + fszs l * fszs inn ≤ 100000000 → PtL 0 inn b l := by
    intro N
    induction N with
    | zero => intro l h; omega
    | succ N ih =>
      intro l hN h hz hs
      cases l with
      | nil => trivial
      | cons x r =>
        have hx := fsz_pos x
        rw [fszs] at hN
        have hsx : fszs x.l + fszs x.l * fszs inn ≤ 100000000 := by
          have h1 : fszs x.l ≤ fszs (x :: r) := by rw [fszs, fsz_eq]; omega
          have h2 : fszs x.l * fszs inn ≤ fszs (x :: r) * fszs inn := Nat.mul_le_mul_right _ h1
          omega
        have hsr : fszs r + fszs r * fszs inn ≤ 100000000 := by
          have h1 : fszs r ≤ fszs (x :: r) := by rw [fszs]; omega
          have h2 : fszs r * fszs inn ≤ fszs (x :: r) * fszs inn := Nat.mul_le_mul_right _ h1
          omega
        rw [PtL]
        refine ⟨?_, ih r (by omega) h.2 hz.2 hsr, ?_⟩
        · cases x with
          | mk o n l =>
            have hz1 := hz.1
            have hw := h.1
            rw [nzF] at hz1
            rw [wfF] at hw
            rw [PtF]
            refine ⟨?_, fun q => absurd q hz1.1⟩
            rcases hw with ⟨_, _, _, hl⟩ | ⟨_, rfl⟩ | ⟨_, _, rfl⟩ | ⟨_, hl⟩
            · exact ih l (by rw [fsz] at hN; omega) hl hz1.2 hsx
            · trivial
            · trivial
            · exact ih l (by rw [fsz] at hN; omega) hl hz1.2 hsx
        · have h1 := sz_puts (m := m) (b := b) (inn := inn) (x :: r) h hz
          have h2 := Nat.mul_le_mul_right (fszs inn) (Nat.le_trans (count_len (kdL (x :: r))) (kdL_len (x :: r)))
          omega
  exact fun l => key _ l (Nat.lt_succ_self _)
mutual
theorem nb_of {m B : Int} (hB : 0 ≤ B) (hm : m ≤ B) : ∀ x : Frag, wfF m x → (∀ n ∈ kdF x, -B ≤ n ∧ n ≤ B) → NbF B x
  | .mk o n l, h, hk => by
    rw [wfF] at h
    rcases h with ⟨rfl, h1, h2, hl⟩ | ⟨rfl, rfl⟩ | ⟨rfl, h1, rfl⟩ | ⟨rfl, hl⟩
    · rw [kdF, if_pos rfl] at hk
      exact ⟨by omega, nbs_of hB hm l hl hk⟩
    · rw [kdF, if_neg (by decide), if_pos rfl] at hk
      exact ⟨hk n (by simp), trivial⟩
    · exact ⟨by omega, trivial⟩
    · rw [kdF, if_neg (by decide), if_neg (by decide), if_pos rfl] at hk
      exact ⟨hk n (by simp), nbs_of hB hm l hl fun x hx => hk x (by simp [hx])⟩
theorem nbs_of {m B : Int} (hB : 0 ≤ B) (hm : m ≤ B) : ∀ l : List Frag, wfL m l → (∀ n ∈ kdL l, -B ≤ n ∧ n ≤ B) → NbL B l
  | [], _, _ => trivial
  | x :: r, h, hk => by
    rw [kdL] at hk
    exact ⟨nb_of hB hm x h.1 fun n hn => hk n (by simp [hn]), nbs_of hB hm r h.2 fun n hn => hk n (by simp [hn])⟩
end
/-! ### Each kid once -/
def upTo (k : Nat) : List Int := (List.range k).map fun (i : Nat) => (i : Int)
theorem upTo_mem {k : Nat} {n : Int} : n ∈ upTo k ↔ 0 ≤ n ∧ n < k := by
  unfold upTo
  simp only [List.mem_map, List.mem_range]
  constructor
  · rintro ⟨i, hi, rfl⟩; omega
  · rintro ⟨h1, h2⟩; exact ⟨n.toNat, by omega, by omega⟩
theorem upTo_succ (k : Nat) : upTo (k + 1) = 0 :: (upTo k).map (· + 1) := by
  unfold upTo
  rw [List.range_succ_eq_map, List.map_cons, List.map_map, List.map_map]
  rfl
theorem upTo_add (a c : Nat) : upTo (a + c) = upTo a ++ (upTo c).map (· + (a : Int)) := by
  unfold upTo
  rw [List.range_add, List.map_append, List.map_map, List.map_map]
  congr 1
  refine List.map_congr_left fun i _ => ?_
  simp only [Function.comp]; omega
theorem upTo_snoc (k : Nat) : upTo (k + 1) = upTo k ++ [(k : Int)] := by
  unfold upTo; rw [List.range_succ, List.map_append]; rfl
/-- Plugged: each kid once again. -/
theorem perm_put {l inn : List Int} {k ki : Nat} (hl : l.Perm (upTo (k + 1))) (hi : inn.Perm (upTo ki)) : (l.flatMap (putN ((ki : Int) - 1) inn)).Perm (upTo (ki + k)) := by
  have h1 : (l.flatMap (putN ((ki : Int) - 1) inn)).Perm ((upTo (k + 1)).flatMap (putN ((ki : Int) - 1) inn)) := hl.flatMap_right _
  refine h1.trans ?_
  rw [upTo_succ, List.flatMap_cons, upTo_add]
  have e0 : putN ((ki : Int) - 1) inn 0 = inn := by unfold putN; rw [if_pos rfl]
  rw [e0]
  refine hi.append ?_
  have e1 : ((upTo k).map (· + 1)).flatMap (putN ((ki : Int) - 1) inn) = (upTo k).map (· + (ki : Int)) := by
    rw [List.flatMap_map]
    have : ∀ n ∈ upTo k, putN ((ki : Int) - 1) inn (n + 1) = [n + (ki : Int)] := fun n hn => by
      have := (upTo_mem.1 hn).1
      unfold putN
      rw [if_neg (by omega), mvN_is (.inl rfl), if_pos (by omega)]
      congr 1; omega
    generalize upTo k = u at *
    induction u with
    | nil => rfl
    | cons a u ih => rw [List.flatMap_cons, this a (by simp), ih fun n hn => this n (by simp [hn])]; rfl
  rw [e1]
theorem count_upTo (k : Nat) (l : List Int) (h : l.Perm (upTo k)) : l.count 0 ≤ 1 := by
  rw [h.count_eq]
  cases k with
  | zero => simp [upTo]
  | succ k =>
    rw [upTo_succ, List.count_cons_self]
    have : ((upTo k).map (· + 1)).count 0 = 0 := by
      rw [List.count_eq_zero]
      intro hm
      obtain ⟨n, hn, e⟩ := List.mem_map.1 hm
      have := (upTo_mem.1 hn).1
      omega
    omega
end Go.Proofs.Yticnpbopelgmiaa
namespace Go.Proofs.Yticnpbopelgmiaa
open Go.RowKit
set_option maxRecDepth 100000

def uD (x : Int) : D := .raw (.int .u64 x)
abbrev U (x : Nat) : V := .d (uD (x : Int))
def hasN (s : Nat) (v : Int) : Bool := decide (0 ≤ v) && (decide (v < 64) && s.testBit v.toNat)
def withN (s : Nat) (v : Int) : Nat := if 0 ≤ v ∧ v < 64 then s ||| (1 <<< v.toNat) else s
theorem bit_and (s k : Nat) : decide (s >>> k &&& 1 = 1) = s.testBit k := by
  rw [Nat.testBit, Nat.and_comm 1, Nat.and_one_is_mod]
  rcases Nat.mod_two_eq_zero_or_one (s >>> k) with h | h <;> rw [h] <;> rfl
theorem has_sim {s : Nat} {v : Int} (hs : s < 18446744073709551616 := by ((try simp only [List.length_map, List.length_append, List.length_cons, List.length_nil, List.length_replicate, List.length_set, List.length_take, List.length_drop]); first | omega | assumption)) : ACalls Try.prog 72 [U s, I v] [] (B (hasN s v)) [] := by
  refine ACalls.intro (n := 18) Try.func72 rfl rfl (by simp) (by rfl) ?_
  simp only [argFr]
  by_cases h1 : 0 ≤ v
  · by_cases h2 : v < 64
    · obtain ⟨k, rfl⟩ : ∃ k : Nat, v = (k : Int) := ⟨v.toNat, by omega⟩
      have e : hasN s k = s.testBit k := by simp only [hasN, decide_eq_true h1, decide_eq_true h2, Bool.true_and, Int.toNat_natCast]
      have e2 : s.testBit k = decide (andU (shrU s k) 1 = 1) := by
        rw [← bit_and]; exact decide_eq_decide.2 (by rw [show andU (shrU s k) 1 = ((s >>> k &&& 1 : Nat) : Int) from rfl]; omega)
      rw [e, e2]
      repeat (first | refine wk ?_ | refine s_field (hr := ?_))
      refine gOp ?_
      refine gBin ?_
      refine s_and (h1 := ?_) (h2 := ?_) (h3 := ?_) (h4 := ?_) (hr := ?_)
      · exact Int.natCast_nonneg _
      · have := Nat.shiftRight_le s k
        rw [show shrU s k = ((s >>> k : Nat) : Int) from rfl]
        omega
      · omega
      · omega
      repeat (first | refine wk ?_ | refine s_field (hr := ?_))
      exact fin
    · rw [show hasN s v = false by simp [hasN]; omega]
      repeat (first | refine wk ?_ | refine s_field (hr := ?_))
      exact fin
  · rw [show hasN s v = false by simp [hasN]; omega]
    repeat (first | refine wk ?_ | refine s_field (hr := ?_))
    exact fin
theorem with_sim {s : Nat} {v : Int} (hs : s < 18446744073709551616 := by ((try simp only [List.length_map, List.length_append, List.length_cons, List.length_nil, List.length_replicate, List.length_set, List.length_take, List.length_drop]); first | omega | assumption)) : ACalls Try.prog 71 [U s, I v] [] (U (withN s v)) [] := by
  refine ACalls.intro (n := 16) Try.func71 rfl rfl (by simp) (by rfl) ?_
  simp only [argFr]
  by_cases h1 : v < 0
  · rw [show withN s v = s by rw [withN, if_neg (by omega)]]
    repeat (first | refine wk ?_ | refine s_field (hr := ?_))
    exact fin
  · by_cases h2 : v > 63
    · rw [show withN s v = s by rw [withN, if_neg (by omega)]]
      repeat (first | refine wk ?_ | refine s_field (hr := ?_))
      exact fin
    · obtain ⟨k, rfl⟩ : ∃ k : Nat, v = (k : Int) := ⟨v.toNat, by omega⟩
      have e : withN s k = ((s : Int).toNat ||| (shlU 1 k).toNat) := by rw [withN, if_pos (by omega)]; rfl
      rw [show U (withN s k) = V.d (.raw (.int .u64 (orU s (shlU 1 k)))) by rw [e]; rfl]
      clear e
      repeat (first | refine wk ?_ | refine s_field (hr := ?_))
      refine gOp ?_
      refine gBin ?_
      refine s_or (h1 := ?_) (h2 := ?_) (h3 := ?_) (h4 := ?_) (hr := ?_)
      · omega
      · omega
      · exact Int.natCast_nonneg _
      · have hb : (1 <<< k : Nat) < 18446744073709551616 := by
          rw [Nat.one_shiftLeft]
          exact Nat.lt_of_lt_of_le (Nat.pow_lt_pow_right (a := 2) (n := 64) (by decide) (by omega)) (by decide)
        rw [show shlU 1 (k : Int) = ((1 <<< k : Nat) : Int) from rfl]
        omega
      repeat (first | refine wk ?_ | refine s_field (hr := ?_))
      exact fin
/-- All of it, rising. -/
def listN (s n : Nat) : List Int := ((List.range n).filter (fun k => s.testBit k)).map (fun (k : Nat) => (k : Int))
theorem listN_snoc (s n : Nat) : listN s (n + 1) = listN s n ++ (if s.testBit n = true then [(n : Int)] else []) := by
  unfold listN
  rw [List.range_succ, List.filter_append, List.map_append]
  congr 1
  by_cases h : s.testBit n = true <;> simp [h]
theorem listN_le (s n : Nat) : (listN s n).length ≤ n := by
  unfold listN
  rw [List.length_map]
  exact Nat.le_trans (List.length_filter_le _ _) (by simp)
theorem list_sim {s : Nat} (hs : s < 18446744073709551616 := by ((try simp only [List.length_map, List.length_append, List.length_cons, List.length_nil, List.length_replicate, List.length_set, List.length_take, List.length_drop]); first | omega | assumption)) : ACalls Try.prog 74 [U s] [] (.own 900 (listN s 64).length) [(900, .row 3 1 ((listN s 64).map iD))] := by
  refine ACalls.intro (n := 17) Try.func74 rfl rfl (by simp) (by rfl) ?_
  simp only [argFr]
  repeat (first | refine wk ?_ | refine s_field (hr := ?_))
  refine aw_nil 3 900 3 1 rfl rfl rfl ?_
  refine t_loop (X := Nat) (fun k => k ≤ 64) (fun k => [(5, I k), (0, U s), (3, .own 900 (listN s k).length)]) (fun k => [(900, .row 3 1 ((listN s k).map iD))]) (fun k => 64 - k) 0 (Nat.zero_le _) ?_
  intro k hk
  have hl := listN_le s k
  by_cases hlt : (k : Int) < 64
  · have e := listN_snoc s k
    have eh : hasN s k = s.testBit k := by simp only [hasN, decide_eq_true hlt, Bool.true_and, Int.toNat_natCast]; rw [decide_eq_true (by omega)]; rfl
    have h1 := has_sim (s := s) (v := k) hs
    rw [eh] at h1
    repeat (first | refine wk ?_ | refine s_field (hr := ?_))
    refine s_call [] (hA := h1) (hr := ?_)
    cases hb : s.testBit k with
    | true =>
      rw [hb, if_pos rfl] at e
      repeat (first | refine wk ?_ | refine s_field (hr := ?_))
      exact t_next (k + 1)
    | false =>
      rw [hb, if_neg (by decide), List.append_nil] at e
      repeat (first | refine wk ?_ | refine s_field (hr := ?_))
      exact t_next (k + 1)
  · obtain rfl : k = 64 := by omega
    repeat (first | refine wk ?_ | refine s_field (hr := ?_))
    exact fin
end Go.Proofs.Yticnpbopelgmiaa
namespace Go.Proofs.Yticnpbopelgmiaa
open Go.RowKit
set_option maxRecDepth 100000

theorem hasN_set {is : List Bool} (h : is.length ≤ 64) (v : Int) : hasN (setN is) v = has is v := by
  unfold hasN has
  rw [setN_bit]
  by_cases h1 : v < 64
  · simp [h1]
  · rw [decide_eq_false h1, Bool.false_and, Bool.and_false, List.getD_eq_getElem?_getD, List.getElem?_eq_none (by omega)]
    simp
theorem withN_set {is : List Bool} (h : is.length ≤ 64) {v : Int} (h0 : 0 ≤ v) (h1 : v < is.length) : withN (setN is) v = setN (put is v) := by
  rw [withN, if_pos (by omega), put, setN_set (by omega)]
def listB (is : List Bool) : List Int := ((List.range is.length).filter (fun k => is.getD k false)).map (fun (k : Nat) => (k : Int))
theorem listB_le (is : List Bool) : (listB is).length ≤ is.length := by
  unfold listB
  rw [List.length_map]
  exact Nat.le_trans (List.length_filter_le _ _) (by simp)
theorem listN_set {is : List Bool} : ∀ {n : Nat}, is.length ≤ n → listN (setN is) n = listB is := by
  intro n hn
  obtain ⟨d, rfl⟩ : ∃ d, n = is.length + d := ⟨n - is.length, by omega⟩
  clear hn
  induction d with
  | zero => simp only [listN, listB, setN_bit, Nat.add_zero]
  | succ d ih =>
    rw [← Nat.add_assoc, listN_snoc, ih, setN_bit, List.getD_eq_getElem?_getD, List.getElem?_eq_none (by omega), if_neg (by simp), List.append_nil]
abbrev bools (t : Bool) (is : List Bool) : D := .sl t 1 (is.map bD)
def badS (t : Bool) (is : List Bool) (x : Int) : Bool := (decide (x < 0) && !t) || (decide (0 ≤ x) && !has is x)
theorem asks_any (t : Bool) (r : Rule) (is : List Bool) : inAll (asks t r) is = !(r.right.any (badS t is)) := by
  rw [Bool.eq_iff_iff]
  simp only [inAll, Bool.not_eq_true', List.any_eq_false, List.all_eq_true]
  cases t with
  | false =>
    simp only [asks, cond_false]
    refine forall_congr' fun x => forall_congr' fun _ => ?_
    by_cases h : 0 ≤ x
    · simp [badS, h]
    · have : has is x = false := by simp [has, h]
      simp [badS, this]
  | true =>
    simp only [asks, cond_true]
    constructor
    · intro h x hx
      by_cases h0 : 0 ≤ x
      · simp [badS, h x (by simp [kids, hx, h0])]
      · simp [badS, h0]
    · intro h x hx
      have h0 := kids_nonneg x hx
      have := h x (kids_mem hx)
      simpa [badS, h0] using this
abbrev setBox (is : List Bool) : Ob := .box 99 [.d (uD (setN is : Nat))]
abbrev boolBox (b : Bool) : Ob := .box 4 [.d (bD b)]
theorem whole1_sim {t : Bool} {is : List Bool} {x : Int} (hl : is.length ≤ 64) :
    ACalls Try.prog 159 [I x, .ptr 1000 0, .ptr 1001 0] [(1000, boolBox t), (1001, setBox is)] (B (badS t is x)) [(1000, boolBox t), (1001, setBox is)] := by
  refine ACalls.intro (n := 21) Try.func159 rfl rfl (by simp) (by rfl) ?_
  simp only [argFr]
  have hs := setN_lt64 hl
  have h1 := has_sim (s := setN is) (v := x) hs
  rw [hasN_set hl] at h1
  by_cases h0 : 0 ≤ x
  · have hx : decide (x < 0) = false := decide_eq_false (by omega)
    have eb : badS t is x = !has is x := by simp [badS, h0, hx]
    rw [eb]
    repeat (first | refine wk ?_)
    refine s_call [] (hA := h1) (hr := ?_)
    repeat (first | refine wk ?_)
    exact fin
  · cases t with
    | false =>
      rw [show badS false is x = true by simp [badS]; omega]
      repeat (first | refine wkz ?_ | refine s_field (hr := ?_))
      exact fin
    | true =>
      rw [show badS true is x = false by simp [badS]; omega]
      repeat (first | refine wk ?_)
      exact fin
theorem whole_sim {t u : Bool} {r : Rule} {is : List Bool} (hl : is.length ≤ 64 := by ((try simp only [List.length_map, List.length_append, List.length_cons, List.length_nil, List.length_replicate, List.length_set, List.length_take, List.length_drop]); first | omega | assumption)) (hr : r.right.length ≤ 100000000 := by ((try simp only [List.length_map, List.length_append, List.length_cons, List.length_nil, List.length_replicate, List.length_set, List.length_take, List.length_drop]); first | omega | assumption)) :
    ACalls Try.prog 123 [.d (ruleD t r), U (setN is), B u] [] (B (inAll (asks u r) is)) [] := by
  refine ACalls.intro (n := 12) Try.func123 rfl rfl (by simp) (by rfl) ?_
  simp only [argFr]
  rw [asks_any]
  repeat (first | refine wk ?_)
  refine s_call [(1000, 5), (1001, 4)] (hA := containsFunc_sim (t := t) (clos := 159) (caps := [.ptr 1000 0, .ptr 1001 0]) (H := [(1000, boolBox u), (1001, setBox is)]) (p := badS u is) ⟨rfl, rfl, rfl, ⟨rfl, rfl, trivial⟩⟩ (fun x _ => whole1_sim hl)) (hr := ?_)
  repeat (first | refine wk ?_)
  exact fin
end Go.Proofs.Yticnpbopelgmiaa
namespace Go.Proofs.Yticnpbopelgmiaa
open Go.RowKit
set_option maxRecDepth 100000

theorem pass_at {t : Bool} {rs : List Rule} {i : Nat} {is : List Bool} (h : i < rs.length) : pass t (rs.drop i) is = pass t (rs.drop (i + 1)) (one1 t rs[i] is) := by
  rw [List.drop_eq_getElem_cons h, pass]
theorem pass_out {t : Bool} {rs : List Rule} {i : Nat} {is : List Bool} (h : ¬ i < rs.length) : pass t (rs.drop i) is = is := by
  rw [List.drop_of_length_le (by omega), pass]
abbrev ruleBox (t : Bool) (r : Rule) : Ob := .box 41 [.d (iD r.left), .d (ints t r.right)]
theorem lefts1_sim {t u : Bool} {g : Gram} (hg : g.ok) {is : List Bool} (hl : is.length = g.vars.toNat) :
    ACalls Try.prog 122 [U (setN is), .ptr 1000 0, .ptr 1001 0] [(1000, gramBox t g), (1001, boolBox u)] (U (setN (pass u g.rules is))) [(1000, gramBox t g), (1001, boolBox u)] := by
  refine ACalls.intro (n := 24) Try.func122 rfl rfl (by simp) (by rfl) ?_
  simp only [argFr]
  have hv := hg.vars
  have hlen := hg.rules
  repeat (first | refine wk ?_)
  refine t_loop (X := Nat × List Bool) (fun x => x.1 ≤ g.rules.length ∧ pass u g.rules is = pass u (g.rules.drop x.1) x.2 ∧ x.2.length = is.length) (fun x => [(10, I x.1), (9, I g.rules.length), (8, .d (rulesD t g.rules)), (0, U (setN x.2)), (1, .ptr 1000 0), (2, .ptr 1001 0)]) (fun _ => [(1000, gramBox t g), (1001, boolBox u)]) (fun x => g.rules.length - x.1) (0, is) ⟨Nat.zero_le _, rfl, rfl⟩ ?_
  rintro ⟨i, js⟩ ⟨h1, h2, h3⟩
  dsimp only at h1 h2 h3 ⊢
  by_cases hlt : i < g.rules.length
  · have hmem := List.getElem_mem hlt
    have a1 := hg.left0 _ hmem
    have a2 := hg.left _ hmem
    have a3 := hg.right _ hmem
    have hp := pass_at (t := u) (is := js) hlt
    have hl64 : js.length ≤ 64 := by omega
    have hlt64 := setN_lt64 hl64
    have hw := with_sim (s := setN js) (v := g.rules[i].left) hlt64
    rw [withN_set hl64 a1 (by omega)] at hw
    repeat (first | refine wk ?_)
    refine s_call [] (hA := whole_sim (t := t) (r := g.rules[i])) (hr := ?_)
    cases hc : inAll (asks u g.rules[i]) js with
    | true =>
      have ho : one1 u g.rules[i] js = put js g.rules[i].left := by rw [one1, hc]; rfl
      rw [ho] at hp
      repeat (first | refine wk ?_)
      refine s_call [] (hA := hw) (hr := ?_)
      repeat (first | refine wk ?_)
      exact t_next (i + 1, put js g.rules[i].left) (a := ⟨by omega, h2.trans hp, by rw [put_length]; exact h3⟩) (b := by dsimp only; omega)
    | false =>
      have ho : one1 u g.rules[i] js = js := by rw [one1, hc]; rfl
      rw [ho] at hp
      repeat (first | refine wk ?_)
      exact t_next (i + 1, js) (a := ⟨by omega, h2.trans hp, h3⟩) (b := by dsimp only; omega)
  · rw [h2, pass_out hlt]
    repeat (first | refine wk ?_)
    exact fin
theorem grow_sim {clos : Nat} {caps : List V} {H : Hp} {f : List Bool → List Bool} {is : List Bool} (hC : Clo H caps) (hs : ∀ x, Sub x (f x)) (hl : is.length ≤ 64)
    (hc : ∀ x : List Bool, x.length = is.length → ACalls Try.prog clos (U (setN x) :: caps) H (U (setN (f x))) H) :
    ACalls Try.prog 121 [U (setN is), .fn (.func clos) [] caps] H (U (setN (full f is))) H := by
  refine ACalls.intro (n := 17) Try.func121 rfl rfl (by simp) (by rfl) ?_
  simp only [argFr]
  have h1 := hC.self
  have h2 := hC.inn
  have h3 := hC.caps
  repeat (first | refine wk ?_)
  refine s_clos hC (hA := hc is rfl) (hr := ?_)
  repeat (first | refine wk ?_)
  refine t_loop (X := List Bool) (fun x => x.length = is.length ∧ full f is = full f x) (fun x => [(5, U (setN (f x))), (0, U (setN x)), (1, .fn (.func clos) [] caps)]) (fun _ => H) (fun x => is.length - cntB x) is ⟨rfl, rfl⟩ ?_
  rintro x ⟨hx, hf⟩
  have hfl := (hs x).len
  by_cases e : f x = x
  · have e1 : (setN (f x) : Int) = (setN x : Int) := by rw [e]
    rw [hf, full_end e]
    repeat (first | refine wk ?_)
    exact fin
  · have e1 : ¬ ((setN (f x) : Int) = (setN x : Int)) := fun h => e (setN_inj hfl.symm (by omega))
    have hgr := (hs x).grows (Ne.symm e)
    have hle := cntB_le (f x)
    repeat (first | refine wk ?_)
    refine s_clos hC (hA := hc (f x) (by omega)) (hr := ?_)
    repeat (first | refine wk ?_)
    exact t_next (f x) (a := ⟨by omega, by rw [hf, full_step hs]⟩) (b := by omega)
theorem lefts_sim {t u : Bool} {g : Gram} (hg : g.ok) : ACalls Try.prog 70 [.d (gramD t g), B u] [] (U (setN (leftsOf u g))) [] := by
  refine ACalls.intro (n := 7) Try.func70 rfl rfl (by simp) (by rfl) ?_
  simp only [argFr]
  have hv := hg.vars
  have h := grow_sim (clos := 122) (caps := [.ptr 1000 0, .ptr 1001 0]) (H := [(1000, gramBox t g), (1001, boolBox u)]) (f := pass u g.rules) (is := none_ g) ⟨rfl, rfl, rfl, ⟨rfl, rfl, trivial⟩⟩ (pass_sub hg.left0) (by rw [none_length]; omega) (fun x hx => lefts1_sim hg (by rw [hx, none_length]))
  rw [show setN (none_ g) = 0 from setN_rep _] at h
  repeat (first | refine wk ?_)
  refine s_call [(1000, 2), (1001, 3)] (hA := h) (hr := ?_)
  repeat (first | refine wk ?_)
  exact fin
def nullL (g : Gram) : List Int := if (gramFault g).code = 0 then listB (leftsOf false g) else []
theorem list_set {is : List Bool} (h : is.length ≤ 64) : ACalls Try.prog 74 [U (setN is)] [] (.own 900 (listB is).length) [(900, .row 3 1 ((listB is).map iD))] := by
  have := list_sim (s := setN is) (setN_lt64 h)
  rwa [listN_set h] at this
theorem nullable_sim {t : Bool} {g : Gram} (hf : g.fit) : ACalls Try.prog 129 [.d (gramD t g)] [] (.tup [.d (ints false (nullL g)), .d (faultD (gramFault g))]) [] := by
  refine ACalls.intro (n := 15) Try.func129 rfl rfl (by simp) (by rfl) ?_
  simp only [argFr]
  have hl := hf.rules
  have hr := hf.right
  repeat (first | refine wk ?_)
  refine s_call [] (hA := gramCheck_sim) (hr := ?_)
  by_cases h0 : (gramFault g).code = 0
  · have hg := gram_ok h0
    have hz := fault_zero h0
    have hv := hg.vars
    have hll := leftsOf_len (t := false) hg
    rw [nullL, if_pos h0, hz]
    repeat (first | refine wk ?_)
    refine s_call [] (hA := lefts_sim (u := false) hg) (hr := ?_)
    repeat (first | refine wk ?_)
    refine s_call [] (hA := list_set (is := leftsOf false g) (by omega)) (hr := ?_)
    repeat (first | refine wkr ?_ | refine s_field (hr := ?_))
    refine aw_froz 900 rfl ?_
    repeat (first | refine wk ?_)
    exact fin
  · rw [nullL, if_neg h0]
    repeat (first | refine wk ?_)
    exact fin
end Go.Proofs.Yticnpbopelgmiaa
namespace Go.Proofs.Yticnpbopelgmiaa
open Go.RowKit
set_option maxRecDepth 100000

end Go.Proofs.Yticnpbopelgmiaa
