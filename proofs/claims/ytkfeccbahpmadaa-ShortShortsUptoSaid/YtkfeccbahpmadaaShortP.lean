/-
  Short, plain: the rules that a nonterminal gives, by rules that are one nonterminal alone.
-/
import Derived.Test.YtkfeccbahpmadaaRank
import Derived.Test.YtkfeccbahpmadaaPlugP
import Derived.Test.YtkfeccbahpmadaaP1
set_option linter.unusedVariables false
set_option linter.unusedSimpArgs false
set_option linter.unusedSectionVars false
namespace Go.Proofs.Ytkfeccbahpmadaa
open Go.RowKit

/-- The nonterminal that a rule is alone; -1: it is none. -/
def unitOf (right : List Int) : Int := if right.length = 1 then (if 0 ≤ right.getD 0 0 then right.getD 0 0 else -1) else -1
theorem unitOf_ge (r : List Int) : -1 ≤ unitOf r := by
  unfold unitOf
  split
  · split <;> omega
  · omega
theorem unit_step {g : Gram} {v i : Int} (hi : i ∈ by_ g v) (hu : 0 ≤ unitOf (rightAt g i)) : unitOf (rightAt g i) ∈ stepA g v := by
  unfold stepA stepsOf overBy
  refine List.mem_flatMap.2 ⟨i, hi, ?_⟩
  generalize rightAt g i = r at *
  unfold unitOf at hu ⊢
  by_cases h1 : r.length = 1
  · rw [if_pos h1] at hu ⊢
    by_cases h0 : 0 ≤ r.getD 0 0
    · rw [if_pos h0]
      unfold picksAll
      refine picks_mem.2 ⟨0, by omega, ?_, rfl⟩
      unfold pickAt
      have hd : r.drop (0 + 1) = [] := List.drop_of_length_le (by omega)
      rw [hd, List.take_zero, decide_eq_true h0]
      rfl
    · rw [if_neg h0] at hu; omega
  · rw [if_neg h1] at hu; omega
def wys (g : Gram) : Nat → Int → List (List Int)
  | 0, _ => []
  | n + 1, v => (by_ g v).flatMap fun i => if unitOf (rightAt g i) < 0 then [[i]] else (wys g n (unitOf (rightAt g i))).map (i :: ·)
/-- From a nonterminal down rules that are one nonterminal alone, to one that is none. -/
def ways (g : Gram) (v : Int) : List (List Int) := wys g (rnk g v + 1) v
def wayOf (g : Gram) (i : Int) : List (List Int) := if unitOf (rightAt g i) < 0 then [[i]] else (ways g (unitOf (rightAt g i))).map (i :: ·)
section
variable {g : Gram} (hg : g.ok) (hc : cycL g = [])
include hg hc
theorem wys_eq : ∀ (n : Nat) (v : Int), 0 ≤ v → v < g.vars → rnk g v < n → wys g n v = wys g (rnk g v + 1) v := by
  intro n
  induction n using Nat.strongRecOn with
  | _ n ih =>
  intro v h0 h1 hn
  obtain ⟨n, rfl⟩ : ∃ m, n = m + 1 := ⟨n - 1, by omega⟩
  rw [wys, wys]
  have key : ∀ i ∈ by_ g v, (if unitOf (rightAt g i) < 0 then [[i]] else (wys g n (unitOf (rightAt g i))).map (i :: ·)) = (if unitOf (rightAt g i) < 0 then [[i]] else (wys g (rnk g v) (unitOf (rightAt g i))).map (i :: ·)) := fun i hi => by
    by_cases hu : unitOf (rightAt g i) < 0
    · rw [if_pos hu, if_pos hu]
    · have hs := unit_step hi (by omega)
      obtain ⟨u0, u1⟩ := step_in hg h0 h1 hs
      have hr := rnk_lt hg hc h0 h1 hs
      rw [if_neg hu, if_neg hu, ih n (by omega) _ u0 u1 (by omega)]
      by_cases he : rnk g v < n + 1
      · rw [ih (rnk g v) (by omega) _ u0 u1 (by omega)]
      · omega
  rw [List.flatMap_def, List.flatMap_def, List.map_congr_left key]
theorem ways_eq {v : Int} (h0 : 0 ≤ v) (h1 : v < g.vars) : ways g v = (by_ g v).flatMap (wayOf g) := by
  unfold ways
  rw [wys]
  have key : ∀ i ∈ by_ g v, (if unitOf (rightAt g i) < 0 then [[i]] else (wys g (rnk g v) (unitOf (rightAt g i))).map (i :: ·)) = wayOf g i := fun i hi => by
    unfold wayOf ways
    by_cases hu : unitOf (rightAt g i) < 0
    · rw [if_pos hu, if_pos hu]
    · have hs := unit_step hi (by omega)
      obtain ⟨u0, u1⟩ := step_in hg h0 h1 hs
      have hr := rnk_lt hg hc h0 h1 hs
      rw [if_neg hu, if_neg hu, wys_eq hg hc (rnk g v) _ u0 u1 hr]
  rw [List.flatMap_def, List.flatMap_def, List.map_congr_left key]
end
/-! ### Templates -/
def kN (g : Gram) (i : Int) : Nat := (kids (rightAt g i)).length
def wayF (g : Gram) : List Int → List Frag
  | [] => []
  | [r] => nodeF r (kN g r)
  | r :: r2 :: rest => [.mk 1 r (wayF g (r2 :: rest))]
def lastW (w : List Int) : Int := w.getLastD 0
def wrapF : List Int → List Frag → List Frag
  | [], l => l
  | r :: p, l => [.mk 1 r (wrapF p l)]
theorem wrapF_snoc : ∀ (p : List Int) (r : Int) (l : List Frag), wrapF (p ++ [r]) l = wrapF p [.mk 1 r l]
  | [], r, l => rfl
  | a :: p, r, l => by simp only [List.cons_append, wrapF, wrapF_snoc p r l]
theorem wayF_cons (g : Gram) (r : Int) {w : List Int} (h : w ≠ []) : wayF g (r :: w) = [.mk 1 r (wayF g w)] := by
  cases w with
  | nil => exact absurd rfl h
  | cons a b => rw [wayF]
theorem wrapF_size : ∀ (p : List Int) (l : List Frag), fszs (wrapF p l) = p.length + fszs l
  | [], l => by simp [wrapF]
  | r :: p, l => by simp only [wrapF, fszs, fsz, wrapF_size p l, List.length_cons]; omega
theorem fszs_holes : ∀ (k : Nat), fszs (holes k) = k
  | 0 => rfl
  | k + 1 => by
    unfold holes at *
    rw [List.range_succ, List.map_append, fszs_append]
    have := fszs_holes k
    unfold holes at this
    rw [this]
    simp [fszs, fsz]
theorem nodeF_size (r : Int) (k : Nat) : fszs (nodeF r k) = 1 + k := by simp [nodeF, fszs, fsz, fszs_holes]
theorem kN_unit {g : Gram} {i : Int} (hu : 0 ≤ unitOf (rightAt g i)) : kN g i = 1 := by
  unfold kN
  generalize rightAt g i = r at *
  unfold unitOf at hu
  by_cases h1 : r.length = 1
  · rw [if_pos h1] at hu
    match r, h1 with
    | [x], _ =>
      by_cases h0 : 0 ≤ x
      · simp [kids, h0]
      · simp [h0] at hu
  · rw [if_neg h1] at hu; omega
/-- A hole is filled. -/
theorem put_wrap (inn : List Frag) (b : Int) : ∀ (p : List Int) (r : Int), ptL 0 inn b (wrapF p (nodeF r 1)) = wrapF (p ++ [r]) inn
  | [], r => by
    simp [wrapF, nodeF, holes, ptL, ptF, mvN]
  | a :: p, r => by
    simp only [List.cons_append, wrapF, ptL, ptF, put_wrap inn b p r]
    simp [mvN]
theorem plug_wrap (p : List Int) (r k : Int) (n : Nat) : plugL (wrapF p (nodeF r 1)) 0 (nodeF k n) n = wrapF (p ++ [r]) (nodeF k n) := by
  unfold plugL
  rw [movL_zero, put_wrap]
theorem NbL_append {B : Int} : ∀ {a b : List Frag}, NbL B a → NbL B b → NbL B (a ++ b)
  | [], _, _, h => h
  | x :: a, b, h, h2 => ⟨h.1, NbL_append h.2 h2⟩
theorem holes_nb {B : Int} : ∀ (k : Nat), (k : Int) ≤ B → NbL B (holes k)
  | 0, _ => trivial
  | k + 1, h => by
    have ih := holes_nb (B := B) k (by omega)
    unfold holes at *
    rw [List.range_succ, List.map_append]
    refine NbL_append ih ?_
    simp only [List.map_cons, List.map_nil, NbL, NbF, and_true]
    omega
theorem nodeF_nb {B r : Int} {k : Nat} (h0 : 0 ≤ r) (h1 : r ≤ B) (hk : (k : Int) ≤ B) : NbL B (nodeF r k) := by
  simp only [nodeF, NbL, NbF, and_true]
  exact ⟨by omega, holes_nb k hk⟩
theorem wrapF_nb {B : Int} {l : List Frag} (hl : NbL B l) : ∀ {p : List Int}, (∀ x ∈ p, 0 ≤ x ∧ x ≤ B) → NbL B (wrapF p l)
  | [], _ => hl
  | r :: p, h => by
    have h1 := h r (by simp)
    simp only [wrapF, NbL, NbF, and_true]
    exact ⟨by omega, wrapF_nb hl (fun x hx => h x (by simp [hx]))⟩
theorem wrapF_pt {inn : List Frag} {b : Int} (hi : fszs inn ≤ 1000000) : ∀ {p : List Int} {r : Int}, p.length ≤ 1000000 → PtL 0 inn b (wrapF p (nodeF r 1))
  | [], r, _ => by
    have h1 : ptL 0 inn b (nodeF r 1) = [.mk 1 r inn] := put_wrap inn b [] r
    have h2 : ptL 0 inn b (holes 1) = inn := by simp [holes, ptL, ptF]
    have h3 : nodeF r 1 = [.mk 1 r (holes 1)] := rfl
    simp only [wrapF]
    rw [h3, PtL, ← h3, h1]
    refine ⟨?_, trivial, by simp only [fszs, fsz]; omega⟩
    rw [PtF]
    refine ⟨?_, fun h => absurd h.1 (by decide)⟩
    have h4 : holes 1 = [.mk 2 0 []] := rfl
    rw [h4] at h2 ⊢
    rw [PtL, h2]
    refine ⟨?_, trivial, by omega⟩
    rw [PtF]
    exact ⟨trivial, fun h => absurd h.1 (by decide)⟩
  | a :: p, r, h => by
    simp only [List.length_cons] at h
    have ih := wrapF_pt (inn := inn) (b := b) hi (p := p) (r := r) (by omega)
    have h1 := put_wrap inn b (a :: p) r
    have hs := wrapF_size (p ++ [r]) inn
    simp only [List.length_append, List.length_singleton] at hs
    simp only [wrapF, List.cons_append] at h1 ⊢
    rw [PtL, h1]
    refine ⟨?_, trivial, by simp only [fszs, fsz, hs]; omega⟩
    rw [PtF]
    exact ⟨ih, fun h => absurd h.1 (by decide)⟩
/-! ### Counted -/
def cw (g : Gram) (v : Int) : Int := min ((ways g v).length : Int) 161
def GOk (g : Gram) (gv : List Int) : Prop := gv.length = g.vars.toNat ∧ ∀ (k : Nat) (h : k < gv.length), gv[k] = -1 ∨ gv[k] = cw g k
theorem GOk.set {g : Gram} {gv : List Int} (h : GOk g gv) (k : Nat) : GOk g (gv.set k (cw g k)) := by
  refine ⟨by rw [List.length_set]; exact h.1, fun j hj => ?_⟩
  rw [List.getElem_set]
  split
  · rename_i e; subst e; exact .inr rfl
  · exact h.2 j _
def ruleW (g : Gram) (v : Int) (w : List Int) : Rule := ⟨v, rightAt g (lastW w)⟩
theorem lastW_cons (i : Int) {w : List Int} (h : w ≠ []) : lastW (i :: w) = lastW w := by
  cases w with
  | nil => exact absurd rfl h
  | cons a b => simp [lastW]
theorem wayOf_ne {g : Gram} {i : Int} {w : List Int} (h : w ∈ wayOf g i) : w ≠ [] := by
  unfold wayOf at h
  split at h
  · rw [List.mem_singleton] at h; subst h; simp
  · obtain ⟨x, _, rfl⟩ := List.mem_map.1 h; simp
end Go.Proofs.Ytkfeccbahpmadaa
