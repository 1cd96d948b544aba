/-
  Templates put into templates, plain. Short, plain: the rules that a nonterminal gives, by rules that are one nonterminal alone. Sim: templates put into templates: moved, gaps, put, Own, Plug.
-/
import Derived.Test.YticnpbopelgmiaaP1
import Derived.Test.YticnpbopelgmiaaQRank
import Derived.Test.YticnpbopelgmiaaQTreeA
set_option linter.unusedVariables false
set_option linter.unusedSimpArgs false
set_option linter.unusedSectionVars false
namespace Go.Proofs.Yticnpbopelgmiaa
open Go.RowKit

/-- The number of a hole that is moved. -/
def mvN (o n over by_ : Int) : Int := if (o = 2 ∨ o = 4) ∧ over < n then n + by_ else n
mutual
def movF (over by_ : Int) : Frag → Frag
  | .mk o n l => .mk o (mvN o n over by_) (movL over by_ l)
def movL (over by_ : Int) : List Frag → List Frag
  | [] => []
  | x :: r => movF over by_ x :: movL over by_ r
end
mutual
def gpF (w : List Frag) : Frag → List Frag
  | .mk o n l => if o = 3 then w else [.mk o n (gpL w l)]
def gpL (w : List Frag) : List Frag → List Frag
  | [] => []
  | x :: r => gpF w x ++ gpL w r
end
mutual
def ptF (k : Int) (inn : List Frag) (by_ : Int) : Frag → List Frag
  | .mk o n l => if o = 2 ∧ n = k then inn else if o = 4 ∧ n = k then gpL (ptL k inn by_ l) inn else [.mk o (mvN o n k by_) (ptL k inn by_ l)]
def ptL (k : Int) (inn : List Frag) (by_ : Int) : List Frag → List Frag
  | [] => []
  | x :: r => ptF k inn by_ x ++ ptL k inn by_ r
end
def plugL (l : List Frag) (k : Int) (inn : List Frag) (n : Int) : List Frag := ptL k (movL (-1) k inn) (n - 1) l
theorem movF_eq (o b : Int) (x : Frag) : movF o b x = .mk x.op (mvN x.op x.n o b) (movL o b x.l) := by cases x; rw [movF]; rfl
theorem gpF_eq (w : List Frag) (x : Frag) : gpF w x = if x.op = 3 then w else [.mk x.op x.n (gpL w x.l)] := by cases x; rw [gpF]; rfl
theorem ptF_eq (k : Int) (inn : List Frag) (b : Int) (x : Frag) : ptF k inn b x = if x.op = 2 ∧ x.n = k then inn else if x.op = 4 ∧ x.n = k then gpL (ptL k inn b x.l) inn else [.mk x.op (mvN x.op x.n k b) (ptL k inn b x.l)] := by cases x; rw [ptF]; rfl
theorem movL_append (o b : Int) : ∀ (x y : List Frag), movL o b (x ++ y) = movL o b x ++ movL o b y
  | [], y => rfl
  | a :: x, y => by simp only [List.cons_append, movL, movL_append o b x y]
theorem gpL_append (w : List Frag) : ∀ (x y : List Frag), gpL w (x ++ y) = gpL w x ++ gpL w y
  | [], y => rfl
  | a :: x, y => by simp only [List.cons_append, gpL, gpL_append w x y, List.append_assoc]
theorem ptL_append (k : Int) (inn : List Frag) (b : Int) : ∀ (x y : List Frag), ptL k inn b (x ++ y) = ptL k inn b x ++ ptL k inn b y
  | [], y => rfl
  | a :: x, y => by simp only [List.cons_append, ptL, ptL_append k inn b x y, List.append_assoc]
theorem movL_take {o b : Int} {l : List Frag} {i : Nat} (h : i < l.length) : movL o b (l.take (i + 1)) = movL o b (l.take i) ++ [movF o b l[i]] := by
  rw [List.take_succ_eq_append_getElem h, movL_append]; simp [movL]
theorem gpL_take {w : List Frag} {l : List Frag} {i : Nat} (h : i < l.length) : gpL w (l.take (i + 1)) = gpL w (l.take i) ++ gpF w l[i] := by
  rw [List.take_succ_eq_append_getElem h, gpL_append]; simp [gpL]
theorem ptL_take {k : Int} {inn : List Frag} {b : Int} {l : List Frag} {i : Nat} (h : i < l.length) : ptL k inn b (l.take (i + 1)) = ptL k inn b (l.take i) ++ ptF k inn b l[i] := by
  rw [List.take_succ_eq_append_getElem h, ptL_append]; simp [ptL]
theorem movL_len (o b : Int) : ∀ l : List Frag, (movL o b l).length = l.length
  | [] => rfl
  | x :: l => by simp [movL, movL_len o b l]
mutual
theorem movF_size (o b : Int) : ∀ x : Frag, fsz (movF o b x) = fsz x
  | .mk _ _ l => by rw [movF, fsz, fsz, movL_size o b l]
theorem movL_size (o b : Int) : ∀ l : List Frag, fszs (movL o b l) = fszs l
  | [] => rfl
  | x :: l => by rw [movL, fszs, fszs, movF_size o b x, movL_size o b l]
end
mutual
theorem movF_zero (o : Int) : ∀ x : Frag, movF o 0 x = x
  | .mk a n l => by
    rw [movF, movL_zero o l, mvN]
    split <;> simp
theorem movL_zero (o : Int) : ∀ l : List Frag, movL o 0 l = l
  | [] => rfl
  | x :: l => by rw [movL, movF_zero o x, movL_zero o l]
end
mutual
theorem gpF_size (w : List Frag) : ∀ x : Frag, fszs (gpF w x) ≤ fsz x * (1 + fszs w)
  | .mk o n l => by
    have h := gpL_size w l
    rw [gpF, fsz, Nat.add_mul]
    split
    · omega
    · simp only [fszs, fsz]; omega
theorem gpL_size (w : List Frag) : ∀ l : List Frag, fszs (gpL w l) ≤ fszs l * (1 + fszs w)
  | [] => by simp [gpL, fszs]
  | x :: l => by
    have h1 := gpF_size w x
    have h2 := gpL_size w l
    rw [gpL, fszs_append, fszs, Nat.add_mul]; omega
end
/-! ### Numbers that are not too great -/
mutual
def NbF (B : Int) : Frag → Prop
  | .mk _ n l => (-B ≤ n ∧ n ≤ B) ∧ NbL B l
def NbL (B : Int) : List Frag → Prop
  | [] => True
  | x :: r => NbF B x ∧ NbL B r
end
theorem NbF_eq {B : Int} {x : Frag} (h : NbF B x) : (-B ≤ x.n ∧ x.n ≤ B) ∧ NbL B x.l := by cases x; exact h
theorem NbL_mem {B : Int} {x : Frag} : ∀ {l : List Frag}, NbL B l → x ∈ l → NbF B x
  | y :: l, h, hm => by
    rcases List.mem_cons.1 hm with rfl | hm
    · exact h.1
    · exact NbL_mem h.2 hm
/-! ### All that comes in between is not too great -/
mutual
def PtF (k : Int) (inn : List Frag) (b : Int) : Frag → Prop
  | .mk o n l => PtL k inn b l ∧ (o = 4 ∧ n = k → fszs inn * (1 + fszs (ptL k inn b l)) ≤ 100000000)
def PtL (k : Int) (inn : List Frag) (b : Int) : List Frag → Prop
  | [] => True
  | x :: r => PtF k inn b x ∧ PtL k inn b r ∧ fszs (ptL k inn b (x :: r)) ≤ 100000000
end
theorem PtF_eq {k : Int} {inn : List Frag} {b : Int} {x : Frag} (h : PtF k inn b x) : PtL k inn b x.l ∧ (x.op = 4 ∧ x.n = k → fszs inn * (1 + fszs (ptL k inn b x.l)) ≤ 100000000) := by
  cases x; rw [PtF] at h; exact h
theorem PtL_mem {k : Int} {inn : List Frag} {b : Int} {x : Frag} : ∀ {l : List Frag}, PtL k inn b l → x ∈ l → PtF k inn b x
  | y :: l, h, hm => by
    rw [PtL] at h
    rcases List.mem_cons.1 hm with rfl | hm
    · exact h.1
    · exact PtL_mem h.2.1 hm
theorem PtL_size {k : Int} {inn : List Frag} {b : Int} : ∀ {l : List Frag}, PtL k inn b l → fszs (ptL k inn b l) ≤ 100000000
  | [], _ => by simp [ptL, fszs]
  | x :: l, h => by rw [PtL] at h; exact h.2.2
end Go.Proofs.Yticnpbopelgmiaa
namespace Go.Proofs.Yticnpbopelgmiaa
open Go.RowKit

/-- The nonterminal that a rule is alone; -1: it is none. -/
def unitOf (right : List Int) : Int := if right.length = 1 then (if 0 ≤ right.getD 0 0 then right.getD 0 0 else -1) else -1
theorem unitOf_ge (r : List Int) : -1 ≤ unitOf r := by
  unfold unitOf
  split
  · split <;> omega
  · omega
theorem unit_step {g : Gram} {v i : Int} (hi : i ∈ by_ g v) (hu : 0 ≤ unitOf (rightAt g i)) : unitOf (rightAt g i) ∈ stepA g v := by
  unfold stepA stepsOf overBy
  refine List.mem_flatMap.2 ⟨i, hi, ?_⟩
  generalize rightAt g i = r at *
  unfold unitOf at hu ⊢
  by_cases h1 : r.length = 1
  · rw [if_pos h1] at hu ⊢
    by_cases h0 : 0 ≤ r.getD 0 0
    · rw [if_pos h0]
      unfold picksAll
      refine picks_mem.2 ⟨0, by omega, ?_, rfl⟩
      unfold pickAt
      have hd : r.drop (0 + 1) = [] := List.drop_of_length_le (by omega)
      rw [hd, List.take_zero, decide_eq_true h0]
      rfl
    · rw [if_neg h0] at hu; omega
  · rw [if_neg h1] at hu; omega
def wys (g : Gram) : Nat → Int → List (List Int)
  | 0, _ => []
  | n + 1, v => (by_ g v).flatMap fun i => if unitOf (rightAt g i) < 0 then [[i]] else (wys g n (unitOf (rightAt g i))).map (i :: ·)
/-- From a nonterminal down rules that are one nonterminal alone, to one that is none. -/
def ways (g : Gram) (v : Int) : List (List Int) := wys g (rnk g v + 1) v
def wayOf (g : Gram) (i : Int) : List (List Int) := if unitOf (rightAt g i) < 0 then [[i]] else (ways g (unitOf (rightAt g i))).map (i :: ·)
section
variable {g : Gram} (hg : g.ok) (hc : cycL g = [])
include hg hc
theorem wys_eq : ∀ (n : Nat) (v : Int), 0 ≤ v → v < g.vars → rnk g v < n → wys g n v = wys g (rnk g v + 1) v := by
  intro n
  induction n using Nat.strongRecOn with
  | _ n ih =>
  intro v h0 h1 hn
  obtain ⟨n, rfl⟩ : ∃ m, n = m + 1 := ⟨n - 1, by omega⟩
  rw [wys, wys]
  have key : ∀ i ∈ by_ g v, (if unitOf (rightAt g i) < 0 then [[i]] else (wys g n (unitOf (rightAt g i))).map (i :: ·)) = (if unitOf (rightAt g i) < 0 then [[i]] else (wys g (rnk g v) (unitOf (rightAt g i))).map (i :: ·)) := fun i hi => by
    by_cases hu : unitOf (rightAt g i) < 0
    · rw [if_pos hu, if_pos hu]
    · have hs := unit_step hi (by omega)
      obtain ⟨u0, u1⟩ := step_in hg h0 h1 hs
      have hr := rnk_lt hg hc h0 h1 hs
      rw [if_neg hu, if_neg hu, ih n (by omega) _ u0 u1 (by omega)]
      by_cases he : rnk g v < n + 1
      · rw [ih (rnk g v) (by omega) _ u0 u1 (by omega)]
      · omega
  rw [List.flatMap_def, List.flatMap_def, List.map_congr_left key]
theorem ways_eq {v : Int} (h0 : 0 ≤ v) (h1 : v < g.vars) : ways g v = (by_ g v).flatMap (wayOf g) := by
  unfold ways
  rw [wys]
  have key : ∀ i ∈ by_ g v, (if unitOf (rightAt g i) < 0 then [[i]] else (wys g (rnk g v) (unitOf (rightAt g i))).map (i :: ·)) = wayOf g i := fun i hi => by
    unfold wayOf ways
    by_cases hu : unitOf (rightAt g i) < 0
    · rw [if_pos hu, if_pos hu]
    · have hs := unit_step hi (by omega)
      obtain ⟨u0, u1⟩ := step_in hg h0 h1 hs
      have hr := rnk_lt hg hc h0 h1 hs
      rw [if_neg hu, if_neg hu, wys_eq hg hc (rnk g v) _ u0 u1 hr]
  rw [List.flatMap_def, List.flatMap_def, List.map_congr_left key]
end
/-! ### Templates -/
def kN (g : Gram) (i : Int) : Nat := (kids (rightAt g i)).length
def wayF (g : Gram) : List Int → List Frag
  | [] => []
  | [r] => nodeF r (kN g r)
  | r :: r2 :: rest => [.mk 1 r (wayF g (r2 :: rest))]
def lastW (w : List Int) : Int := w.getLastD 0
def wrapF : List Int → List Frag → List Frag
  | [], l => l
  | r :: p, l => [.mk 1 r (wrapF p l)]
theorem wrapF_snoc : ∀ (p : List Int) (r : Int) (l : List Frag), wrapF (p ++ [r]) l = wrapF p [.mk 1 r l]
  | [], r, l => rfl
  | a :: p, r, l => by simp only [List.cons_append, wrapF, wrapF_snoc p r l]
theorem wayF_cons (g : Gram) (r : Int) {w : List Int} (h : w ≠ []) : wayF g (r :: w) = [.mk 1 r (wayF g w)] := by
  cases w with
  | nil => exact absurd rfl h
  | cons a b => rw [wayF]
theorem wrapF_size : ∀ (p : List Int) (l : List Frag), fszs (wrapF p l) = p.length + fszs l
  | [], l => by simp [wrapF]
  | r :: p, l => by simp only [wrapF, fszs, fsz, wrapF_size p l, List.length_cons]; omega
theorem fszs_holes : ∀ (k : Nat), fszs (holes k) = k
  | 0 => rfl
  | k + 1 => by
    unfold holes at *
    rw [List.range_succ, List.map_append, fszs_append]
    have := fszs_holes k
    unfold holes at this
    rw [this]
    simp [fszs, fsz]
theorem nodeF_size (r : Int) (k : Nat) : fszs (nodeF r k) = 1 + k := by simp [nodeF, fszs, fsz, fszs_holes]
theorem kN_unit {g : Gram} {i : Int} (hu : 0 ≤ unitOf (rightAt g i)) : kN g i = 1 := by
  unfold kN
  generalize rightAt g i = r at *
  unfold unitOf at hu
  by_cases h1 : r.length = 1
  · rw [if_pos h1] at hu
    match r, h1 with
    | [x], _ =>
      by_cases h0 : 0 ≤ x
      · simp [kids, h0]
      · simp [h0] at hu
  · rw [if_neg h1] at hu; omega
/-- A hole is filled. -/
theorem put_wrap (inn : List Frag) (b : Int) : ∀ (p : List Int) (r : Int), ptL 0 inn b (wrapF p (nodeF r 1)) = wrapF (p ++ [r]) inn
  | [], r => by
    simp [wrapF, nodeF, holes, ptL, ptF, mvN]
  | a :: p, r => by
    simp only [List.cons_append, wrapF, ptL, ptF, put_wrap inn b p r]
    simp [mvN]
theorem plug_wrap (p : List Int) (r k : Int) (n : Nat) : plugL (wrapF p (nodeF r 1)) 0 (nodeF k n) n = wrapF (p ++ [r]) (nodeF k n) := by
  unfold plugL
  rw [movL_zero, put_wrap]
theorem NbL_append {B : Int} : ∀ {a b : List Frag}, NbL B a → NbL B b → NbL B (a ++ b)
  | [], _, _, h => h
  | x :: a, b, h, h2 => ⟨h.1, NbL_append h.2 h2⟩
theorem holes_nb {B : Int} : ∀ (k : Nat), (k : Int) ≤ B → NbL B (holes k)
  | 0, _ => trivial
  | k + 1, h => by
    have ih := holes_nb (B := B) k (by omega)
    unfold holes at *
    rw [List.range_succ, List.map_append]
    refine NbL_append ih ?_
    simp only [List.map_cons, List.map_nil, NbL, NbF, and_true]
    omega
theorem nodeF_nb {B r : Int} {k : Nat} (h0 : 0 ≤ r) (h1 : r ≤ B) (hk : (k : Int) ≤ B) : NbL B (nodeF r k) := by
  simp only [nodeF, NbL, NbF, and_true]
  exact ⟨by omega, holes_nb k hk⟩
theorem wrapF_nb {B : Int} {l : List Frag} (hl : NbL B l) : ∀ {p : List Int}, (∀ x ∈ p, 0 ≤ x ∧ x ≤ B) → NbL B (wrapF p l)
  | [], _ => hl
  | r :: p, h => by
    have h1 := h r (by simp)
    simp only [wrapF, NbL, NbF, and_true]
    exact ⟨by omega, wrapF_nb hl (fun x hx => h x (by simp [hx]))⟩
theorem wrapF_pt {inn : List Frag} {b : Int} (hi : fszs inn ≤ 1000000) : ∀ {p : List Int} {r : Int}, p.length ≤ 1000000 → PtL 0 inn b (wrapF p (nodeF r 1))
  | [], r, _ => by
    have h1 : ptL 0 inn b (nodeF r 1) = [.mk 1 r inn] := put_wrap inn b [] r
    have h2 : ptL 0 inn b (holes 1) = inn := by simp [holes, ptL, ptF]
    have h3 : nodeF r 1 = [.mk 1 r (holes 1)] := rfl
    simp only [wrapF]
    rw [h3, PtL, ← h3, h1]
    refine ⟨?_, trivial, by simp only [fszs, fsz]; omega⟩
    rw [PtF]
    refine ⟨?_, fun h => absurd h.1 (by decide)⟩
    have h4 : holes 1 = [.mk 2 0 []] := rfl
    rw [h4] at h2 ⊢
    rw [PtL, h2]
    refine ⟨?_, trivial, by omega⟩
    rw [PtF]
    exact ⟨trivial, fun h => absurd h.1 (by decide)⟩
  | a :: p, r, h => by
    simp only [List.length_cons] at h
    have ih := wrapF_pt (inn := inn) (b := b) hi (p := p) (r := r) (by omega)
    have h1 := put_wrap inn b (a :: p) r
    have hs := wrapF_size (p ++ [r]) inn
    simp only [List.length_append, List.length_singleton] at hs
    simp only [wrapF, List.cons_append] at h1 ⊢
    rw [PtL, h1]
    refine ⟨?_, trivial, by simp only [fszs, fsz, hs]; omega⟩
    rw [PtF]
    exact ⟨ih, fun h => absurd h.1 (by decide)⟩
/-! ### Counted -/
def cw (g : Gram) (v : Int) : Int := min ((ways g v).length : Int) 161
def GOk (g : Gram) (gv : List Int) : Prop := gv.length = g.vars.toNat ∧ ∀ (k : Nat) (h : k < gv.length), gv[k] = -1 ∨ gv[k] = cw g k
theorem GOk.set {g : Gram} {gv : List Int} (h : GOk g gv) (k : Nat) : GOk g (gv.set k (cw g k)) := by
  refine ⟨by rw [List.length_set]; exact h.1, fun j hj => ?_⟩
  rw [List.getElem_set]
  split
  · rename_i e; subst e; exact .inr rfl
  · exact h.2 j _
def ruleW (g : Gram) (v : Int) (w : List Int) : Rule := ⟨v, rightAt g (lastW w)⟩
theorem lastW_cons (i : Int) {w : List Int} (h : w ≠ []) : lastW (i :: w) = lastW w := by
  cases w with
  | nil => exact absurd rfl h
  | cons a b => simp [lastW]
theorem wayOf_ne {g : Gram} {i : Int} {w : List Int} (h : w ∈ wayOf g i) : w ≠ [] := by
  unfold wayOf at h
  split at h
  · rw [List.mem_singleton] at h; subst h; simp
  · obtain ⟨x, _, rfl⟩ := List.mem_map.1 h; simp
end Go.Proofs.Yticnpbopelgmiaa
namespace Go.Proofs.Yticnpbopelgmiaa
open Go.RowKit
set_option maxRecDepth 100000
-- SimX

set_option maxHeartbeats 4000000 in
theorem moved_gen : ∀ (N : Nat) {t : Bool} {l : List Frag} {o b : Int}, fszs l < N → fszs l ≤ 100000000 → NbL 1000000000 l → -1000000000 ≤ b → b ≤ 1000000000 → ACalls Try.prog 115 [.d (fragsD t l), I o, I b] [] (.d (fragsD false (movL o b l))) [] := by
  intro N
  induction N with
  | zero => intro t l o b h; omega
  | succ N ih =>
  intro t l o b hn hN hB hb0 hb1
  have hl := Nat.le_trans (fszs_len l) hN
  refine ACalls.intro (n := 52) Try.func115 rfl rfl (by simp) (by rfl) ?_
  simp only [argFr]
  repeat (first | refine wk ?_ | refine s_field (hr := ?_))
  refine aw_nil 7 900 67 3 rfl rfl rfl ?_
  refine t_loop (X := Nat) (fun i => i ≤ l.length) (fun i => [(13, I i), (12, I l.length), (11, .d (fragsD t l)), (7, .own 900 (movL o b (l.take i)).length), (1, I o), (2, I b)]) (fun i => [(900, .row 67 3 ((movL o b (l.take i)).map (fragD false)))]) (fun i => l.length - i) 0 (Nat.zero_le _) ?_
  intro i h1
  by_cases hlt : i < l.length
  · have e1 := movL_take (o := o) (b := b) hlt
    have e2 := movF_eq o b l[i]
    have e3 := fszs_mem (List.getElem_mem hlt)
    have e4 := fsz_eq l[i]
    have hm := movL_len o b (l.take i)
    obtain ⟨⟨n0, n1⟩, hB2⟩ := NbF_eq (NbL_mem hB (List.getElem_mem hlt))
    have hih := ih (t := t) (l := l[i].l) (o := o) (b := b) (by omega) (by omega) hB2 hb0 hb1
    have e : (movL o b (l.take i)).map (fragD false) ++ [D.agg [iD l[i].op, iD (mvN l[i].op l[i].n o b), fragsD false (movL o b l[i].l)]] = (movL o b (l.take (i + 1))).map (fragD false) := by rw [e1, e2, List.map_append]; simp only [List.map_cons, List.map_nil, fragA_eq]; rfl
    have hlen : (movL o b (l.take i)).length ≤ 100000000 := by rw [hm, List.length_take]; omega
    by_cases hop : l[i].op = 2 ∨ l[i].op = 4
    · by_cases hov : o < l[i].n
      · rw [show mvN l[i].op l[i].n o b = l[i].n + b from if_pos ⟨hop, hov⟩] at e
        replace e : (movL o b (l.take i)).map (fragD false) ++ [D.agg [iD l[i].op, .raw (.int .i64 (l[i].n + b)), fragsD false (movL o b l[i].l)]] = (movL o b (l.take (i + 1))).map (fragD false) := e
        rcases hop with hop | hop
        · repeat (first | refine wk ?_ | refine s_field (hr := ?_))
          refine s_call [] (hA := hih) (hr := ?_)
          repeat (first | refine wk ?_ | refine s_field (hr := ?_))
          rw [e, List.length_map]
          exact t_next (i + 1)
        · repeat (first | refine wk ?_ | refine s_field (hr := ?_))
          refine s_call [] (hA := hih) (hr := ?_)
          repeat (first | refine wk ?_ | refine s_field (hr := ?_))
          rw [e, List.length_map]
          exact t_next (i + 1)
      · rw [show mvN l[i].op l[i].n o b = l[i].n from if_neg (fun h => hov h.2)] at e
        rcases hop with hop | hop
        · repeat (first | refine wk ?_ | refine s_field (hr := ?_))
          refine s_call [] (hA := hih) (hr := ?_)
          repeat (first | refine wk ?_ | refine s_field (hr := ?_))
          rw [e, List.length_map]
          exact t_next (i + 1)
        · repeat (first | refine wk ?_ | refine s_field (hr := ?_))
          refine s_call [] (hA := hih) (hr := ?_)
          repeat (first | refine wk ?_ | refine s_field (hr := ?_))
          rw [e, List.length_map]
          exact t_next (i + 1)
    · rw [show mvN l[i].op l[i].n o b = l[i].n from if_neg (fun h => hop h.1)] at e
      have h2 : ¬ l[i].op = 2 := fun h => hop (.inl h)
      have h4 : ¬ l[i].op = 4 := fun h => hop (.inr h)
      repeat (first | refine wk ?_ | refine s_field (hr := ?_))
      refine s_call [] (hA := hih) (hr := ?_)
      repeat (first | refine wk ?_ | refine s_field (hr := ?_))
      --@
      (repeat (first | refine wkz ?_ | refine s_field (hr := ?_)))
      repeat (first | refine wk ?_ | refine s_field (hr := ?_))
      rw [e, List.length_map]
      exact t_next (i + 1)
  · rw [show l.take i = l from List.take_of_length_le (by omega)]
    refine aw_froz 900 rfl ?_
    repeat (first | refine wk ?_ | refine s_field (hr := ?_))
    exact fin
set_option maxHeartbeats 4000000 in
theorem gaps_gen : ∀ (N : Nat) {t u : Bool} {l w : List Frag}, fszs l < N → fszs l * (1 + fszs w) ≤ 100000000 → ACalls Try.prog 172 [.d (fragsD false l), .d (fragsD false w)] [] (.d (fragsD false (gpL w l))) [] := by
  intro N
  induction N with
  | zero => intro t u l w h; omega
  | succ N ih =>
  intro t u l w hn hN
  have hcl : fszs l ≤ fszs l * (1 + fszs w) := Nat.le_mul_of_pos_right _ (by omega)
  have hl := Nat.le_trans (fszs_len l) (Nat.le_trans hcl hN)
  refine ACalls.intro (n := 34) Try.func172 rfl rfl (by simp) (by rfl) ?_
  simp only [argFr]
  repeat (first | refine wk ?_ | refine s_field (hr := ?_))
  refine aw_nil 5 900 67 3 rfl rfl rfl ?_
  refine t_loop (X := Nat) (fun i => i ≤ l.length) (fun i => [(10, I i), (9, I l.length), (8, .d (fragsD false l)), (5, .own 900 (gpL w (l.take i)).length), (1, .d (fragsD false w))]) (fun i => [(900, .row 67 3 ((gpL w (l.take i)).map (fragD false)))]) (fun i => l.length - i) 0 (Nat.zero_le _) ?_
  intro i h1
  by_cases hlt : i < l.length
  · have e1 := gpL_take (w := w) hlt
    have e2 := gpF_eq w l[i]
    have e3 := fszs_mem (List.getElem_mem hlt)
    have e4 := fsz_eq l[i]
    have e5 := Nat.le_trans (fszs_len _) (gpL_size w (l.take (i + 1)))
    have e6 : fszs (l.take (i + 1)) ≤ fszs l := by have := fszs_split l (i + 1); omega
    have e7 := Nat.le_trans e5 (Nat.mul_le_mul_right (1 + fszs w) e6)
    have e8 := congrArg List.length e1
    rw [List.length_append] at e8
    by_cases hr : l[i].op = 3
    · rw [if_pos hr] at e2
      rw [e2] at e1 e8
      have e := congrArg (List.map (fragD false)) e1
      rw [List.map_append] at e
      repeat (first | refine wk ?_ | refine s_field (hr := ?_))
      exact t_next (i + 1)
    · rw [if_neg hr] at e2
      rw [e2] at e1 e8
      have e : (gpL w (l.take i)).map (fragD false) ++ [D.agg [iD l[i].op, iD l[i].n, fragsD false (gpL w l[i].l)]] = (gpL w (l.take (i + 1))).map (fragD false) := by rw [e1, List.map_append]; simp only [List.map_cons, List.map_nil, fragA_eq]; rfl
      have hk := Nat.mul_le_mul_right (1 + fszs w) (show fszs l[i].l ≤ fszs l by omega)
      repeat (first | refine wk ?_ | refine s_field (hr := ?_))
      refine s_call [] (hA := ih (t := false) (u := false) (l := l[i].l) (w := w) (by omega) (by omega)) (hr := ?_)
      repeat (first | refine wk ?_ | refine s_field (hr := ?_))
      rw [e, List.length_map]
      exact t_next (i + 1)
  · rw [show l.take i = l from List.take_of_length_le (by omega)]
    refine aw_froz 900 rfl ?_
    repeat (first | refine wk ?_ | refine s_field (hr := ?_))
    exact fin
set_option maxHeartbeats 8000000 in
theorem put_gen : ∀ (N : Nat) {l inn : List Frag} {k b : Int}, fszs l < N → fszs l ≤ 100000000 → PtL k inn b l → NbL 1000000000 l → -1000000000 ≤ b → b ≤ 1000000000 → fszs inn ≤ 100000000 →
    ∀ t, ACalls Try.prog 157 [.d (fragsD t l), I k, .d (fragsD false inn), I b] [] (.d (fragsD false (ptL k inn b l))) [] := by
  intro N
  induction N with
  | zero => intro l inn k b h; omega
  | succ N ih =>
  intro l inn k b hn hN hP hB hb0 hb1 hi t
  have hl := Nat.le_trans (fszs_len l) hN
  have hil := Nat.le_trans (fszs_len inn) hi
  have hsz := PtL_size hP
  have hpl := Nat.le_trans (fszs_len _) hsz
  refine ACalls.intro (n := 87) Try.func157 rfl rfl (by simp) (by rfl) ?_
  simp only [argFr]
  repeat (first | refine wk ?_ | refine s_field (hr := ?_))
  refine aw_nil 9 900 67 3 rfl rfl rfl ?_
  refine t_loop (X := Nat) (fun i => i ≤ l.length) (fun i => [(16, I i), (15, I l.length), (14, .d (fragsD t l)), (9, .own 900 (ptL k inn b (l.take i)).length), (1, I k), (2, .d (fragsD false inn)), (3, I b)]) (fun i => [(900, .row 67 3 ((ptL k inn b (l.take i)).map (fragD false)))]) (fun i => l.length - i) 0 (Nat.zero_le _) ?_
  intro i h1
  by_cases hlt : i < l.length
  · have e1 := ptL_take (k := k) (inn := inn) (b := b) hlt
    have e2 := ptF_eq k inn b l[i]
    have e3 := fszs_mem (List.getElem_mem hlt)
    have e4 := fsz_eq l[i]
    obtain ⟨⟨n0, n1⟩, hB2⟩ := NbF_eq (NbL_mem hB (List.getElem_mem hlt))
    obtain ⟨p1, p2⟩ := PtF_eq (PtL_mem hP (List.getElem_mem hlt))
    have hih := ih (l := l[i].l) (inn := inn) (k := k) (b := b) (by omega) (by omega) p1 hB2 hb0 hb1 hi t
    have hlen : (ptL k inn b (l.take (i + 1))).length ≤ 100000000 := by
      have := congrArg List.length (ptL_append k inn b (l.take (i + 1)) (l.drop (i + 1)))
      rw [List.take_append_drop, List.length_append] at this
      omega
    have e8 := congrArg List.length e1
    rw [List.length_append] at e8
    by_cases h2 : l[i].op = 2
    · have h4 : ¬ l[i].op = 4 := by omega
      by_cases hk : l[i].n = k
      · rw [if_pos ⟨h2, hk⟩] at e2
        rw [e2] at e1 e8
        have e := congrArg (List.map (fragD false)) e1
        rw [List.map_append] at e
        repeat (first | refine wk ?_ | refine s_field (hr := ?_))
        refine s_call [] (hA := hih) (hr := ?_)
        repeat (first | refine wk ?_ | refine s_field (hr := ?_))
        exact t_next (i + 1)
      · rw [if_neg (fun h => hk h.2), if_neg (fun h => hk h.2)] at e2
        rw [e2] at e1 e8
        by_cases hov : k < l[i].n
        · have e : (ptL k inn b (l.take i)).map (fragD false) ++ [D.agg [iD l[i].op, .raw (.int .i64 (l[i].n + b)), fragsD false (ptL k inn b l[i].l)]] = (ptL k inn b (l.take (i + 1))).map (fragD false) := by
            rw [e1, List.map_append, show mvN l[i].op l[i].n k b = l[i].n + b from if_pos ⟨.inl h2, hov⟩]; simp only [List.map_cons, List.map_nil, fragA_eq]; rfl
          repeat (first | refine wk ?_ | refine s_field (hr := ?_))
          refine s_call [] (hA := hih) (hr := ?_)
          repeat (first | refine wk ?_ | refine s_field (hr := ?_))
          rw [e, List.length_map]
          exact t_next (i + 1)
        · have e : (ptL k inn b (l.take i)).map (fragD false) ++ [D.agg [iD l[i].op, iD l[i].n, fragsD false (ptL k inn b l[i].l)]] = (ptL k inn b (l.take (i + 1))).map (fragD false) := by
            rw [e1, List.map_append, show mvN l[i].op l[i].n k b = l[i].n from if_neg (fun h => hov h.2)]; simp only [List.map_cons, List.map_nil, fragA_eq]; rfl
          repeat (first | refine wk ?_ | refine s_field (hr := ?_))
          refine s_call [] (hA := hih) (hr := ?_)
          repeat (first | refine wk ?_ | refine s_field (hr := ?_))
          rw [e, List.length_map]
          exact t_next (i + 1)
    · by_cases h4 : l[i].op = 4
      · by_cases hk : l[i].n = k
        · rw [if_neg (fun h => h2 h.1), if_pos ⟨h4, hk⟩] at e2
          rw [e2] at e1 e8
          have e := congrArg (List.map (fragD false)) e1
          rw [List.map_append] at e
          have hg := gaps_gen _ (t := false) (u := false) (l := inn) (w := ptL k inn b l[i].l) (Nat.lt_succ_self _) (p2 ⟨h4, hk⟩)
          repeat (first | refine wk ?_ | refine s_field (hr := ?_))
          refine s_call [] (hA := hih) (hr := ?_)
          repeat (first | refine wk ?_ | refine s_field (hr := ?_))
          (repeat (first | refine wkz ?_ | refine s_field (hr := ?_)))
          repeat (first | refine wk ?_ | refine s_field (hr := ?_))
          refine s_call [] (hA := hg) (hr := ?_)
          repeat (first | refine wk ?_ | refine s_field (hr := ?_))
          exact t_next (i + 1)
        · rw [if_neg (fun h => h2 h.1), if_neg (fun h => hk h.2)] at e2
          rw [e2] at e1 e8
          by_cases hov : k < l[i].n
          · have e : (ptL k inn b (l.take i)).map (fragD false) ++ [D.agg [iD l[i].op, .raw (.int .i64 (l[i].n + b)), fragsD false (ptL k inn b l[i].l)]] = (ptL k inn b (l.take (i + 1))).map (fragD false) := by
              rw [e1, List.map_append, show mvN l[i].op l[i].n k b = l[i].n + b from if_pos ⟨.inr h4, hov⟩]; simp only [List.map_cons, List.map_nil, fragA_eq]; rfl
            repeat (first | refine wk ?_ | refine s_field (hr := ?_))
            refine s_call [] (hA := hih) (hr := ?_)
            repeat (first | refine wk ?_ | refine s_field (hr := ?_))
            (repeat (first | refine wkz ?_ | refine s_field (hr := ?_)))
            repeat (first | refine wk ?_ | refine s_field (hr := ?_))
            rw [e, List.length_map]
            exact t_next (i + 1)
          · have e : (ptL k inn b (l.take i)).map (fragD false) ++ [D.agg [iD l[i].op, iD l[i].n, fragsD false (ptL k inn b l[i].l)]] = (ptL k inn b (l.take (i + 1))).map (fragD false) := by
              rw [e1, List.map_append, show mvN l[i].op l[i].n k b = l[i].n from if_neg (fun h => hov h.2)]; simp only [List.map_cons, List.map_nil, fragA_eq]; rfl
            repeat (first | refine wk ?_ | refine s_field (hr := ?_))
            refine s_call [] (hA := hih) (hr := ?_)
            repeat (first | refine wk ?_ | refine s_field (hr := ?_))
            (repeat (first | refine wkz ?_ | refine s_field (hr := ?_)))
            repeat (first | refine wk ?_ | refine s_field (hr := ?_))
            rw [e, List.length_map]
            exact t_next (i + 1)
      · rw [if_neg (fun h => h2 h.1), if_neg (fun h => h4 h.1)] at e2
        rw [e2] at e1 e8
        have e : (ptL k inn b (l.take i)).map (fragD false) ++ [D.agg [iD l[i].op, iD l[i].n, fragsD false (ptL k inn b l[i].l)]] = (ptL k inn b (l.take (i + 1))).map (fragD false) := by
          rw [e1, List.map_append, show mvN l[i].op l[i].n k b = l[i].n from if_neg (fun h => by rcases h.1 with h | h; exact h2 h; exact h4 h)]; simp only [List.map_cons, List.map_nil, fragA_eq]; rfl
        repeat (first | refine wk ?_ | refine s_field (hr := ?_))
        refine s_call [] (hA := hih) (hr := ?_)
        repeat (first | refine wk ?_ | refine s_field (hr := ?_))
        (repeat (first | refine wkz ?_ | refine s_field (hr := ?_)))
        repeat (first | refine wk ?_ | refine s_field (hr := ?_))
        (repeat (first | refine wkz ?_ | refine s_field (hr := ?_)))
        repeat (first | refine wk ?_ | refine s_field (hr := ?_))
        rw [e, List.length_map]
        exact t_next (i + 1)
  · rw [show l.take i = l from List.take_of_length_le (by omega)]
    refine aw_froz 900 rfl ?_
    repeat (first | refine wk ?_ | refine s_field (hr := ?_))
    exact fin
theorem ownP_sim {t : Bool} {l : List Frag} (h1 : fszs l ≤ 100000000) (h2 : NbL 1000000000 l) : ACalls Try.prog 63 [.d (fragsD t l)] [] (.d (fragsD false l)) [] := by
  have hm := moved_gen _ (t := t) (l := l) (o := 0) (b := 0) (Nat.lt_succ_self _) h1 h2 (by decide) (by decide)
  rw [movL_zero] at hm
  refine ACalls.intro (n := 5) Try.func63 rfl rfl (by simp) (by rfl) ?_
  simp only [argFr]
  repeat (first | refine wk ?_ | refine s_field (hr := ?_))
  refine s_call [] (hA := hm) (hr := ?_)
  repeat (first | refine wk ?_ | refine s_field (hr := ?_))
  exact fin
theorem plug_sim {t u : Bool} {l inn : List Frag} {k n : Int} (h1 : fszs l ≤ 100000000) (h2 : fszs inn ≤ 100000000) (h3 : PtL k (movL (-1) k inn) (n - 1) l) (h4 : NbL 1000000000 l) (h5 : NbL 1000000000 inn) (h6 : NbL 1000000000 (plugL l k inn n)) (h7 : -1000000 ≤ k) (h8 : k ≤ 1000000) (h9 : -1000000 ≤ n) (h10 : n ≤ 1000000) :
    ACalls Try.prog 111 [.d (fragsD t l), I k, .d (fragsD u inn), I n] [] (.d (fragsD false (plugL l k inn n))) [] := by
  have m1 := moved_gen _ (t := u) (l := inn) (o := -1) (b := k) (Nat.lt_succ_self _) h2 h5 (by omega) (by omega)
  have m2 := put_gen _ (l := l) (inn := movL (-1) k inn) (k := k) (b := n - 1) (Nat.lt_succ_self _) h1 h3 h4 (by omega) (by omega) (by rw [movL_size]; exact h2) t
  have m3 := ownP_sim (t := false) (l := plugL l k inn n) (PtL_size h3) h6
  unfold plugL at m3 ⊢
  refine ACalls.intro (n := 18) Try.func111 rfl rfl (by simp) (by rfl) ?_
  simp only [argFr]
  repeat (first | refine wk ?_ | refine s_field (hr := ?_))
  refine s_call [] (hA := m1) (hr := ?_)
  repeat (first | refine wk ?_ | refine s_field (hr := ?_))
  refine s_call [] (hA := m2) (hr := ?_)
  repeat (first | refine wk ?_ | refine s_field (hr := ?_))
  refine s_call [] (hA := m3) (hr := ?_)
  repeat (first | refine wk ?_ | refine s_field (hr := ?_))
  exact fin
end Go.Proofs.Yticnpbopelgmiaa
