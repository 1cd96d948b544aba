/-
  Turn, plain: what comes of it is a step.
-/
import Derived.Test.YticnpbopelgmiaaTurnQ
import Derived.Test.YticnpbopelgmiaaF2
set_option linter.unusedVariables false
set_option linter.unusedSimpArgs false
set_option linter.unusedSectionVars false
namespace Go.Proofs.Yticnpbopelgmiaa
open Go.RowKit

/-! ### Each kid once, counted -/
theorem bump_get {u : List Int} {n : Int} (h0 : 0 ≤ n) (h1 : n < (u.length : Int)) (j : Nat) : (bump u n).getD j 0 = u.getD j 0 + (if (j : Int) = n then 1 else 0) := by
  unfold bump
  rw [List.getD_eq_getElem?_getD, List.getElem?_set]
  by_cases e : n.toNat = j
  · rw [if_pos e, if_pos (by omega), if_pos (by omega)]
    subst e
    rfl
  · rw [if_neg e, if_neg (by omega), ← List.getD_eq_getElem?_getD]; simp
theorem kd_count_cons (j n : Int) (l : List Int) : ((n :: l).count j : Int) = (if j = n then 1 else 0) + (l.count j : Int) := by
  rw [List.count_cons]
  by_cases e : n = j
  · subst e; simp; omega
  · have : ¬ j = n := fun q => e q.symm
    simp [e, this]
mutual
theorem us_kdF {m : Int} : ∀ (x : Frag) (u : List Int), wfF m x → (∀ n ∈ kdF x, 0 ≤ n ∧ n < (u.length : Int)) → (usF m x u).1 = true ∧ ∀ j : Nat, (usF m x u).2.getD j 0 = u.getD j 0 + ((kdF x).count (j : Int) : Int)
  | .mk o n l, u, h, hk => by
    rw [wfF] at h
    rw [usF]
    rcases h with ⟨rfl, h1, h2, hl⟩ | ⟨rfl, rfl⟩ | ⟨rfl, h1, rfl⟩ | ⟨rfl, hl⟩
    · have e : kdF (.mk 1 n l) = kdL l := by rw [kdF, if_pos rfl]
      rw [e] at hk ⊢
      rw [if_pos rfl, if_neg (by omega)]
      exact us_kdL l u hl hk
    · rw [kd_two] at hk ⊢
      have := hk n (by simp)
      rw [if_neg (by decide), if_pos rfl, if_neg (by omega)]
      refine ⟨rfl, fun j => ?_⟩
      rw [bump_get this.1 this.2, kd_count_cons]; simp
    · have e : kdF (.mk 3 n []) = [] := by rw [kdF, if_neg (by decide), if_neg (by decide), if_neg (by decide)]
      rw [e, if_neg (by decide), if_neg (by decide), if_neg (by decide), if_pos rfl]
      exact ⟨rfl, fun j => by simp⟩
    · have e : kdF (.mk 4 n l) = n :: kdL l := by rw [kdF, if_neg (by decide), if_neg (by decide), if_pos rfl]
      rw [e] at hk ⊢
      have hn := hk n (by simp)
      rw [if_neg (by decide), if_neg (by decide), if_pos rfl, if_neg (by omega)]
      obtain ⟨k1, k2⟩ := us_kdL l (bump u n) hl (fun x hx => by rw [bump_length]; exact hk x (by simp [hx]))
      refine ⟨k1, fun j => ?_⟩
      rw [k2 j, bump_get hn.1 hn.2, kd_count_cons]; omega
theorem us_kdL {m : Int} : ∀ (l : List Frag) (u : List Int), wfL m l → (∀ n ∈ kdL l, 0 ≤ n ∧ n < (u.length : Int)) → (usL m l u).1 = true ∧ ∀ j : Nat, (usL m l u).2.getD j 0 = u.getD j 0 + ((kdL l).count (j : Int) : Int)
  | [], u, _, _ => ⟨rfl, fun j => by simp [usL, kdL]⟩
  | x :: r, u, h, hk => by
    rw [kdL] at hk
    obtain ⟨a1, a2⟩ := us_kdF x u h.1 fun n hn => hk n (by simp [hn])
    obtain ⟨b1, b2⟩ := us_kdL r (usF m x u).2 h.2 fun n hn => by rw [usF_len]; exact hk n (by simp [hn])
    rw [usL, a1]
    refine ⟨b1, fun j => ?_⟩
    show (usL m r (usF m x u).2).2.getD j 0 = _
    rw [b2 j, a2 j, kdL, List.count_append]; omega
end
theorem count_one : ∀ (k j : Nat), j < k → (upTo k).count (j : Int) = 1
  | 0, j, h => by omega
  | k + 1, j, h => by
    rw [upTo_snoc, List.count_append]
    by_cases e : j = k
    · subst e
      have : (upTo j).count (j : Int) = 0 := List.count_eq_zero.2 fun q => by have := upTo_mem.1 q; omega
      rw [this]; simp
    · rw [count_one k j (by omega), List.count_cons_of_ne (by omega)]; simp
theorem ok_use {old : Gram} {l : List Frag} {right : List Int} (h : wfL old.rules.length l) (hk : (kdL l).Perm (upTo (kids right).length)) (hc : fszs l ≤ 60) : partFault old l right = 0 := by
  have hb : ∀ n ∈ kdL l, 0 ≤ n ∧ n < ((List.replicate (kids right).length (0 : Int)).length : Int) := fun n hn => by
    rw [List.length_replicate]
    exact upTo_mem.1 (hk.mem_iff.1 hn)
  obtain ⟨k1, k2⟩ := us_kdL (m := old.rules.length) l _ h hb
  have hcp := cpL_le l
  rw [partFault, if_neg (by omega), if_pos]
  unfold okUse
  rw [k1, Bool.true_and, List.all_eq_true]
  intro x hx
  obtain ⟨j, hj, rfl⟩ := List.mem_iff_getElem.1 hx
  have hlen := usL_len old.rules.length l (List.replicate (kids right).length 0)
  rw [List.length_replicate] at hlen
  have := k2 j
  rw [List.getD_eq_getElem?_getD, List.getElem?_eq_getElem hj, Option.getD_some] at this
  rw [this, hk.count_eq, List.getD_eq_getElem?_getD, List.getElem?_replicate, if_pos (by omega), Option.getD_some]
  have hcount : (upTo (kids right).length).count (j : Int) = 1 := by
    exact count_one _ _ (by omega)
  rw [hcount]; rfl

/-! ### What holds of a rule on the way -/
structure TOk (g : Gram) (B C N : Nat) (old : Bool) (x : Work) : Prop where
  wf : wfL g.rules.length x.l
  kd : (kdL x.l).Perm (upTo (kids x.right).length)
  sz : fszs x.l ≤ B
  rl : x.right.length ≤ C
  ne : old = true → x.right ≠ []
  nz : old = true → 0 ≤ hdI x.right → nzL x.l
  sym : ∀ s ∈ x.right, -g.terms ≤ s ∧ s < (N : Int)
theorem TOk.mono {g : Gram} {B C N B' C' N' : Nat} {old : Bool} {x : Work} (h : TOk g B C N old x) (h1 : B ≤ B') (h2 : C ≤ C') (h3 : N ≤ N') : TOk g B' C' N' old x :=
  ⟨h.wf, h.kd, Nat.le_trans h.sz h1, Nat.le_trans h.rl h2, h.ne, h.nz, fun s hs => by have := h.sym s hs; omega⟩
theorem TOk.small {g : Gram} {B C N : Nat} {old : Bool} {x : Work} (h : TOk g B C N old x) (B' C' : Nat) (h1 : fszs x.l ≤ B') (h2 : x.right.length ≤ C') : TOk g B' C' N old x := ⟨h.wf, h.kd, h1, h2, h.ne, h.nz, h.sym⟩
theorem TOk.nb {g : Gram} (hg : g.ok) {B C N : Nat} {old : Bool} {x : Work} (h : TOk g B C N old x) (hC : C ≤ 1000000) : NbL 1000000000 x.l := by
  have := hg.rules
  refine nbs_of (m := g.rules.length) (by omega) (by omega) _ h.wf fun n hn => ?_
  have h1 := upTo_mem.1 (h.kd.mem_iff.1 hn)
  have h2 := kids_le x.right
  have h3 := h.rl
  omega
theorem TOk.kd0 {g : Gram} {B C N : Nat} {old : Bool} {x : Work} (h : TOk g B C N old x) : ∀ n ∈ kdL x.l, 0 ≤ n := fun n hn => (upTo_mem.1 (h.kd.mem_iff.1 hn)).1
theorem hd_cons {l : List Int} {u : Int} (hne : l ≠ []) (h : hdI l = u) : l = u :: l.tail := by
  cases l with
  | nil => exact absurd rfl hne
  | cons a l => simp only [hdI, List.headD_cons] at h; rw [h]; rfl
theorem mix_ok {g : Gram} {B C N B' C' : Nat} {x y : Work} {u : Int} (hx : TOk g B C N true x) (hy : TOk g B' C' N true y) (hu : hdI x.right = u) (h0 : 0 ≤ u) : TOk g (B + B') (C + C') N true (mixW x y) := by
  have hne := hx.ne rfl
  have hc := hd_cons hne hu
  have hz := hx.nz rfl (by omega)
  have hkx : (kids x.right).length = (kids x.right.tail).length + 1 := by
    conv => lhs; rw [hc]
    rw [show kids (u :: x.right.tail) = u :: kids x.right.tail from List.filter_cons_of_pos (by simpa using h0)]; rfl
  have hkm : (kids (mixW x y).right).length = (kids y.right).length + (kids x.right.tail).length := by
    show (kids (y.right ++ x.right.tail)).length = _
    simp [kids]
  have hl : (mixW x y).l = ptL 0 y.l (((kids y.right).length : Int) - 1) x.l := by
    show plugL x.l 0 y.l _ = _
    unfold plugL
    rw [movL_zero]
  have hxk := hx.kd
  rw [hkx] at hxk
  refine ⟨?_, ?_, ?_, ?_, fun _ => ?_, fun _ hh => ?_, fun s hs => ?_⟩
  · rw [hl]; exact wf_puts hy.wf x.l hx.wf hz
  · rw [hl, kd_puts x.l hx.wf hz, hkm]
    exact perm_put hxk hy.kd
  · rw [hl]
    have h1 := sz_puts (b := ((kids y.right).length : Int) - 1) (inn := y.l) x.l hx.wf hz
    have h2 := count_upTo _ _ hx.kd
    have h3 : (kdL x.l).count 0 * fszs y.l ≤ 1 * fszs y.l := Nat.mul_le_mul_right _ h2
    have := hx.sz
    have := hy.sz
    omega
  · show (y.right ++ x.right.tail).length ≤ _
    have := hx.rl
    have := hy.rl
    rw [List.length_append, List.length_tail]; omega
  · show y.right ++ x.right.tail ≠ []
    have := hy.ne rfl
    intro q
    exact this (List.append_eq_nil_iff.1 q).1
  · have hyn := hy.ne rfl
    have hh2 : hdI (mixW x y).right = hdI y.right := by
      show hdI (y.right ++ x.right.tail) = _
      cases hq : y.right with
      | nil => exact absurd hq hyn
      | cons a r => rfl
    rw [hh2] at hh
    rw [hl]
    have hk1 : 1 ≤ (kids y.right).length := by
      cases hq : y.right with
      | nil => exact absurd hq hyn
      | cons a r =>
        rw [hq] at hh
        simp only [hdI, List.headD_cons] at hh
        rw [show kids (a :: r) = a :: kids r from List.filter_cons_of_pos (by simpa using hh)]
        simp
    exact nz_puts (hy.nz rfl hh) (by omega) x.l hx.wf hz hx.kd0
  · rcases List.mem_append.1 (show s ∈ y.right ++ x.right.tail from hs) with h | h
    · exact hy.sym s h
    · exact hx.sym s (List.mem_of_mem_tail h)
theorem then_ok {g : Gram} (hg : g.ok) {B C N : Nat} {old : Bool} {x : Work} (hx : TOk g B C N old x) : ∀ y ∈ thenW (N : Int) x, TOk g (B + 1) (C + 1) (N + 1) old y := fun y hy => by
  simp only [thenW, List.mem_cons, List.not_mem_nil, or_false] at hy
  rcases hy with rfl | rfl
  · exact hx.mono (by omega) (by omega) (by omega)
  · have ht := hg.terms0
    have hk : (kids (x.right ++ [(N : Int)])).length = (kids x.right).length + 1 := by
      simp [kids]
    refine ⟨⟨.inr (.inr (.inr ⟨rfl, hx.wf⟩)), trivial⟩, ?_, ?_, ?_, fun _ => by simp, fun ho hh => ?_, fun s hs => ?_⟩
    · rw [hk, upTo_snoc]
      have e : kdL [Frag.mk 4 ((kids x.right).length : Int) x.l] = ((kids x.right).length : Int) :: kdL x.l := by
        rw [kdL, kdF, if_neg (by decide), if_neg (by decide), if_pos rfl, kdL, List.append_nil]
      rw [e]
      exact (hx.kd.cons _).trans (List.perm_append_singleton _ _).symm
    · have := hx.sz
      simp only [fszs, fsz]; omega
    · have := hx.rl
      show (x.right ++ [(N : Int)]).length ≤ _
      rw [List.length_append, List.length_singleton]; omega
    · have hne := hx.ne ho
      have hh2 : hdI (x.right ++ [(N : Int)]) = hdI x.right := by
        cases hq : x.right with
        | nil => exact absurd hq hne
        | cons a r => rfl
      rw [hh2] at hh
      refine ⟨⟨fun q => ?_, hx.nz ho hh⟩, trivial⟩
      have hk1 : 1 ≤ (kids x.right).length := by
        cases hq : x.right with
        | nil => exact absurd hq hne
        | cons a r =>
          rw [hq] at hh
          simp only [hdI, List.headD_cons] at hh
          rw [show kids (a :: r) = a :: kids r from List.filter_cons_of_pos (by simpa using hh)]
          simp
      have := q.2
      omega
    · rcases List.mem_append.1 (show s ∈ x.right ++ [(N : Int)] from hs) with h | h
      · have := hx.sym s h; omega
      · rw [List.mem_singleton.1 h]; omega
def gappedW (x : Work) : Work := ⟨x.right.tail, plugL x.l 0 [gapF] 0⟩
theorem gapped_ok {g : Gram} {B C N : Nat} {x : Work} (hx : TOk g B C N true x) (h0 : 0 ≤ hdI x.right) : TOk g (B + 1) C N false (gappedW x) := by
  have hne := hx.ne rfl
  have hc := hd_cons hne rfl
  have hz := hx.nz rfl h0
  have hkx : (kids x.right).length = (kids x.right.tail).length + 1 := by
    conv => lhs; rw [hc]
    rw [show kids (hdI x.right :: x.right.tail) = hdI x.right :: kids x.right.tail from List.filter_cons_of_pos (by simpa using h0)]; rfl
  have hl : (gappedW x).l = ptL 0 [gapF] (-1) x.l := by
    show plugL x.l 0 [gapF] 0 = _
    unfold plugL
    rw [movL_zero]; rfl
  have hxk := hx.kd
  rw [hkx] at hxk
  refine ⟨?_, ?_, ?_, ?_, fun q => (by cases q), fun q => (by cases q), fun s hs => hx.sym s (List.mem_of_mem_tail hs)⟩
  · rw [hl]; exact wf_puts (inn := [gapF]) (show wfL _ [gapF] from ⟨.inr (.inr (.inl ⟨rfl, rfl, rfl⟩)), trivial⟩) x.l hx.wf hz
  · rw [hl, kd_puts x.l hx.wf hz]
    have := perm_put (k := (kids x.right.tail).length) (ki := 0) (inn := []) hxk (List.Perm.refl _)
    simp only [Nat.zero_add] at this
    exact this
  · rw [hl]
    have h1 := sz_puts (b := -1) (inn := [gapF]) x.l hx.wf hz
    have h2 := count_upTo _ _ hx.kd
    have h3 : (kdL x.l).count 0 * fszs [gapF] ≤ 1 * fszs [gapF] := Nat.mul_le_mul_right _ h2
    have h4 : fszs [gapF] = 1 := rfl
    have := hx.sz
    omega
  · have := hx.rl
    show x.right.tail.length ≤ _
    rw [List.length_tail]; omega

/-! ### The whole way -/
structure TInv (g : Gram) (all : List (List Work)) : Prop where
  vars : g.vars.toNat ≤ all.length
  len : all.length ≤ 64
  ok : ∀ u, ∀ w ∈ all.getD u [], TOk g 60 10 all.length (decide (u < g.vars.toNat)) w
  wide : ∀ l ∈ all, l.length ≤ 160
theorem aheadIn_ok {g : Gram} {B N : Nat} {x : Work} {u : Int} (hx : TOk g B 10 N true x) (hu : hdI x.right = u) (h0 : 0 ≤ u) {Q : Work → Prop} (hQ : ∀ y, TOk g 60 10 N true y → (mixW x y).right.length ≤ 10 → Q (mixW x y)) : ∀ {ys out out' : List Work}, (∀ y ∈ ys, TOk g 60 10 N true y) → (∀ w ∈ out, Q w) → aheadIn x ys out = some out' → (∀ w ∈ out', Q w) ∧ (out.length ≤ 160 → out'.length ≤ 160)
  | [], out, out', _, ho, h => by rw [aheadIn] at h; cases h; exact ⟨ho, fun q => q⟩
  | y :: ys, out, out', hy, ho, h => by
    rw [aheadIn] at h
    split at h
    · cases h
    · rename_i hn
      simp only [not_or, Nat.not_lt] at hn
      obtain ⟨k1, k2⟩ := aheadIn_ok hx hu h0 hQ (fun z hz => hy z (by simp [hz])) (fun w hw => by
        rcases List.mem_append.1 hw with hw | hw
        · exact ho w hw
        · rw [List.mem_singleton.1 hw]; exact hQ y (hy y (by simp)) hn.1) h
      exact ⟨k1, fun _ => k2 hn.2⟩
theorem aheadW_ok {g : Gram} {B N : Nat} {A : List Work} {u : Int} (h0 : 0 ≤ u) (hA : ∀ y ∈ A, TOk g 60 10 N true y) : ∀ {l out l' : List Work}, (∀ w ∈ l, TOk g B 10 N true w) → (∀ w ∈ out, TOk g (B + 60) 10 N true w) → aheadW A u l out = some l' → (∀ w ∈ l', TOk g (B + 60) 10 N true w) ∧ l'.length ≤ 160
  | [], out, l', _, ho, h => by
    rw [aheadW] at h
    split at h
    · cases h
    · cases h; exact ⟨ho, by omega⟩
  | x :: l, out, l', hl, ho, h => by
    have hx := hl x (by simp)
    rw [aheadW] at h
    split at h
    · exact aheadW_ok h0 hA (fun w hw => hl w (by simp [hw])) (fun w hw => by
        rcases List.mem_append.1 hw with hw | hw
        · exact ho w hw
        · rw [List.mem_singleton.1 hw]; exact hx.mono (by omega) (Nat.le_refl _) (Nat.le_refl _)) h
    · rename_i hu
      have hu : hdI x.right = u := Classical.byContradiction fun q => hu q
      cases hc : aheadIn x A out with
      | none => rw [hc] at h; cases h
      | some out1 =>
        rw [hc] at h
        obtain ⟨k1, _⟩ := aheadIn_ok hx hu h0 (Q := fun w => TOk g (B + 60) 10 N true w) (fun y hy hr => (mix_ok hx hy hu h0).small _ _ (mix_ok hx hy hu h0).sz hr) hA ho hc
        exact aheadW_ok h0 hA (fun w hw => hl w (by simp [hw])) k1 h
theorem aheads_ok {g : Gram} {all : List (List Work)} (hI : TInv g all) : ∀ (n u : Nat) {B : Nat} {l l' : List Work}, u + n ≤ g.vars.toNat → (∀ w ∈ l, TOk g B 10 all.length true w) → l.length ≤ 160 → aheads all u n l = some l' → (∀ w ∈ l', TOk g (B + 60 * n) 10 all.length true w) ∧ l'.length ≤ 160
  | 0, u, B, l, l', _, hl, h160, h => by
    rw [aheads] at h; cases h
    exact ⟨fun w hw => (hl w hw).mono (by omega) (Nat.le_refl _) (Nat.le_refl _), h160⟩
  | n + 1, u, B, l, l', hn, hl, h160, h => by
    rw [aheads] at h
    cases hc : aheadW (all.getD u []) u l [] with
    | none => rw [hc] at h; cases h
    | some l1 =>
      rw [hc] at h
      obtain ⟨k1, k2⟩ := aheadW_ok (by omega) (fun y hy => by
        have := hI.ok u y hy
        rw [decide_eq_true (show u < g.vars.toNat by omega)] at this; exact this) hl (fun w hw => by cases hw) hc
      obtain ⟨j1, j2⟩ := aheads_ok hI n (u + 1) (by omega) k1 k2 h
      exact ⟨fun w hw => (j1 w hw).mono (by omega) (Nat.le_refl _) (Nat.le_refl _), j2⟩
theorem fitsT_iff {all : List (List Work)} : fitsT all = true ↔ (∀ l ∈ all, ∀ w ∈ l, w.right.length ≤ 10 ∧ fszs w.l ≤ 60) ∧ (all.map List.length).sum ≤ 160 ∧ all.length ≤ 64 := by
  unfold fitsT
  simp only [Bool.and_eq_true, List.all_eq_true, decide_eq_true_eq, and_assoc]
theorem sum_ge {all : List (List Work)} {l : List Work} (h : l ∈ all) : l.length ≤ (all.map List.length).sum := by
  induction all with
  | nil => cases h
  | cons a all ih =>
    rw [List.map_cons, List.sum_cons]
    rcases List.mem_cons.1 h with rfl | h
    · omega
    · have := ih h; omega
theorem getD_of_mem {all : List (List Work)} {u : Nat} {w : Work} (h : w ∈ all.getD u []) : u < all.length ∧ all.getD u [] ∈ all := by
  by_cases hu : u < all.length
  · refine ⟨hu, ?_⟩
    rw [List.getD_eq_getElem?_getD, List.getElem?_eq_getElem hu]; exact List.getElem_mem hu
  · rw [List.getD_eq_getElem?_getD, List.getElem?_eq_none (by omega)] at h; cases h
theorem itself_ok {g : Gram} (hg : g.ok) {all : List (List Work)} (hI : TInv g all) {v B : Nat} (hv : v < g.vars.toNat) {l : List Work} (hl : ∀ w ∈ l, TOk g B 10 all.length true w) : ∀ u, ∀ w ∈ (itselfW all l v).getD u [], TOk g (B + 62) 11 (itselfW all l v).length (decide (u < g.vars.toNat)) w := by
  have hva : v < all.length := Nat.lt_of_lt_of_le hv hI.vars
  intro u w hw
  unfold itselfW at hw ⊢
  split at hw
  · rename_i h0
    rw [if_pos h0, List.length_set]
    by_cases huv : u = v
    · subst huv
      rw [List.getD_eq_getElem?_getD, List.getElem?_set_self hva, Option.getD_some] at hw
      rw [decide_eq_true hv]
      exact (hl w hw).mono (by omega) (by omega) (Nat.le_refl _)
    · rw [List.getD_eq_getElem?_getD, List.getElem?_set_ne (fun e => huv e.symm), ← List.getD_eq_getElem?_getD] at hw
      exact (hI.ok u w hw).mono (by omega) (by omega) (Nat.le_refl _)
  · rename_i h0
    rw [if_neg h0, List.length_set, List.length_append, List.length_singleton]
    by_cases huv : u = v
    · subst huv
      rw [List.getD_eq_getElem?_getD, List.getElem?_set_self (by simp; omega), Option.getD_some] at hw
      obtain ⟨x, hx, hw⟩ := List.mem_flatMap.1 hw
      rw [decide_eq_true hv]
      exact (then_ok hg (hl x (List.mem_filter.1 hx).1) w hw).mono (by omega) (by omega) (Nat.le_refl _)
    · rw [List.getD_eq_getElem?_getD, List.getElem?_set_ne (fun e => huv e.symm), ← List.getD_eq_getElem?_getD] at hw
      by_cases hua : u < all.length
      · rw [List.getD_eq_getElem?_getD, List.getElem?_append_left hua, ← List.getD_eq_getElem?_getD] at hw
        exact (hI.ok u w hw).mono (by omega) (by omega) (by omega)
      · by_cases hue : u = all.length
        · subst hue
          rw [List.getD_eq_getElem?_getD, List.getElem?_append_right (Nat.le_refl _), Nat.sub_self] at hw
          have hw : w ∈ (ownW v l).flatMap (thenW all.length) := hw
          obtain ⟨x, hx, hw⟩ := List.mem_flatMap.1 hw
          obtain ⟨y, hy, rfl⟩ := List.mem_map.1 hx
          obtain ⟨hy1, hy2⟩ := List.mem_filter.1 hy
          have hy2 := of_decide_eq_true hy2
          have := then_ok hg (gapped_ok (hl y hy1) (by rw [hy2]; omega)) w hw
          rw [decide_eq_false (by have := hI.vars; omega)]
          exact this.mono (by omega) (by omega) (Nat.le_refl _)
        · rw [List.getD_eq_getElem?_getD, List.getElem?_eq_none (by simp; omega)] at hw
          cases hw
theorem itself_len (all : List (List Work)) (l : List Work) (v : Nat) : all.length ≤ (itselfW all l v).length := by
  unfold itselfW
  split
  · rw [List.length_set]; omega
  · rw [List.length_set, List.length_append]; omega
theorem round_ok {g : Gram} (hg : g.ok) {all : List (List Work)} (hI : TInv g all) {v : Nat} (hv : v < g.vars.toNat) {l : List Work} (hl : aheads all 0 v (all.getD v []) = some l) (hf : fitsT (itselfW all l v) = true) : TInv g (itselfW all l v) := by
  have h0 : ∀ w ∈ all.getD v [], TOk g 60 10 all.length true w := fun w hw => by
    have := hI.ok v w hw
    rw [decide_eq_true hv] at this; exact this
  have h160 : (all.getD v []).length ≤ 160 := by
    by_cases q : v < all.length
    · refine hI.wide _ ?_
      rw [List.getD_eq_getElem?_getD, List.getElem?_eq_getElem q]; exact List.getElem_mem q
    · rw [List.getD_eq_getElem?_getD, List.getElem?_eq_none (by omega)]; simp
  obtain ⟨k1, k2⟩ := aheads_ok hI v 0 (by omega) h0 h160 hl
  obtain ⟨f1, f2, f3⟩ := fitsT_iff.1 hf
  have hi := itself_ok hg hI hv k1
  exact ⟨Nat.le_trans hI.vars (itself_len all l v), f3, fun u w hw => by
    obtain ⟨q1, q2⟩ := f1 _ (getD_of_mem hw).2 w hw
    exact (hi u w hw).small _ _ q2 q1, fun l hl => Nat.le_trans (sum_ge hl) f2⟩
theorem turnAll_ok {g : Gram} (hg : g.ok) : ∀ (n v : Nat) {all z : List (List Work)}, v + n = g.vars.toNat → TInv g all → turnAll v n all = .ok z → TInv g z ∧ (0 < n → fitsT z = true)
  | 0, v, all, z, _, hI, h => by rw [turnAll] at h; cases h; exact ⟨hI, fun q => by omega⟩
  | n + 1, v, all, z, hv, hI, h => by
    rw [turnAll] at h
    cases hc : aheads all 0 v (all.getD v []) with
    | none => rw [hc] at h; cases h
    | some l =>
      rw [hc] at h
      dsimp only at h
      split at h
      · rename_i hf
        have h1 := round_ok hg hI (by omega) hc hf
        obtain ⟨k1, k2⟩ := turnAll_ok hg n (v + 1) (by omega) h1 h
        refine ⟨k1, fun _ => ?_⟩
        cases n with
        | zero => rw [turnAll] at h; cases h; exact hf
        | succ n => exact k2 (by omega)
      · cases h
theorem node_kd (r : Int) (k : Nat) : kdL (nodeF r k) = upTo k := by
  unfold nodeF
  rw [kdL, kdF, if_pos rfl, kdL_holes, kdL, List.append_nil]; rfl
theorem start_tinv {g : Gram} (hg : g.ok) (he : ∀ r ∈ g.rules, r.right ≠ []) : TInv g (startW g) := by
  have hlen := startW_length g
  have hv := hg.vars
  refine ⟨by rw [hlen]; exact Nat.le_refl _, by rw [hlen]; omega, fun u w hw => ?_, fun l hl => ?_⟩
  · by_cases hu : u < g.vars.toNat
    · rw [startW_get hu] at hw
      obtain ⟨i, hi, rfl⟩ := List.mem_map.1 hw
      obtain ⟨j, hj, rfl, _, e⟩ := by_atR hi
      rw [e, hlen]
      have hm := List.getElem_mem hj
      have h10 := hg.right _ hm
      have hkl := kids_le g.rules[j].right
      refine ⟨⟨.inl ⟨rfl, by omega, by omega, wfL_holes _ _⟩, trivial⟩, ?_, ?_, h10, fun _ => he _ hm, fun _ _ => ?_, fun s hs => ?_⟩
      · rw [node_kd]
      · simp only [nodeF, fszs, fsz, fszs_holesQ]; omega
      · exact ⟨⟨fun q => absurd q.1 (by decide), nzL_holes _⟩, trivial⟩
      · have := hg.lo _ hm s hs
        have := hg.hi _ hm s hs
        omega
    · rw [startW_out hu] at hw; cases hw
  · obtain ⟨v, _, rfl⟩ := List.mem_map.1 hl
    have h1 : (worksAt g v).length = (by_ g v).length := by unfold worksAt; rw [List.length_map]
    have h2 := byR_le v g.rules 0
    have h3 := hg.rules
    rw [h1]
    show (byR g.rules v 0).length ≤ 160
    omega
def emptyAt (g : Gram) : Option Nat := g.rules.findIdx? fun r => decide (r.right.length = 0)
def turnS (g : Gram) : Step × Fault :=
  if (gramFault g).code = 0 then
    match emptyAt g with
    | some i => (zeroStep, ⟨11, i⟩)
    | none => if 0 < (cycL g).length then (zeroStep, ⟨10, -1⟩) else
      match turnAll 0 g.vars.toNat (startW g) with
      | .error v => (zeroStep, ⟨6, (v : Nat)⟩)
      | .ok z => (⟨⟨(z.length : Nat), g.terms, g.start, rulesF z 0⟩, fragsF z, []⟩, ⟨0, 0⟩)
  else (zeroStep, gramFault g)
theorem emptyAt_none {g : Gram} (h : emptyAt g = none) : ∀ r ∈ g.rules, r.right ≠ [] := fun r hr q => by
  unfold emptyAt at h
  rw [List.findIdx?_eq_none_iff] at h
  have := h r hr
  rw [q] at this
  simp at this
theorem turnS_cases (g : Gram) : (¬ (turnS g).2.code = 0 ∧ (turnS g).1 = zeroStep) ∨ ∃ z, g.ok ∧ (∀ r ∈ g.rules, r.right ≠ []) ∧ cycL g = [] ∧ turnAll 0 g.vars.toNat (startW g) = .ok z ∧ turnS g = (⟨⟨(z.length : Nat), g.terms, g.start, rulesF z 0⟩, fragsF z, []⟩, ⟨0, 0⟩) := by
  unfold turnS
  by_cases h : (gramFault g).code = 0
  · rw [if_pos h]
    cases he : emptyAt g with
    | some i => exact .inl ⟨by simp, rfl⟩
    | none =>
      dsimp only
      by_cases hc : 0 < (cycL g).length
      · rw [if_pos hc]; exact .inl ⟨by simp, rfl⟩
      · rw [if_neg hc]
        cases ht : turnAll 0 g.vars.toNat (startW g) with
        | error v => exact .inl ⟨by simp, rfl⟩
        | ok z => exact .inr ⟨z, gram_ok h, emptyAt_none he, List.length_eq_zero_iff.1 (by omega), rfl, rfl⟩
  · rw [if_neg h]; exact .inl ⟨h, rfl⟩
theorem rulesF_len : ∀ (z : List (List Work)) (v : Nat), (rulesF z v).length = (z.map List.length).sum
  | [], _ => rfl
  | l :: r, v => by rw [rulesF, List.length_append, List.length_map, rulesF_len r (v + 1), List.map_cons, List.sum_cons]
section
variable {g : Gram} (hg : g.ok) (he : ∀ r ∈ g.rules, r.right ≠ []) {z : List (List Work)} (hz : turnAll 0 g.vars.toNat (startW g) = .ok z)
include hg he hz
theorem turn_inv : TInv g z ∧ fitsT z = true := by
  obtain ⟨h1, h2⟩ := turnAll_ok hg g.vars.toNat 0 (by omega) (start_tinv hg he) hz
  exact ⟨h1, h2 (by have := hg.vars1; omega)⟩
theorem turn_gok : (⟨(z.length : Nat), g.terms, g.start, rulesF z 0⟩ : Gram).ok := by
  obtain ⟨hI, hf⟩ := turn_inv hg he hz
  obtain ⟨f1, f2, f3⟩ := fitsT_iff.1 hf
  have h1 := hg.vars1
  have h2 := hg.start
  have h3 := hI.vars
  have hm : ∀ r ∈ rulesF z 0, 0 ≤ r.left ∧ r.left < (z.length : Int) ∧ r.right.length ≤ 10 ∧ ∀ s ∈ r.right, -g.terms ≤ s ∧ s < (z.length : Int) := fun r hr => by
    obtain ⟨b1, b2, w, b3, b4⟩ := rulesF_left hr
    have hw := hI.ok _ w b3
    rw [b4]
    exact ⟨by omega, by omega, hw.rl, hw.sym⟩
  exact ⟨by show (1 : Int) ≤ (z.length : Int); omega, by show (z.length : Int) ≤ 64; omega, hg.terms0, hg.terms, hg.start0, by show g.start < (z.length : Int); omega, by rw [rulesF_len]; exact f2, fun r hr => (hm r hr).2.2.1, fun r hr => (hm r hr).1, fun r hr => (hm r hr).2.1, fun r hr s hs => ((hm r hr).2.2.2 s hs).1, fun r hr s hs => ((hm r hr).2.2.2 s hs).2⟩
theorem turn_step0 : stepFault g ⟨⟨(z.length : Nat), g.terms, g.start, rulesF z 0⟩, fragsF z, []⟩ = ⟨0, 0⟩ := by
  obtain ⟨hI, hf⟩ := turn_inv hg he hz
  refine step_ok hg (turn_gok hg he hz) rfl (parts_of fun l hl w hw => ?_)
  obtain ⟨u, hu, rfl⟩ := List.mem_iff_getElem.1 hl
  have := hI.ok u w (by rw [List.getD_eq_getElem?_getD, List.getElem?_eq_getElem hu]; exact hw)
  exact ok_use this.wf this.kd this.sz
theorem turn_fits : (fragsF z).length = (rulesF z 0).length ∧ ∀ l ∈ fragsF z, fszs l ≤ 60 := by
  obtain ⟨hI, hf⟩ := turn_inv hg he hz
  obtain ⟨f1, f2, f3⟩ := fitsT_iff.1 hf
  have h1 : ∀ (a : List (List Work)) (v : Nat), (fragsF a).length = (rulesF a v).length := by
    intro a
    induction a with
    | nil => intro v; rfl
    | cons l a ih => intro v; rw [fragsF, rulesF, List.length_append, List.length_append, List.length_map, List.length_map, ih (v + 1)]
  refine ⟨h1 z 0, fun l hl => ?_⟩
  have h2 : ∀ a : List (List Work), l ∈ fragsF a → ∃ k ∈ a, ∃ w ∈ k, l = w.l := by
    intro a
    induction a with
    | nil => intro h; simp [fragsF] at h
    | cons k a ih =>
      intro h
      rw [fragsF] at h
      rcases List.mem_append.1 h with h | h
      · obtain ⟨w, hw, rfl⟩ := List.mem_map.1 h
        exact ⟨k, by simp, w, hw, rfl⟩
      · obtain ⟨k', q1, w, q2, q3⟩ := ih h
        exact ⟨k', by simp [q1], w, q2, q3⟩
  obtain ⟨k, hk, w, hw, rfl⟩ := h2 z hl
  exact (f1 k hk w hw).2
end
theorem turnS_step {g : Gram} (h : (turnS g).2.code = 0) : stepFault g (turnS g).1 = ⟨0, 0⟩ := by
  rcases turnS_cases g with ⟨h1, _⟩ | ⟨z, hg, he, _, hz, e⟩
  · exact absurd h h1
  · rw [e]; exact turn_step0 hg he hz
theorem turnS_fit (g : Gram) : (turnS g).1.fit := by
  rcases turnS_cases g with ⟨_, e⟩ | ⟨z, hg, he, _, hz, e⟩
  · rw [e]; exact ⟨⟨by decide, fun r hr => by simp [zeroStep] at hr⟩, by decide, fun l hl => by simp [zeroStep] at hl, by decide⟩
  · rw [e]
    have hk := turn_gok hg he hz
    obtain ⟨h1, h2⟩ := turn_fits hg he hz
    have := hk.rules
    exact ⟨hk.fit, by show (fragsF z).length ≤ _; rw [h1]; exact Nat.le_trans hk.rules (by decide), fun l hl => Nat.le_trans (h2 l hl) (by decide), by simp [cnts]⟩
end Go.Proofs.Yticnpbopelgmiaa
