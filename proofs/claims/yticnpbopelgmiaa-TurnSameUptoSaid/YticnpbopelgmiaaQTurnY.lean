/-
  Turn, plain: the whole of it leads the trees back; the rules of it. Turn, plain: TurnSame.
-/
import Derived.Test.YticnpbopelgmiaaTurnX
set_option linter.unusedVariables false
set_option linter.unusedSimpArgs false
set_option linter.unusedSectionVars false
namespace Go.Proofs.Yticnpbopelgmiaa
open Go.RowKit

structure TS (g : Gram) (all : List (List Work)) (E : Int → Tree → Prop) : Prop where
  base : ∀ s z, s < g.vars → (E s z ↔ fits g z s = true)
  old : ∀ v : Nat, v < g.vars.toNat → VS g E v (all.getD v [])
  new : ∀ N : Nat, g.vars.toNat ≤ N → N < all.length → NS g E (N : Int) (all.getD N [])
  gap : ∀ N : Nat, g.vars.toNat ≤ N → N < all.length → ∀ z, E (N : Int) z → hgT z = true ∧ 0 ≤ z.rule
theorem set_get1 {all : List (List Work)} {b : List Work} {v u : Nat} (hv : v < all.length) : (all.set v b).getD u [] = if u = v then b else all.getD u [] := by
  by_cases h : u = v
  · subst h
    rw [if_pos rfl, List.getD_eq_getElem?_getD, List.getElem?_set_self hv]; rfl
  · rw [if_neg h, List.getD_eq_getElem?_getD, List.getElem?_set_ne (fun q => h q.symm), ← List.getD_eq_getElem?_getD]
theorem set_get2 {all : List (List Work)} {a b : List Work} {v u : Nat} (hv : v < all.length) : ((all ++ [a]).set v b).getD u [] = if u = v then b else if u = all.length then a else all.getD u [] := by
  rw [set_get1 (by simp; omega)]
  by_cases h : u = v
  · rw [if_pos h, if_pos h]
  · rw [if_neg h, if_neg h]
    by_cases h2 : u = all.length
    · subst h2
      rw [if_pos rfl, List.getD_eq_getElem?_getD, List.getElem?_append_right (Nat.le_refl _), Nat.sub_self]; rfl
    · rw [if_neg h2]
      by_cases h3 : u < all.length
      · rw [List.getD_eq_getElem?_getD, List.getElem?_append_left h3, ← List.getD_eq_getElem?_getD]
      · rw [List.getD_eq_getElem?_getD, List.getElem?_eq_none (by simp; omega), List.getD_eq_getElem?_getD, List.getElem?_eq_none (by omega)]
theorem TInv.syms {g : Gram} {all : List (List Work)} (hI : TInv g all) (u : Nat) : ∀ w ∈ all.getD u [], ∀ s ∈ w.right, s < (all.length : Int) := fun w hw s hs => ((hI.ok u w hw).sym s hs).2
theorem TInv.xok {g : Gram} {all : List (List Work)} (hI : TInv g all) {u : Nat} (hu : u < g.vars.toNat) : ∀ w ∈ all.getD u [], XOk g all.length w := fun w hw => by
  have := hI.ok u w hw
  rw [decide_eq_true hu] at this
  exact ⟨_, _, this⟩
theorem TS.itself {g : Gram} {all : List (List Work)} {E : Int → Tree → Prop} (hI : TInv g all) (T : TS g all E) {v : Nat} (hv : v < g.vars.toNat) {l : List Work} (hl : VS g E v l) (hx : ∀ x ∈ l, XOk g all.length x) : ∃ E', TS g (itselfW all l v) E' := by
  have hva : v < all.length := Nat.lt_of_lt_of_le hv hI.vars
  have hvars := hI.vars
  unfold itselfW
  split
  · refine ⟨E, T.base, fun u hu => ?_, fun u h1 h2 => ?_, fun u h1 h2 => ?_⟩
    · rw [set_get1 hva]
      split
      · rename_i e; subst e; exact hl
      · exact T.old u hu
    · rw [List.length_set] at h2
      rw [set_get1 hva, if_neg (by omega)]
      exact T.new u h1 h2
    · rw [List.length_set] at h2
      exact T.gap u h1 h2
  · have hsy := fun u w hw s hs z => upE_ne (E := E) (v := v) (l := l) (hI.syms u w hw s hs) z
    refine ⟨upE E v l all.length, fun s z hs => ?_, fun u hu => ?_, fun u h1 h2 => ?_, fun u h1 h2 z hz => ?_⟩
    · rw [← upE_ne (by omega)]; exact T.base s z hs
    · rw [set_get2 hva]
      split
      · rename_i e
        subst e
        exact itself_vs hl hx T.base (by omega)
      · rw [if_neg (by omega)]
        exact (T.old u hu).congr (hsy u)
    · rw [List.length_set, List.length_append, List.length_singleton] at h2
      rw [set_get2 hva, if_neg (by omega)]
      split
      · rename_i e
        subst e
        exact itself_ns hl hx
      · exact (T.new u h1 (by omega)).congr (fun z => upE_ne (by omega) z) (hsy u)
    · rw [List.length_set, List.length_append, List.length_singleton] at h2
      by_cases e : u = all.length
      · subst e
        exact chn_gap hl hx (upE_N.1 hz)
      · exact T.gap u h1 (by omega) z ((upE_ne (by omega) z).2 hz)
theorem start_ts {g : Gram} : TS g (startW g) (E0 g) where
  base s z _ := Iff.rfl
  old v hv := by rw [startW_get hv]; exact start_vs v
  new N h1 h2 := by rw [startW_length] at h2; omega
  gap N h1 h2 := by rw [startW_length] at h2; omega

/-! ### Fillings are of the new nonterminals alone -/
mutual
def tyF (p : Int → Prop) : Frag → Prop
  | .mk o n l => (o = 4 → p n ∧ l ≠ []) ∧ tyL p l
def tyL (p : Int → Prop) : List Frag → Prop
  | [] => True
  | x :: r => tyF p x ∧ tyL p r
end
theorem tyL_append {p : Int → Prop} : ∀ {a b : List Frag}, tyL p (a ++ b) ↔ tyL p a ∧ tyL p b
  | [], b => by simp [tyL]
  | x :: a, b => by rw [List.cons_append, tyL, tyL, tyL_append, and_assoc]
mutual
theorem tyF_mono {m : Int} {p p' : Int → Prop} : ∀ x : Frag, wfF m x → (∀ n ∈ kdF x, p n → p' n) → tyF p x → tyF p' x
  | .mk o n l, h, hk, ht => by
    rw [wfF] at h
    rw [tyF] at ht ⊢
    rcases h with ⟨rfl, _, _, hl⟩ | ⟨rfl, rfl⟩ | ⟨rfl, _, rfl⟩ | ⟨rfl, hl⟩
    · rw [kdF_1] at hk
      exact ⟨fun q => absurd q (by decide), tyL_mono l hl hk ht.2⟩
    · exact ⟨fun q => absurd q (by decide), trivial⟩
    · exact ⟨fun q => absurd q (by decide), trivial⟩
    · rw [kdF_4] at hk
      have := ht.1 rfl
      exact ⟨fun _ => ⟨hk n (by simp) this.1, this.2⟩, tyL_mono l hl (fun q hq => hk q (by simp [hq])) ht.2⟩
theorem tyL_mono {m : Int} {p p' : Int → Prop} : ∀ l : List Frag, wfL m l → (∀ n ∈ kdL l, p n → p' n) → tyL p l → tyL p' l
  | [], _, _, _ => trivial
  | x :: r, h, hk, ht => by
    rw [kdL] at hk
    exact ⟨tyF_mono x h.1 (fun n hn => hk n (by simp [hn])) ht.1, tyL_mono r h.2 (fun n hn => hk n (by simp [hn])) ht.2⟩
end
mutual
theorem tyF_put {m b : Int} {p p' : Int → Prop} {inn : List Frag} (hi : tyL p' inn) (hne : inn ≠ []) (hp : ∀ n : Int, 0 < n → p n → p' (n + b)) : ∀ x : Frag, wfF m x → nzF x → (∀ n ∈ kdF x, 0 ≤ n) → tyF p x → tyL p' (ptF 0 inn b x) ∧ ptF 0 inn b x ≠ []
  | .mk o n l, h, hz, hk, ht => by
    rw [wfF] at h
    rw [nzF] at hz
    rw [tyF] at ht
    rw [ptF]
    rcases h with ⟨rfl, _, _, hl⟩ | ⟨rfl, rfl⟩ | ⟨rfl, h1, rfl⟩ | ⟨rfl, hl⟩
    · rw [kdF_1] at hk
      rw [if_neg (fun q => absurd q.1 (by decide)), if_neg (fun q => absurd q.1 (by decide))]
      exact ⟨⟨⟨fun q => absurd q (by decide), (tyL_put hi hne hp l hl hz.2 hk ht.2).1⟩, trivial⟩, by simp⟩
    · by_cases e : n = 0
      · rw [if_pos ⟨rfl, e⟩]; exact ⟨hi, hne⟩
      · rw [if_neg (fun q => e q.2), if_neg (fun q => absurd q.1 (by decide))]
        exact ⟨⟨⟨fun q => absurd q (by decide), trivial⟩, trivial⟩, by simp⟩
    · rw [if_neg (fun q => absurd q.1 (by decide)), if_neg (fun q => absurd q.1 (by decide))]
      exact ⟨⟨⟨fun q => absurd q (by decide), trivial⟩, trivial⟩, by simp⟩
    · rw [kdF_4] at hk
      have h2 := hk n (by simp)
      have h3 : ¬ n = 0 := fun q => hz.1 ⟨rfl, q⟩
      have h4 := ht.1 rfl
      rw [if_neg (fun q => absurd q.1 (by decide)), if_neg (fun q => h3 q.2), mvN_is (.inr rfl), if_pos (by omega)]
      obtain ⟨k1, k2⟩ := tyL_put hi hne hp l hl hz.2 (fun q hq => hk q (by simp [hq])) ht.2
      exact ⟨⟨⟨fun _ => ⟨hp n (by omega) h4.1, k2 h4.2⟩, k1⟩, trivial⟩, by simp⟩
theorem tyL_put {m b : Int} {p p' : Int → Prop} {inn : List Frag} (hi : tyL p' inn) (hne : inn ≠ []) (hp : ∀ n : Int, 0 < n → p n → p' (n + b)) : ∀ l : List Frag, wfL m l → nzL l → (∀ n ∈ kdL l, 0 ≤ n) → tyL p l → tyL p' (ptL 0 inn b l) ∧ (l ≠ [] → ptL 0 inn b l ≠ [])
  | [], _, _, _, _ => ⟨trivial, fun h => absurd rfl h⟩
  | x :: r, h, hz, hk, ht => by
    rw [kdL] at hk
    obtain ⟨a1, a2⟩ := tyF_put hi hne hp x h.1 hz.1 (fun n hn => hk n (by simp [hn])) ht.1
    obtain ⟨b1, b2⟩ := tyL_put hi hne hp r h.2 hz.2 (fun n hn => hk n (by simp [hn])) ht.2
    rw [ptL]
    exact ⟨tyL_append.2 ⟨a1, b1⟩, fun _ q => a2 (List.append_eq_nil_iff.1 q).1⟩
end
def isNew (g : Gram) (right : List Int) (n : Int) : Prop := ∃ s, (kids right)[n.toNat]? = some s ∧ g.vars ≤ s
structure ZOk (g : Gram) (x : Work) : Prop where
  ne : x.l ≠ []
  ty : tyL (isNew g x.right) x.l
theorem mix_zok {g : Gram} {N u : Nat} {x y : Work} (hx : XOk g N x) (hy : XOk g N y) (hu : hdI x.right = (u : Int)) (zx : ZOk g x) (zy : ZOk g y) : ZOk g (mixW x y) := by
  have hk := kids_hd hx.ne (by omega)
  obtain ⟨B, C, tx⟩ := hx
  obtain ⟨B', C', ty⟩ := hy
  have e : (mixW x y).l = ptL 0 y.l (((kids y.right).length : Int) - 1) x.l := by
    show plugL x.l 0 y.l _ = _
    unfold plugL
    rw [movL_zero]
  have hkm : kids (mixW x y).right = kids y.right ++ kids x.right.tail := kids_app _ _
  have hi : tyL (isNew g (mixW x y).right) y.l := tyL_mono y.l ty.wf (fun n hn ⟨s, h1, h2⟩ => ⟨s, by
    have := upTo_mem.1 (ty.kd.mem_iff.1 hn)
    rw [hkm, List.getElem?_append_left (by omega)]; exact h1, h2⟩) zy.ty
  obtain ⟨h1, h2⟩ := tyL_put (p := isNew g x.right) (p' := isNew g (mixW x y).right) (b := ((kids y.right).length : Int) - 1) hi zy.ne (fun n hn ⟨s, h1, h2⟩ => ⟨s, by
    obtain ⟨j, rfl⟩ : ∃ j : Nat, n = (j : Int) + 1 := ⟨(n - 1).toNat, by omega⟩
    rw [hk, show ((j : Int) + 1).toNat = j + 1 by omega, List.getElem?_cons_succ] at h1
    rw [hkm, show ((j : Int) + 1 + (((kids y.right).length : Int) - 1)).toNat = (kids y.right).length + j by omega, List.getElem?_append_right (by omega), Nat.add_sub_cancel_left]
    exact h1, h2⟩) x.l tx.wf (tx.nz rfl (by omega)) tx.kd0 zx.ty
  exact ⟨by rw [e]; exact h2 zx.ne, by rw [e]; exact h1⟩
theorem gapped_zok {g : Gram} {N u : Nat} {x : Work} (hx : XOk g N x) (hu : hdI x.right = (u : Int)) (zx : ZOk g x) : ZOk g (gappedW x) := by
  have hk := kids_hd hx.ne (by omega)
  obtain ⟨B, C, tx⟩ := hx
  have e : (gappedW x).l = ptL 0 [gapF] (-1) x.l := by
    show plugL x.l 0 [gapF] 0 = _
    unfold plugL
    rw [movL_zero]; rfl
  obtain ⟨h1, h2⟩ := tyL_put (p := isNew g x.right) (p' := isNew g (gappedW x).right) (b := -1) (inn := [gapF]) ⟨⟨fun q => absurd q (by decide), trivial⟩, trivial⟩ (by simp) (fun n hn ⟨s, h1, h2⟩ => ⟨s, by
    obtain ⟨j, rfl⟩ : ∃ j : Nat, n = (j : Int) + 1 := ⟨(n - 1).toNat, by omega⟩
    rw [hk, show ((j : Int) + 1).toNat = j + 1 by omega, List.getElem?_cons_succ] at h1
    rw [show ((j : Int) + 1 + -1).toNat = j by omega]
    exact h1, h2⟩) x.l tx.wf (tx.nz rfl (by omega)) tx.kd0 zx.ty
  exact ⟨by rw [e]; exact h2 zx.ne, by rw [e]; exact h1⟩
theorem then_zok {g : Gram} {B C M N : Nat} {o : Bool} {x : Work} (hx : TOk g B C M o x) (hN : g.vars ≤ (N : Int)) (zx : ZOk g x) : ∀ w ∈ thenW (N : Int) x, ZOk g w := fun w hw => by
  rw [thenW_is] at hw
  rcases List.mem_cons.1 hw with rfl | hw
  · exact zx
  · rw [List.mem_singleton.1 hw]
    have hkm : kids (wthN N x).right = kids x.right ++ [(N : Int)] := by
      show kids (x.right ++ [(N : Int)]) = _
      rw [kids_app, kids_one]
    refine ⟨by simp [wthN], ⟨fun _ => ⟨⟨N, ?_, hN⟩, zx.ne⟩, tyL_mono x.l hx.wf (fun n hn ⟨s, h1, h2⟩ => ⟨s, ?_, h2⟩) zx.ty⟩, trivial⟩
    · rw [hkm, Int.toNat_natCast, List.getElem?_append_right (Nat.le_refl _), Nat.sub_self]; rfl
    · have := upTo_mem.1 (hx.kd.mem_iff.1 hn)
      rw [hkm, List.getElem?_append_left (by omega)]; exact h1
theorem aheads_zok {g : Gram} {N : Nat} {all : List (List Work)} : ∀ (n u : Nat) {l l' : List Work}, u + n ≤ g.vars.toNat → (∀ w, w < u + n → ∀ y ∈ all.getD w [], XOk g N y ∧ ZOk g y) → (∀ x ∈ l, XOk g N x ∧ ZOk g x) → aheads all u n l = some l' → ∀ x ∈ l', XOk g N x ∧ ZOk g x
  | 0, u, l, l', _, _, h2, h => by rw [aheads] at h; cases h; exact h2
  | n + 1, u, l, l', hn, hA, h2, h => by
    rw [aheads] at h
    cases hc : aheadW (all.getD u []) u l [] with
    | none => rw [hc] at h; cases h
    | some l1 =>
      rw [hc] at h
      have e := aheadW_is hc
      rw [List.nil_append] at e
      subst e
      refine aheads_zok n (u + 1) (by omega) (fun w hw => hA w (by omega)) (fun w hw => ?_) h
      obtain ⟨x, hxl, hw⟩ := List.mem_flatMap.1 hw
      rcases step_mem hw with ⟨_, rfl⟩ | ⟨hu, y, hyA, rfl⟩
      · exact h2 _ hxl
      · have hy := hA u (by omega) y hyA
        have hx := h2 x hxl
        exact ⟨hx.1.mix hy.1 hu, mix_zok hx.1 hy.1 hu hx.2 hy.2⟩
theorem itself_zok {g : Gram} {all : List (List Work)} (hI : TInv g all) (hz : ∀ u, ∀ w ∈ all.getD u [], ZOk g w) {v : Nat} (hv : v < g.vars.toNat) {l : List Work} (hl : ∀ x ∈ l, XOk g all.length x ∧ ZOk g x) : ∀ u, ∀ w ∈ (itselfW all l v).getD u [], ZOk g w := by
  have hva : v < all.length := Nat.lt_of_lt_of_le hv hI.vars
  have hvars := hI.vars
  intro u w hw
  unfold itselfW at hw
  split at hw
  · rw [set_get1 hva] at hw
    split at hw
    · exact (hl w hw).2
    · exact hz u w hw
  · rw [set_get2 hva] at hw
    split at hw
    · obtain ⟨x, hxo, hw⟩ := List.mem_flatMap.1 hw
      obtain ⟨⟨B, C, tx⟩, zx⟩ := hl x (List.mem_filter.1 hxo).1
      exact then_zok tx (by omega) zx w hw
    · split at hw
      · obtain ⟨y, hyo, hw⟩ := List.mem_flatMap.1 hw
        obtain ⟨x, hm, rfl⟩ := List.mem_map.1 hyo
        obtain ⟨h1, h2⟩ := List.mem_filter.1 hm
        have h2 := of_decide_eq_true h2
        obtain ⟨hx, zx⟩ := hl x h1
        have hzg := gapped_zok hx h2 zx
        obtain ⟨B, C, tx⟩ := hx
        exact then_zok (gapped_ok tx (by omega)) (by omega) hzg w hw
      · exact hz u w hw
mutual
theorem ty_holes (p : Int → Prop) (k : Nat) : tyL p (holes k) := by
  unfold holes
  have : ∀ l : List Nat, tyL p (l.map fun (i : Nat) => Frag.mk 2 (i : Int) []) := by
    intro l
    induction l with
    | nil => trivial
    | cons i l ih => exact ⟨⟨fun q => absurd q (by decide), trivial⟩, ih⟩
  exact this _
end
theorem start_zok {g : Gram} : ∀ u, ∀ w ∈ (startW g).getD u [], ZOk g w := fun u w hw => by
  by_cases hu : u < g.vars.toNat
  · rw [startW_get hu] at hw
    obtain ⟨r, hr, e, rfl⟩ := works_mem hw
    exact ⟨by simp [nodeF], ⟨⟨fun q => absurd q (by decide), ty_holes _ _⟩, trivial⟩⟩
  · rw [startW_out hu] at hw; cases hw
theorem turn_ts {g : Gram} (hg : g.ok) : ∀ (n v : Nat) {all z : List (List Work)} {E : Int → Tree → Prop}, v + n ≤ g.vars.toNat → TInv g all → TS g all E → (∀ u, ∀ w ∈ all.getD u [], ZOk g w) → turnAll v n all = .ok z → (∃ E', TS g z E') ∧ ∀ u, ∀ w ∈ z.getD u [], ZOk g w
  | 0, v, all, z, E, _, _, T, hz, h => by rw [turnAll] at h; cases h; exact ⟨⟨E, T⟩, hz⟩
  | n + 1, v, all, z, E, hn, hI, T, hz, h => by
    rw [turnAll] at h
    cases hc : aheads all 0 v (all.getD v []) with
    | none => rw [hc] at h; cases h
    | some l =>
      rw [hc] at h
      dsimp only at h
      split at h
      · rename_i hf
        have h1 := round_ok hg hI (by omega) hc hf
        obtain ⟨k1, k2⟩ := aheads_vs T.base v 0 (by omega) (fun w hw => ⟨T.old w (by omega), hI.xok (by omega)⟩) (T.old v (by omega)) (hI.xok (by omega)) hc
        have k3 := aheads_zok v 0 (by omega) (fun w hw y hy => ⟨hI.xok (by omega) y hy, hz w y hy⟩) (fun x hx => ⟨hI.xok (by omega) x hx, hz v x hx⟩) hc
        obtain ⟨E', T'⟩ := T.itself hI (by omega) k1 k2
        exact turn_ts hg n (v + 1) (by omega) h1 T' (itself_zok hI hz (by omega) k3) h
      · cases h

/-! ### The rules, one behind the other -/
def entW : List (List Work) → Nat → List (Nat × Work)
  | [], _ => []
  | l :: r, v => l.map (fun w => (v, w)) ++ entW r (v + 1)
theorem entW_lists : ∀ (z : List (List Work)) (v : Nat), rulesF z v = (entW z v).map (fun e => (⟨(e.1 : Int), e.2.right⟩ : Rule)) ∧ fragsF z = (entW z v).map (fun e => e.2.l)
  | [], v => ⟨rfl, rfl⟩
  | l :: r, v => by
    obtain ⟨h1, h2⟩ := entW_lists r (v + 1)
    rw [rulesF, fragsF, entW, List.map_append, List.map_append, List.map_map, List.map_map, h1, h2]
    exact ⟨rfl, rfl⟩
theorem entW_mem : ∀ {z : List (List Work)} {v : Nat} {e : Nat × Work}, e ∈ entW z v ↔ ∃ u w, w ∈ z.getD u [] ∧ e = (v + u, w)
  | [], v, e => by simp [entW]
  | l :: r, v, e => by
    rw [entW, List.mem_append, entW_mem (z := r)]
    constructor
    · rintro (h | ⟨u, w, h1, h2⟩)
      · obtain ⟨w, hw, rfl⟩ := List.mem_map.1 h
        exact ⟨0, w, by simpa using hw, rfl⟩
      · exact ⟨u + 1, w, by simpa using h1, by rw [h2, show v + 1 + u = v + (u + 1) by omega]⟩
    · rintro ⟨u, w, h1, rfl⟩
      cases u with
      | zero => exact .inl (List.mem_map.2 ⟨w, by simpa using h1, rfl⟩)
      | succ u => exact .inr ⟨u, w, by simpa using h1, by rw [show v + 1 + u = v + (u + 1) by omega]⟩
theorem entW_pw {R : Nat → Work → Work → Prop} : ∀ (z : List (List Work)) (v : Nat), (∀ u, (z.getD u []).Pairwise (R (v + u))) → (entW z v).Pairwise fun e e' => e.1 = e'.1 → R e.1 e.2 e'.2
  | [], v, _ => List.Pairwise.nil
  | l :: r, v, h => by
    rw [entW, List.pairwise_append]
    refine ⟨?_, entW_pw r (v + 1) (fun u => by have := h (u + 1); rw [show v + (u + 1) = v + 1 + u by omega] at this; simpa using this), fun e he e' he' q => ?_⟩
    · rw [List.pairwise_map]
      have := h 0
      have h2 : l.Pairwise (R v) := by simpa using this
      exact List.Pairwise.imp (fun {a b} hr (_ : v = v) => hr) h2
    · obtain ⟨w, _, rfl⟩ := List.mem_map.1 he
      obtain ⟨u, w', _, rfl⟩ := entW_mem.1 he'
      dsimp only at q
      omega
theorem entW_left {z : List (List Work)} {e : Nat × Work} (h : e ∈ entW z 0) : e.2 ∈ z.getD e.1 [] ∧ e.1 < z.length := by
  obtain ⟨u, w, hw, rfl⟩ := entW_mem.1 h
  rw [Nat.zero_add]
  refine ⟨hw, Classical.byContradiction fun hn => ?_⟩
  rw [List.getD_eq_getElem?_getD, List.getElem?_eq_none (by omega)] at hw; cases hw
end Go.Proofs.Yticnpbopelgmiaa
namespace Go.Proofs.Yticnpbopelgmiaa
open Go.RowKit

/-! ### The rules lead the trees back -/
section
variable {g : Gram} {z : List (List Work)} {E : Int → Tree → Prop}
abbrev turnG (g : Gram) (z : List (List Work)) : Gram := ⟨(z.length : Nat), g.terms, g.start, rulesF z 0⟩
theorem ent_at {r : Nat} (hr : r < (turnG g z).rules.length) : ∃ e, ∃ he : r < (entW z 0).length, (entW z 0)[r] = e ∧ e.2 ∈ z.getD e.1 [] ∧ e.1 < z.length ∧ (turnG g z).rules[r] = ⟨(e.1 : Int), e.2.right⟩ ∧ (fragsF z).getD r [] = e.2.l := by
  obtain ⟨h1, h2⟩ := entW_lists z 0
  have hr : r < (rulesF z 0).length := hr
  have he : r < (entW z 0).length := by rw [h1, List.length_map] at hr; exact hr
  obtain ⟨k1, k2⟩ := entW_left (List.getElem_mem he)
  refine ⟨_, he, rfl, k1, k2, ?_, ?_⟩
  · show (rulesF z 0)[r] = _
    simp only [h1, List.getElem_map]
  · rw [h2, List.getD_eq_getElem?_getD, List.getElem?_map, List.getElem?_eq_getElem he]; rfl
theorem TS.one (T : TS g z E) {u : Nat} (hu : u < z.length) {w : Work} (hw : w ∈ z.getD u []) {xs : List Tree} (hx : EL E xs (kids w.right)) : ∃ y, muL (sing xs) w.l = [y] ∧ E (u : Int) y ∧ gwT g y = gwK g w.right xs ∧ ∀ k ∈ xs, c0T k < c0T y := by
  by_cases h : u < g.vars.toNat
  · have V := T.old u h
    obtain ⟨y, h1, _, h3, h4⟩ := (V.ws w hw).one xs (EL_KE hx)
    exact ⟨y, h1, (T.base _ _ (by omega)).2 ((V.ws w hw).fit xs y hx h1), h3, h4⟩
  · exact (T.new u (by omega) hu).one w hw xs hx
theorem TS.inj (T : TS g z E) {u : Nat} (hu : u < z.length) {w : Work} (hw : w ∈ z.getD u []) {xs xs' : List Tree} (hx : EL E xs (kids w.right)) (hx' : EL E xs' (kids w.right)) (he : muL (sing xs) w.l = muL (sing xs') w.l) : xs = xs' := by
  by_cases h : u < g.vars.toNat
  · exact ((T.old u h).ws w hw).inj xs xs' (EL_KE hx) (EL_KE hx') he
  · exact (T.new u (by omega) hu).inj w hw xs xs' hx hx' he
def DisE (E : Int → Tree → Prop) (w w' : Work) : Prop := ∀ xs xs', EL E xs (kids w.right) → EL E xs' (kids w'.right) → muL (sing xs) w.l ≠ muL (sing xs') w'.l
theorem TS.dis (T : TS g z E) (u : Nat) : (z.getD u []).Pairwise (DisE E) := by
  by_cases hu : u < z.length
  · by_cases h : u < g.vars.toNat
    · exact List.Pairwise.imp (fun {a b} hd xs xs' q q' => hd xs xs' (EL_KE q) (EL_KE q')) (T.old u h).dis
    · exact (T.new u (by omega) hu).dis
  · rw [List.getD_eq_getElem?_getD, List.getElem?_eq_none (by omega)]; exact List.Pairwise.nil
theorem TS.surj (T : TS g z E) {u : Nat} (hu : u < z.length) {y : Tree} (hy : E (u : Int) y) : ∃ w ∈ z.getD u [], ∃ xs, EL E xs (kids w.right) ∧ muL (sing xs) w.l = [y] := by
  by_cases h : u < g.vars.toNat
  · exact (T.old u h).surj y ((T.base _ _ (by omega)).1 hy)
  · exact (T.new u (by omega) hu).surj y hy
theorem TS.leads (T : TS g z E) : Leads (turnG g z) (fragsF z) (oneD E) (gW g) (fun _ l => c0L l) where
  sound r hr ls hd := by
    obtain ⟨⟨u, w⟩, he, e0, e1, e2, e3, e4⟩ := ent_at (g := g) hr
    dsimp only at e1 e2 e3 e4
    rw [e3] at hd ⊢
    dsimp only at hd ⊢
    rw [e4]
    obtain ⟨xs, rfl, hx⟩ := DL_one hd
    obtain ⟨y, h1, h2, h3, _⟩ := T.one e2 e1 hx
    rw [h1, catW_gw]
    refine ⟨⟨y, rfl, h2⟩, ?_⟩
    rw [← h3]; simp
  inj r r' hr hr' ls ls' hl hd hd' he := by
    obtain ⟨⟨u, w⟩, hu, e0, e1, e2, e3, e4⟩ := ent_at (g := g) hr
    obtain ⟨⟨u', w'⟩, hu', f0, f1, f2, f3, f4⟩ := ent_at (g := g) hr'
    dsimp only at e1 e2 e3 e4 f1 f2 f3 f4
    rw [e3] at hd hl
    rw [f3] at hd' hl
    dsimp only at hd hd' hl
    rw [e4, f4] at he
    obtain ⟨xs, rfl, hx⟩ := DL_one hd
    obtain ⟨xs', rfl, hx'⟩ := DL_one hd'
    obtain rfl : u = u' := by omega
    have hpw := List.pairwise_iff_getElem.1 (entW_pw (R := fun _ => DisE E) z 0 fun u => T.dis u)
    have hrr : r = r' := by
      rcases Nat.lt_trichotomy r r' with q | q | q
      · have := hpw r r' hu hu' q
        rw [e0, f0] at this
        exact absurd he (this rfl _ _ hx hx')
      · exact q
      · have := hpw r' r hu' hu q
        rw [e0, f0] at this
        exact absurd he.symm (this rfl _ _ hx' hx)
    subst hrr
    rw [e0] at f0
    obtain ⟨_, rfl⟩ := Prod.mk.inj f0
    exact ⟨rfl, by rw [T.inj e2 e1 hx hx' he]⟩
  surj v l h0 h1 hd := by
    obtain ⟨y, rfl, hy⟩ := hd
    obtain ⟨u, rfl⟩ : ∃ u : Nat, v = (u : Int) := ⟨v.toNat, by omega⟩
    have hu : u < z.length := by
      have : (u : Int) < ((z.length : Nat) : Int) := h1
      omega
    obtain ⟨w, hw, xs, hx, hv⟩ := T.surj hu hy
    obtain ⟨r, hr, e⟩ := List.mem_iff_getElem.1 (entW_mem.2 ⟨u, w, hw, rfl⟩ : ((0 + u, w) : Nat × Work) ∈ entW z 0)
    have hrl : r < (turnG g z).rules.length := by
      show r < (rulesF z 0).length
      rw [(entW_lists z 0).1, List.length_map]; exact hr
    obtain ⟨⟨u', w'⟩, _, e0, e1, e2, e3, e4⟩ := ent_at (g := g) hrl
    rw [e, Nat.zero_add] at e0
    obtain ⟨rfl, rfl⟩ := Prod.mk.inj e0
    dsimp only at e3 e4
    refine ⟨r, hrl, sing xs, by rw [e3], by rw [e3]; exact one_DL hx, by rw [e4, hv], fun i h1 h2 => ?_⟩
    obtain ⟨y', k1, _, _, k4⟩ := T.one hu hw hx
    obtain rfl : y = y' := by rw [hv] at k1; simpa using k1
    rw [sing_len] at h1
    have := k4 _ (List.getElem_mem h1)
    simp only [sing, List.getElem_map, c0L]
    omega
end

/-! ### Every row on the way is small enough -/
mutual
/-- Gaps are leaves. -/
def gfT : Tree → Bool
  | .mk r ks => if r = -1 then decide (ks.length = 0) else gfL ks
def gfL : List Tree → Bool
  | [] => true
  | x :: l => gfT x && gfL l
end
theorem gfL_append : ∀ a b : List Tree, gfL (a ++ b) = (gfL a && gfL b)
  | [], b => by simp [gfL]
  | x :: a, b => by rw [List.cons_append, gfL, gfL, gfL_append a b, Bool.and_assoc]
mutual
theorem gf_fill {w : List Tree} (hw : gfL w = true) : ∀ x : Tree, gfT x = true → gfL (fillT w x) = true
  | .mk r ks, h => by
    rw [gfT] at h
    rw [fillT]
    by_cases hr : r = -1
    · rw [if_pos hr]; exact hw
    · rw [if_neg hr] at h ⊢
      rw [gfL, gfT, if_neg hr, gf_fills hw ks h]; rfl
theorem gf_fills {w : List Tree} (hw : gfL w = true) : ∀ l : List Tree, gfL l = true → gfL (fillL w l) = true
  | [], _ => rfl
  | x :: l, h => by
    rw [gfL, Bool.and_eq_true] at h
    rw [fillL, gfL_append, gf_fill hw x h.1, gf_fills hw l h.2]; rfl
end
mutual
theorem gf_muF {m : Int} {ks : List (List Tree)} (hk : ∀ l ∈ ks, gfL l = true) : ∀ x : Frag, wfF m x → gfL (muF ks x) = true
  | .mk o n l, h => by
    have hg : ∀ n : Nat, gfL (ks.getD n []) = true := fun n => by
      rw [List.getD_eq_getElem?_getD]
      by_cases q : n < ks.length
      · rw [List.getElem?_eq_getElem q]; exact hk _ (List.getElem_mem q)
      · rw [List.getElem?_eq_none (by omega)]; rfl
    rw [wfF] at h
    rcases h with ⟨rfl, h1, _, hl⟩ | ⟨rfl, rfl⟩ | ⟨rfl, _, rfl⟩ | ⟨rfl, hl⟩
    · rw [muF_1, gfL, gfT, if_neg (by omega), gf_muL hk l hl]; rfl
    · rw [muF_2]; exact hg _
    · rw [muF_3]; rfl
    · rw [muF_4]; exact gf_fills (gf_muL hk l hl) _ (hg _)
theorem gf_muL {m : Int} {ks : List (List Tree)} (hk : ∀ l ∈ ks, gfL l = true) : ∀ l : List Frag, wfL m l → gfL (muL ks l) = true
  | [], _ => rfl
  | x :: r, h => by rw [muL, gfL_append, gf_muF hk x h.1, gf_muL hk r h.2]; rfl
end
theorem cnts_pos {l : List Tree} (h : l ≠ []) : 1 ≤ cnts l := by
  cases l with
  | nil => exact absurd rfl h
  | cons x l => have := cnt_pos x; rw [cnts]; omega
mutual
theorem hg_cnt {w : List Tree} : ∀ x : Tree, hgT x = true → cnts w ≤ cnts (fillT w x)
  | .mk r ks, h => by
    rw [hgT, Bool.or_eq_true, decide_eq_true_eq] at h
    rw [fillT]
    by_cases hr : r = -1
    · rw [if_pos hr]; exact Nat.le_refl _
    · rw [if_neg hr]
      have := hg_cnts (w := w) ks (h.resolve_left hr)
      simp only [cnts, cnt]; omega
theorem hg_cnts {w : List Tree} : ∀ l : List Tree, hgL l = true → cnts w ≤ cnts (fillL w l)
  | [], h => by rw [hgL] at h; cases h
  | x :: l, h => by
    rw [hgL, Bool.or_eq_true] at h
    rw [fillL, cnts_append]
    rcases h with h | h
    · have := hg_cnt (w := w) x h; omega
    · have := hg_cnts (w := w) l h; omega
end
mutual
theorem gf_cnt {w : List Tree} (hw : w ≠ []) : ∀ x : Tree, gfT x = true → cnt x ≤ cnts (fillT w x)
  | .mk r ks, h => by
    rw [gfT] at h
    rw [fillT]
    by_cases hr : r = -1
    · rw [if_pos hr] at h ⊢
      have h1 := cnts_pos hw
      obtain rfl : ks = [] := List.eq_nil_of_length_eq_zero (of_decide_eq_true h)
      simp only [cnt, cnts]; omega
    · rw [if_neg hr] at h ⊢
      have := gf_cnts hw ks h
      simp only [cnts, cnt]; omega
theorem gf_cnts {w : List Tree} (hw : w ≠ []) : ∀ l : List Tree, gfL l = true → cnts l ≤ cnts (fillL w l)
  | [], _ => by simp [cnts]
  | x :: l, h => by
    rw [gfL, Bool.and_eq_true] at h
    have h1 := gf_cnt hw x h.1
    have h2 := gf_cnts hw l h.2
    rw [fillL, cnts_append, cnts]; omega
end
theorem fill_ne {w : List Tree} (hw : w ≠ []) : ∀ {l : List Tree}, l ≠ [] → fillL w l ≠ []
  | [], h => absurd rfl h
  | x :: l, _ => by
    rw [fillL]
    intro q
    have := (List.append_eq_nil_iff.1 q).1
    rw [fillT_eq] at this
    split at this
    · exact hw this
    · cases this
section
variable {m : Int} {p : Int → Prop} {ks : List (List Tree)}
mutual
theorem muF_ne : ∀ x : Frag, wfF m x → tyF p x → (∀ n ∈ kdF x, ks.getD n.toNat [] ≠ []) → muF ks x ≠ []
  | .mk o n l, h, ht, hk => by
    rw [wfF] at h
    rw [tyF] at ht
    rcases h with ⟨rfl, _, _, hl⟩ | ⟨rfl, rfl⟩ | ⟨rfl, _, rfl⟩ | ⟨rfl, hl⟩
    · rw [muF_1]; simp
    · rw [muF_2]; exact hk n (by rw [kd_two]; simp)
    · rw [muF_3]; simp
    · rw [kdF_4] at hk
      rw [muF_4]
      exact fill_ne (muL_ne l hl ht.2 (fun q hq => hk q (by simp [hq])) (ht.1 rfl).2) (hk n (by simp))
theorem muL_ne : ∀ l : List Frag, wfL m l → tyL p l → (∀ n ∈ kdL l, ks.getD n.toNat [] ≠ []) → l ≠ [] → muL ks l ≠ []
  | [], _, _, _, h => absurd rfl h
  | x :: r, h, ht, hk, _ => by
    rw [kdL] at hk
    rw [muL]
    intro q
    exact muF_ne x h.1 ht.1 (fun n hn => hk n (by simp [hn])) (List.append_eq_nil_iff.1 q).1
end
mutual
theorem mkF_turn (hp : ∀ n, p n → hgL (ks.getD n.toNat []) = true) : ∀ x : Frag, wfF m x → tyF p x → cnts (muF ks x) ≤ 400 → mkF ks x = some (muF ks x)
  | .mk o n l, h, ht, hc => by
    rw [wfF] at h
    rw [tyF] at ht
    rcases h with ⟨rfl, _, _, hl⟩ | ⟨rfl, rfl⟩ | ⟨rfl, _, rfl⟩ | ⟨rfl, hl⟩
    · rw [muF_1] at hc ⊢
      simp only [cnts, cnt] at hc
      rw [mkF, if_pos rfl, mkA_turn hp l hl ht.2 (by omega)]
      show ((fits4 (muL ks l)).map _) = _
      unfold fits4
      rw [if_pos (by omega)]; rfl
    · rw [muF_2, mkF, if_neg (by decide), if_pos rfl]
    · rw [muF_3, mkF, if_neg (by decide), if_neg (by decide), if_pos rfl]
    · rw [muF_4] at hc ⊢
      have h1 := hg_cnts (w := muL ks l) _ (hp n (ht.1 rfl).1)
      rw [mkF, if_neg (by decide), if_neg (by decide), if_neg (by decide), if_pos rfl, mkA_turn hp l hl ht.2 (by omega)]
      show ((fits4 (muL ks l)).bind _) = _
      unfold fits4
      rw [if_pos (by omega)]
      show (if _ then _ else _) = _
      rw [if_pos hc]
theorem mkA_turn (hp : ∀ n, p n → hgL (ks.getD n.toNat []) = true) : ∀ l : List Frag, wfL m l → tyL p l → cnts (muL ks l) ≤ 400 → mkA ks l = some (muL ks l)
  | [], _, _, _ => rfl
  | x :: r, h, ht, hc => by
    rw [muL, cnts_append] at hc
    rw [mkA, mkF_turn hp x h.1 ht.1 (by omega), mkA_turn hp r h.2 ht.2 (by omega), muL]
    rfl
end
mutual
theorem usF_turn (hg : ∀ n : Nat, gfL (ks.getD n []) = true) : ∀ x : Frag, wfF m x → tyF p x → (∀ n ∈ kdF x, ks.getD n.toNat [] ≠ []) → (∀ n, p n → hgL (ks.getD n.toNat []) = true) → ∀ n ∈ kdF x, cnts (ks.getD n.toNat []) ≤ cnts (muF ks x)
  | .mk o n l, h, ht, hk, hp => by
    intro q hq
    rw [wfF] at h
    rw [tyF] at ht
    rcases h with ⟨rfl, _, _, hl⟩ | ⟨rfl, rfl⟩ | ⟨rfl, _, rfl⟩ | ⟨rfl, hl⟩
    · rw [kdF_1] at hk hq
      have := usL_turn hg l hl ht.2 hk hp q hq
      rw [muF_1]; simp only [cnts, cnt]; omega
    · rw [kd_two] at hq
      rw [List.mem_singleton.1 hq, muF_2]; exact Nat.le_refl _
    · rw [kdF, if_neg (by decide), if_neg (by decide), if_neg (by decide)] at hq; cases hq
    · rw [kdF_4] at hk hq
      have hk' : ∀ n ∈ kdL l, ks.getD n.toNat [] ≠ [] := fun q hq => hk q (by simp [hq])
      rw [muF_4]
      rcases List.mem_cons.1 hq with rfl | hq
      · exact gf_cnts (muL_ne l hl ht.2 hk' (ht.1 rfl).2) _ (hg _)
      · have h1 := usL_turn hg l hl ht.2 hk' hp q hq
        have h2 := hg_cnts (w := muL ks l) _ (hp n (ht.1 rfl).1)
        omega
theorem usL_turn (hg : ∀ n : Nat, gfL (ks.getD n []) = true) : ∀ l : List Frag, wfL m l → tyL p l → (∀ n ∈ kdL l, ks.getD n.toNat [] ≠ []) → (∀ n, p n → hgL (ks.getD n.toNat []) = true) → ∀ n ∈ kdL l, cnts (ks.getD n.toNat []) ≤ cnts (muL ks l)
  | [], _, _, _, _ => fun q hq => by rw [kdL] at hq; cases hq
  | x :: r, h, ht, hk, hp => by
    intro q hq
    rw [kdL] at hk hq
    rw [muL, cnts_append]
    rcases List.mem_append.1 hq with hq | hq
    · have := usF_turn hg x h.1 ht.1 (fun n hn => hk n (by simp [hn])) hp q hq; omega
    · have := usL_turn hg r h.2 ht.2 (fun n hn => hk n (by simp [hn])) hp q hq; omega
end
end
section
variable {g : Gram} {z : List (List Work)} {E : Int → Tree → Prop}
/-- What a tree of the new grammar makes: every row on the way is small enough; its gaps are leaves. -/
theorem turn_okT (T : TS g z E) (hI : TInv g z) (hz : ∀ u, ∀ w ∈ z.getD u [], ZOk g w) : ∀ (n : Nat) (t : Tree) (v : Int), cnt t ≤ n → fits (turnG g z) t v = true → gfL (vaT ⟨turnG g z, fragsF z, []⟩ t) = true ∧ (cnts (vaT ⟨turnG g z, fragsF z, []⟩ t) ≤ 400 → okT ⟨turnG g z, fragsF z, []⟩ t)
  | 0, t, _, hn, _ => by have := cnt_pos t; omega
  | n + 1, t, v, hn, hf => by
    obtain ⟨r, hr, e1, e2, e3, e4, _⟩ := fits_parts hf
    obtain ⟨⟨u, w⟩, he, e0, f1, f2, f3, f4⟩ := ent_at (g := g) hr
    dsimp only at f1 f2 f3 f4
    have hto := hI.ok u w f1
    have hzo := hz u w f1
    rw [f3] at e2 e3 e4
    dsimp only at e2 e3 e4
    have hsub : ∀ x ∈ t.kids, cnt x ≤ n := fun x hx => by
      have := cnts_mem hx; rw [cnt_eq] at hn; omega
    have hL : Leads (turnG g z) (⟨turnG g z, fragsF z, []⟩ : Step).frags (oneD E) (gW g) (fun _ l => c0L l) := T.leads
    have hrow : ∀ (i : Nat) (h1 : i < t.kids.length) (h2 : i < (kids w.right).length), oneD E (kids w.right)[i] (vaT ⟨turnG g z, fragsF z, []⟩ t.kids[i]) := fun i h1 h2 =>
      (lead_sound hL _ _ _ (Nat.le_refl _) (fitss_at e4 h1 h2)).1
    have hgk : ∀ l ∈ vaL ⟨turnG g z, fragsF z, []⟩ t.kids, gfL l = true := fun l hl => by
      obtain ⟨i, hi, rfl⟩ := List.mem_iff_getElem.1 hl
      rw [vaL_len] at hi
      rw [vaL_get _ _ i hi]
      exact (turn_okT T hI hz n _ _ (hsub _ (List.getElem_mem hi)) (fitss_at e4 hi (by omega))).1
    have hgn : ∀ i : Nat, gfL ((vaL ⟨turnG g z, fragsF z, []⟩ t.kids).getD i []) = true := fun i => by
      rw [List.getD_eq_getElem?_getD]
      by_cases q : i < (vaL ⟨turnG g z, fragsF z, []⟩ t.kids).length
      · rw [List.getElem?_eq_getElem q]; exact hgk _ (List.getElem_mem q)
      · rw [List.getElem?_eq_none (by omega)]; rfl
    have hat : ∀ i : Nat, i < t.kids.length → ∃ s y, (kids w.right)[i]? = some s ∧ E s y ∧ (vaL ⟨turnG g z, fragsF z, []⟩ t.kids).getD i [] = [y] := fun i hi => by
      obtain ⟨y, h1, h2⟩ := hrow i hi (by omega)
      refine ⟨_, y, List.getElem?_eq_getElem (by omega), h2, ?_⟩
      rw [List.getD_eq_getElem?_getD, List.getElem?_eq_getElem (by rw [vaL_len]; exact hi), Option.getD_some, vaL_get _ _ i hi, h1]
    have hkd : ∀ q ∈ kdL w.l, 0 ≤ q ∧ q.toNat < t.kids.length := fun q hq => by
      have := upTo_mem.1 (hto.kd.mem_iff.1 hq)
      omega
    have hne : ∀ q ∈ kdL w.l, (vaL ⟨turnG g z, fragsF z, []⟩ t.kids).getD q.toNat [] ≠ [] := fun q hq => by
      obtain ⟨s, y, _, _, h3⟩ := hat _ (hkd q hq).2
      rw [h3]; simp
    have hp : ∀ q, isNew g w.right q → hgL ((vaL ⟨turnG g z, fragsF z, []⟩ t.kids).getD q.toNat []) = true := fun q ⟨s, h1, h2⟩ => by
      have hlt : q.toNat < (kids w.right).length := Classical.byContradiction fun hn => by
        rw [List.getElem?_eq_none (by omega)] at h1; cases h1
      obtain ⟨s', y, k1, k2, k3⟩ := hat q.toNat (by omega)
      rw [h1] at k1
      cases k1
      have hmem : s ∈ w.right := (List.mem_filter.1 (List.mem_of_getElem? h1)).1
      have h0 : 0 ≤ s := of_decide_eq_true (List.mem_filter.1 (List.mem_of_getElem? h1)).2
      have hs := (hto.sym s hmem).2
      obtain ⟨N, rfl⟩ : ∃ N : Nat, s = (N : Int) := ⟨s.toNat, by omega⟩
      have := (T.gap N (by omega) (by omega) y k2).1
      rw [k3, hgL, this]; rfl
    have hfr : (⟨turnG g z, fragsF z, []⟩ : Step).frags.getD t.rule.toNat [] = w.l := by
      rw [e1, Int.toNat_natCast]; exact f4
    refine ⟨?_, fun hc => ?_⟩
    · rw [vaT_eq, hfr]
      exact gf_muL hgk w.l hto.wf
    · rw [vaT_eq, hfr] at hc
      rw [okT_eq, hfr]
      refine ⟨(okL_iff _ _).2 fun x hx => ?_, ?_⟩
      · obtain ⟨k, hk, rfl⟩ := List.mem_iff_getElem.1 hx
        refine (turn_okT T hI hz n _ _ (hsub _ hx) (fitss_at e4 hk (by omega))).2 ?_
        have hmem : (k : Int) ∈ kdL w.l := hto.kd.mem_iff.2 (upTo_mem.2 (by omega))
        have := usL_turn hgn w.l hto.wf hzo.ty hne hp _ hmem
        rw [Int.toNat_natCast, List.getD_eq_getElem?_getD, List.getElem?_eq_getElem (by rw [vaL_len]; exact hk), Option.getD_some, vaL_get _ _ k hk] at this
        omega
      · unfold mkL
        rw [mkA_turn hp w.l hto.wf hzo.ty hc]
        show fits4 _ = _
        unfold fits4
        rw [if_pos hc]
end
/-- What comes of Make isn't cyclic. -/
theorem turn_acyc {g : Gram} (hg : g.ok) (he : ∀ r ∈ g.rules, r.right ≠ []) (hc : cycL g = []) {z : List (List Work)} (hz : turnAll 0 g.vars.toNat (startW g) = .ok z) : cycL (turnG g z) = [] := by
  have hH := turnAll_hd hg g.vars.toNat 0 (by omega) (start_tinv hg he) (start_hd hg he hc) hz
  have hgk : (turnG g z).ok := turn_gok hg he hz
  have hv0 := hg.vars1
  have hrow : ∀ r ∈ rulesF z 0, 0 ≤ r.left ∧ ∃ w ∈ z.getD r.left.toNat [], r.right = w.right := fun r hr => by
    obtain ⟨b1, b2, w, b3, b4⟩ := rulesF_left hr
    exact ⟨by omega, w, by simpa using b3, b4⟩
  have hne : ∀ r ∈ (turnG g z).rules, r.right ≠ [] := fun r hr => by
    obtain ⟨a, w, hw, e⟩ := hrow r hr
    rw [e]
    by_cases q : r.left.toNat < g.vars.toNat
    · exact (hH.old _ q w hw).ne
    · exact (hH.new _ (by omega) w hw).1
  refine acyclic hgk (fun s => if s < g.vars then (g.vars - s).toNat else (s + g.vars).toNat) fun v u h0 h1 hu => ?_
  obtain ⟨r, hr, rfl, pre, post, e1, hu0, e2, e3⟩ := stepA_iff.1 hu
  have hnn : ∀ s, has (nulB (turnG g z)) s = false := no_null hgk hne
  have hpre : pre = [] := by
    cases pre with
    | nil => rfl
    | cons a pre =>
      rw [inAll, List.all_cons, hnn] at e2; cases e2
  rw [hpre, List.nil_append] at e1
  obtain ⟨a, w, hw, e⟩ := hrow r hr
  have hhd : hdI w.right = u := by rw [← e, e1]; rfl
  by_cases q : r.left.toNat < g.vars.toNat
  · have h := hH.old _ q w hw
    rw [if_pos q] at h
    have k1 := h.from_
    have k2 := h.old
    rw [hhd] at k1 k2
    rw [if_pos k2, if_pos (by omega)]
    omega
  · have h := (hH.new _ (by omega) w hw).2
    rw [hhd] at h
    rw [if_neg (show ¬ r.left < g.vars by omega)]
    split <;> omega
theorem turnS_same {g : Gram} (h : (turnS g).2.code = 0) (w : List Int) : SameOk g (turnS g).1 w false := by
  have hs := turnS_step h
  rcases turnS_cases g with ⟨h1, _⟩ | ⟨z, hg, he, hc, hz, e⟩
  · exact absurd h h1
  rw [e] at hs ⊢
  obtain ⟨⟨E, T⟩, hzo⟩ := turn_ts hg g.vars.toNat 0 (by omega) (start_tinv hg he) start_ts start_zok hz
  have hI := (turn_inv hg he hz).1
  have hL : Leads (turnG g z) (fragsF z) (oneD E) (gW g) (fun _ l => c0L l) := T.leads
  have hst : Starts g (turnG g z) (oneD E) (gW g) w := ⟨fun l hl => by
      obtain ⟨x, rfl, hx⟩ := hl
      have hf := (T.base _ _ hg.start).1 hx
      exact ⟨x, rfl, hf, by rw [← gw_fits x _ hf]; simp⟩, fun x hx _ => ⟨x, rfl, (T.base _ _ hg.start).2 hx⟩⟩
  refine same_ok (s := ⟨turnG g z, fragsF z, []⟩) (by rw [hs]) rfl (fun _ => turn_acyc hg he hc hz) hL hst fun t ht _ hb => ?_
  refine (turn_okT T hI hzo _ t _ (Nat.le_refl _) ht.1).2 ?_
  rw [(backF_is (s := ⟨turnG g z, fragsF z, []⟩) hL hst ht).1]
  simp only [cnts]; omega
end Go.Proofs.Yticnpbopelgmiaa
