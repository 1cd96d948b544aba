/-
  Turn, plain: what rules on the way make of trees, whatever stands first. Turn, plain: an earlier nonterminal's rules in its place lead the trees back as before.
-/
import Derived.Test.YticnpbopelgmiaaQTurnT
set_option linter.unusedVariables false
set_option linter.unusedSimpArgs false
set_option linter.unusedSectionVars false
namespace Go.Proofs.Yticnpbopelgmiaa
open Go.RowKit

/-! ### One tree put into the gaps of one -/
abbrev gapN : Tree := .mk (-1) []
def fil (b a : Tree) : Tree := if a.rule = -1 then b else .mk a.rule (fillL [b] a.kids)
theorem fil_is (b a : Tree) : fillT [b] a = [fil b a] := by
  rw [fillT_eq]; unfold fil; split <;> rfl
theorem fil_row (b a : Tree) : fillL [b] [a] = [fil b a] := by
  rw [fillL, fillL, List.append_nil, fil_is]
theorem fil_gap (b : Tree) : fil b gapN = b := if_pos rfl

/-! ### Templates -/
theorem muF_1 (ks : List (List Tree)) (n : Int) (l : List Frag) : muF ks (.mk 1 n l) = [.mk n (muL ks l)] := by rw [muF, if_pos rfl]
theorem muF_2 (ks : List (List Tree)) (n : Int) (l : List Frag) : muF ks (.mk 2 n l) = ks.getD n.toNat [] := by rw [muF, if_neg (by decide), if_pos rfl]
theorem muF_3 (ks : List (List Tree)) (n : Int) (l : List Frag) : muF ks (.mk 3 n l) = [gapN] := by rw [muF, if_neg (by decide), if_neg (by decide), if_pos rfl]
theorem muF_4 (ks : List (List Tree)) (n : Int) (l : List Frag) : muF ks (.mk 4 n l) = fillL (muL ks l) (ks.getD n.toNat []) := by rw [muF, if_neg (by decide), if_neg (by decide), if_neg (by decide), if_pos rfl]
theorem kdF_1 (n : Int) (l : List Frag) : kdF (.mk 1 n l) = kdL l := by rw [kdF, if_pos rfl]
theorem kdF_4 (n : Int) (l : List Frag) : kdF (.mk 4 n l) = n :: kdL l := by rw [kdF, if_neg (by decide), if_neg (by decide), if_pos rfl]
mutual
theorem muF_ext {m : Int} {ks ks' : List (List Tree)} : ∀ x : Frag, wfF m x → (∀ n ∈ kdF x, ks.getD n.toNat [] = ks'.getD n.toNat []) → muF ks x = muF ks' x
  | .mk o n l, h, hk => by
    rw [wfF] at h
    rcases h with ⟨rfl, _, _, hl⟩ | ⟨rfl, rfl⟩ | ⟨rfl, _, rfl⟩ | ⟨rfl, hl⟩
    · rw [kdF_1] at hk
      rw [muF_1, muF_1, muL_ext l hl hk]
    · rw [kd_two] at hk
      rw [muF_2, muF_2, hk n (by simp)]
    · rw [muF_3, muF_3]
    · rw [kdF_4] at hk
      rw [muF_4, muF_4, muL_ext l hl (fun q hq => hk q (by simp [hq])), hk n (by simp)]
theorem muL_ext {m : Int} {ks ks' : List (List Tree)} : ∀ l : List Frag, wfL m l → (∀ n ∈ kdL l, ks.getD n.toNat [] = ks'.getD n.toNat []) → muL ks l = muL ks' l
  | [], _, _ => rfl
  | x :: r, h, hk => by
    rw [kdL] at hk
    rw [muL, muL, muF_ext x h.1 (fun n hn => hk n (by simp [hn])), muL_ext r h.2 (fun n hn => hk n (by simp [hn]))]
end
mutual
theorem muF_put {m b : Int} {ks ls : List (List Tree)} {inn : List Frag} (h0 : muL ks inn = ls.getD 0 []) (hs : ∀ n : Int, 0 < n → ks.getD (n + b).toNat [] = ls.getD n.toNat []) : ∀ x : Frag, wfF m x → nzF x → (∀ n ∈ kdF x, 0 ≤ n) → muL ks (ptF 0 inn b x) = muF ls x
  | .mk o n l, h, hz, hk => by
    rw [wfF] at h
    rw [nzF] at hz
    rw [ptF]
    rcases h with ⟨rfl, _, _, hl⟩ | ⟨rfl, rfl⟩ | ⟨rfl, h1, rfl⟩ | ⟨rfl, hl⟩
    · rw [kdF_1] at hk
      rw [if_neg (fun q => absurd q.1 (by decide)), if_neg (fun q => absurd q.1 (by decide)), muL, muL, List.append_nil, muF_1, muF_1, muL_put h0 hs l hl hz.2 hk]
      have : mvN 1 n 0 b = n := by
        unfold mvN; rw [if_neg (fun q => by rcases q.1 with q | q <;> exact absurd q (by decide))]
      rw [this]
    · rw [kd_two] at hk
      have h2 := hk n (by simp)
      by_cases e : n = 0
      · subst e
        rw [if_pos ⟨rfl, rfl⟩, muF_2, h0]; rfl
      · rw [if_neg (fun q => e q.2), if_neg (fun q => absurd q.1 (by decide)), muL, muL, List.append_nil, muF_2, muF_2, mvN_is (.inl rfl), if_pos (by omega)]
        exact hs n (by omega)
    · rw [if_neg (fun q => absurd q.1 (by decide)), if_neg (fun q => absurd q.1 (by decide)), muL, muL, List.append_nil, muF_3, muF_3]
    · rw [kdF_4] at hk
      have h2 := hk n (by simp)
      have h3 : ¬ n = 0 := fun q => hz.1 ⟨rfl, q⟩
      rw [if_neg (fun q => absurd q.1 (by decide)), if_neg (fun q => h3 q.2), muL, muL, List.append_nil, muF_4, muF_4, mvN_is (.inr rfl), if_pos (by omega), hs n (by omega), muL_put h0 hs l hl hz.2 (fun q hq => hk q (by simp [hq]))]
theorem muL_put {m b : Int} {ks ls : List (List Tree)} {inn : List Frag} (h0 : muL ks inn = ls.getD 0 []) (hs : ∀ n : Int, 0 < n → ks.getD (n + b).toNat [] = ls.getD n.toNat []) : ∀ l : List Frag, wfL m l → nzL l → (∀ n ∈ kdL l, 0 ≤ n) → muL ks (ptL 0 inn b l) = muL ls l
  | [], _, _, _ => rfl
  | x :: r, h, hz, hk => by
    rw [kdL] at hk
    rw [ptL, muL_append, muL, muF_put h0 hs x h.1 hz.1 (fun n hn => hk n (by simp [hn])), muL_put h0 hs r h.2 hz.2 (fun n hn => hk n (by simp [hn]))]
end

/-! ### Words and sizes of trees with gaps -/
def catR : List Int → List (List Int) → List Int
  | [], _ => []
  | s :: r, ws => if s < 0 then (-1 - s) :: catR r ws else match ws with
    | w :: ws => w ++ catR r ws
    | [] => catR r []
theorem catR_nil (ws : List (List Int)) : catR [] ws = [] := by rw [catR.eq_def]
theorem catR_neg {s : Int} (h : s < 0) (r : List Int) (ws : List (List Int)) : catR (s :: r) ws = (-1 - s) :: catR r ws := by rw [catR.eq_def]; simp [h]
theorem catR_pos {s : Int} (h : ¬ s < 0) (r : List Int) (w : List Int) (ws : List (List Int)) : catR (s :: r) (w :: ws) = w ++ catR r ws := by rw [catR.eq_def]; simp [h]
theorem catR_out {s : Int} (h : ¬ s < 0) (r : List Int) : catR (s :: r) [] = catR r [] := by rw [catR.eq_def]; simp [h]
mutual
def gwT (g : Gram) : Tree → List Int
  | .mk r ks => if r < 0 then [] else catR ((g.rules[r.toNat]?).getD ⟨0, []⟩).right (gwL g ks)
def gwL (g : Gram) : List Tree → List (List Int)
  | [] => []
  | x :: l => gwT g x :: gwL g l
end
mutual
def c0T : Tree → Nat
  | .mk r ks => (if r < 0 then 0 else 1) + c0L ks
def c0L : List Tree → Nat
  | [] => 0
  | x :: l => c0T x + c0L l
end
abbrev gwK (g : Gram) (right : List Int) (xs : List Tree) : List Int := catR right (gwL g xs)
theorem gwL_len (g : Gram) : ∀ l : List Tree, (gwL g l).length = l.length
  | [] => rfl
  | x :: l => by rw [gwL, List.length_cons, List.length_cons, gwL_len g l]
theorem gwL_append (g : Gram) : ∀ a b : List Tree, gwL g (a ++ b) = gwL g a ++ gwL g b
  | [], b => rfl
  | x :: a, b => by rw [List.cons_append, gwL, gwL, gwL_append g a b]; rfl
theorem catR_append : ∀ {a b : List Int} {ws vs : List (List Int)}, ws.length = (kids a).length → catR (a ++ b) (ws ++ vs) = catR a ws ++ catR b vs
  | [], b, ws, vs, h => by
    obtain rfl : ws = [] := List.eq_nil_of_length_eq_zero h
    rw [catR_nil]; rfl
  | s :: a, b, ws, vs, h => by
    by_cases hs : s < 0
    · rw [kidsN hs] at h
      rw [List.cons_append, catR_neg hs, catR_neg hs, catR_append h]; rfl
    · rw [kidsP hs] at h
      cases ws with
      | nil => simp at h
      | cons w ws =>
        rw [List.cons_append, List.cons_append, catR_pos hs, catR_pos hs, catR_append (by simpa using h), List.append_assoc]
theorem gwK_append {g : Gram} {a b : List Int} {ys xs : List Tree} (h : ys.length = (kids a).length) : gwK g (a ++ b) (ys ++ xs) = gwK g a ys ++ gwK g b xs := by
  unfold gwK
  rw [gwL_append, catR_append (by rw [gwL_len, h])]
abbrev gW (g : Gram) (_ : Int) (l : List Tree) : List Int := l.flatMap (gwT g)
theorem catW_gw (g : Gram) : ∀ (ss : List Int) (xs : List Tree), catW (gW g) ss (sing xs) = gwK g ss xs
  | [], xs => by rw [catW_nil, gwK, catR_nil]
  | s :: ss, xs => by
    by_cases hs : s < 0
    · rw [catW_neg hs, gwK, catR_neg hs, catW_gw g ss xs]
    · cases xs with
      | nil => rw [gwK, gwL, catR_out hs]; exact (catW_out hs ss).trans (catW_gw g ss [])
      | cons x xs =>
        rw [gwK, gwL, catR_pos hs, ← gwK, ← catW_gw g ss xs]
        show catW (gW g) (s :: ss) ([x] :: sing xs) = _
        rw [catW_pos hs]
        simp
theorem gwK_word {g : Gram} : ∀ (ss : List Int) (xs : List Tree), (∀ y ∈ xs, gwT g y = wordT g y) → gwK g ss xs = wordL g ss xs
  | [], xs, _ => by rw [gwK, catR_nil, wordL_nil]
  | s :: ss, xs, h => by
    by_cases hs : s < 0
    · rw [gwK, catR_neg hs, wordL_neg hs, ← gwK, gwK_word ss xs h]
    · cases xs with
      | nil => rw [gwK, gwL, catR_out hs, wordL_out hs]; exact gwK_word ss [] h
      | cons x xs => rw [gwK, gwL, catR_pos hs, wordL_pos hs, h x (by simp), ← gwK, gwK_word ss xs fun y hy => h y (by simp [hy])]
theorem gwT_mk {g : Gram} {r : Nat} (hr : r < g.rules.length) (ks : List Tree) : gwT g (.mk (r : Int) ks) = gwK g g.rules[r].right ks := by
  rw [gwT, if_neg (by omega), Int.toNat_natCast, List.getElem?_eq_getElem hr]; rfl
theorem gw_fits {g : Gram} : ∀ (x : Tree) (v : Int), fits g x v = true → gwT g x = wordT g x := by
  refine Tree.ind fun x ih v hf => ?_
  obtain ⟨r, hr, e1, e2, e3, e4, e5⟩ := fits_parts hf
  have hx : x = .mk (r : Int) x.kids := by rw [← e1]; exact Tree.eta x
  rw [e5]
  conv => lhs; rw [hx]
  rw [gwT_mk hr]
  refine gwK_word _ _ fun y hy => ?_
  obtain ⟨i, hi, rfl⟩ := List.mem_iff_getElem.1 hy
  exact ih _ hy _ (fitss_at e4 hi (by omega))
theorem c0_mk {r : Nat} {ks : List Tree} : c0T (.mk (r : Int) ks) = 1 + c0L ks := by
  rw [c0T, if_neg (by omega)]
theorem c0_mem : ∀ {l : List Tree} {x : Tree}, x ∈ l → c0T x ≤ c0L l
  | y :: l, x, h => by
    rw [c0L]
    rcases List.mem_cons.1 h with rfl | h
    · omega
    · have := c0_mem h; omega
theorem c0_pos {x : Tree} (h : 0 ≤ x.rule) : 1 ≤ c0T x := by
  cases x with
  | mk r ks =>
    have h : 0 ≤ r := h
    rw [c0T, if_neg (by omega)]; omega
theorem c0_gap : c0T gapN = 0 := by decide

/-! ### Kids, of which the first may be anything -/
theorem EL_nil {E : Int → Tree → Prop} : EL E [] [] := ⟨rfl, fun i h1 _ => by simp at h1⟩
theorem EL_cons {E : Int → Tree → Prop} {x : Tree} {xs : List Tree} {u : Int} {us : List Int} : EL E (x :: xs) (u :: us) ↔ E u x ∧ EL E xs us := by
  constructor
  · rintro ⟨h1, h2⟩
    exact ⟨h2 0 (by simp) (by simp), by simpa using h1, fun i q1 q2 => h2 (i + 1) (by simpa using q1) (by simpa using q2)⟩
  · rintro ⟨h0, h1, h2⟩
    refine ⟨by simpa using h1, fun i q1 q2 => ?_⟩
    cases i with
    | zero => exact h0
    | succ i => exact h2 i (by simpa using q1) (by simpa using q2)
theorem EL_app {E : Int → Tree → Prop} : ∀ {ys xs : List Tree} {us vs : List Int}, EL E ys us → EL E xs vs → EL E (ys ++ xs) (us ++ vs)
  | [], xs, us, vs, h1, h2 => by
    obtain rfl : us = [] := List.eq_nil_of_length_eq_zero h1.1.symm
    exact h2
  | y :: ys, xs, [], vs, h1, _ => by have := h1.1; simp at this
  | y :: ys, xs, u :: us, vs, h1, h2 => by
    obtain ⟨k1, k2⟩ := EL_cons.1 h1
    exact EL_cons.2 ⟨k1, EL_app k2 h2⟩
theorem EL_split {E : Int → Tree → Prop} : ∀ {us vs : List Int} {zs : List Tree}, EL E zs (us ++ vs) → ∃ ys xs, zs = ys ++ xs ∧ EL E ys us ∧ EL E xs vs
  | [], vs, zs, h => ⟨[], zs, rfl, EL_nil, h⟩
  | u :: us, vs, [], h => by have := h.1; simp at this
  | u :: us, vs, z :: zs, h => by
    obtain ⟨k1, k2⟩ := EL_cons.1 h
    obtain ⟨ys, xs, rfl, h1, h2⟩ := EL_split k2
    exact ⟨z :: ys, xs, rfl, EL_cons.2 ⟨k1, h1⟩, h2⟩
theorem EL_mono {E E' : Int → Tree → Prop} {us : List Int} {xs : List Tree} (h : ∀ s ∈ us, ∀ z, E s z → E' s z) (hx : EL E xs us) : EL E' xs us :=
  ⟨hx.1, fun i h1 h2 => h _ (List.getElem_mem h2) _ (hx.2 i h1 h2)⟩
def KE (E : Int → Tree → Prop) : List Int → List Tree → Prop
  | [], xs => xs = []
  | s :: r, xs => if 0 ≤ s then ∃ a ys, xs = a :: ys ∧ EL E ys (kids r) else EL E xs (kids r)
theorem KE_pos {E : Int → Tree → Prop} {s : Int} {r : List Int} {xs : List Tree} (h : 0 ≤ s) : KE E (s :: r) xs ↔ ∃ a ys, xs = a :: ys ∧ EL E ys (kids r) := by rw [KE, if_pos h]
theorem KE_neg {E : Int → Tree → Prop} {s : Int} {r : List Int} {xs : List Tree} (h : ¬ 0 ≤ s) : KE E (s :: r) xs ↔ EL E xs (kids r) := by rw [KE, if_neg h]
theorem EL_KE {E : Int → Tree → Prop} {right : List Int} {xs : List Tree} (h : EL E xs (kids right)) : KE E right xs := by
  cases right with
  | nil => exact List.eq_nil_of_length_eq_zero h.1
  | cons s r =>
    by_cases hs : 0 ≤ s
    · rw [kidsP (by omega)] at h
      cases xs with
      | nil => have := h.1; simp at this
      | cons a ys => exact (KE_pos hs).2 ⟨a, ys, rfl, (EL_cons.1 h).2⟩
    · rw [kidsN (by omega)] at h
      exact (KE_neg hs).2 h
theorem KE_len {E : Int → Tree → Prop} {right : List Int} {xs : List Tree} (h : KE E right xs) : xs.length = (kids right).length := by
  cases right with
  | nil => rw [KE] at h; rw [h]; rfl
  | cons s r =>
    by_cases hs : 0 ≤ s
    · obtain ⟨a, ys, rfl, h2⟩ := (KE_pos hs).1 h
      rw [kidsP (by omega), List.length_cons, List.length_cons, h2.1]
    · have h2 : EL E xs (kids r) := (KE_neg hs).1 h
      rw [kidsN (by omega), h2.1]
theorem KE_mono {E E' : Int → Tree → Prop} {right : List Int} {xs : List Tree} (h : ∀ s ∈ right, ∀ z, E s z → E' s z) (hx : KE E right xs) : KE E' right xs := by
  cases right with
  | nil => exact hx
  | cons s r =>
    have h' : ∀ s ∈ kids r, ∀ z, E s z → E' s z := fun q hq => h q (by simp [(List.mem_filter.1 hq).1])
    by_cases hs : 0 ≤ s
    · obtain ⟨a, ys, rfl, hy⟩ := (KE_pos hs).1 hx
      exact (KE_pos hs).2 ⟨a, ys, rfl, EL_mono h' hy⟩
    · exact (KE_neg hs).2 (EL_mono h' ((KE_neg hs).1 hx))
theorem kids_app (a b : List Int) : kids (a ++ b) = kids a ++ kids b := by simp [kids]
theorem KE_split {E : Int → Tree → Prop} {a b : List Int} {zs : List Tree} (ha : a ≠ []) (h : KE E (a ++ b) zs) : ∃ ys xs, zs = ys ++ xs ∧ KE E a ys ∧ EL E xs (kids b) := by
  cases a with
  | nil => exact absurd rfl ha
  | cons s r =>
    rw [List.cons_append] at h
    by_cases hs : 0 ≤ s
    · obtain ⟨z, zs, rfl, h0⟩ := (KE_pos hs).1 h
      rw [kids_app] at h0
      obtain ⟨ys, xs, rfl, h1, h2⟩ := EL_split h0
      exact ⟨z :: ys, xs, rfl, (KE_pos hs).2 ⟨z, ys, rfl, h1⟩, h2⟩
    · have h0 := (KE_neg hs).1 h
      rw [kids_app] at h0
      obtain ⟨ys, xs, rfl, h1, h2⟩ := EL_split h0
      exact ⟨ys, xs, rfl, (KE_neg hs).2 h1, h2⟩

/-! ### What a rule makes, put together -/
def XOk (g : Gram) (N : Nat) (x : Work) : Prop := ∃ B C, TOk g B C N true x
theorem sing_app (a b : List Tree) : sing (a ++ b) = sing a ++ sing b := by simp [sing]
theorem getD_app_l {α : Type} {a b : List α} {d : α} {i : Nat} (h : i < a.length) : (a ++ b).getD i d = a.getD i d := by
  rw [List.getD_eq_getElem?_getD, List.getElem?_append_left h, ← List.getD_eq_getElem?_getD]
theorem getD_app_r {α : Type} {a b : List α} {d : α} {i : Nat} : (a ++ b).getD (a.length + i) d = b.getD i d := by
  rw [List.getD_eq_getElem?_getD, List.getElem?_append_right (by omega), List.getD_eq_getElem?_getD]; congr 2; omega
theorem mu_front {g : Gram} {B C N : Nat} {o : Bool} {x : Work} (hx : TOk g B C N o x) {ys xs : List Tree} (hl : ys.length = (kids x.right).length) : muL (sing (ys ++ xs)) x.l = muL (sing ys) x.l := by
  refine muL_ext x.l hx.wf fun n hn => ?_
  have := upTo_mem.1 (hx.kd.mem_iff.1 hn)
  rw [sing_app, getD_app_l (by rw [sing_len]; omega)]
theorem mix_mu {g : Gram} {N : Nat} {x y : Work} (hx : XOk g N x) (hy : XOk g N y) (h0 : 0 ≤ hdI x.right) {ys xs : List Tree} {b : Tree} (hl : ys.length = (kids y.right).length) (hb : muL (sing ys) y.l = [b]) : muL (sing (ys ++ xs)) (mixW x y).l = muL (sing (b :: xs)) x.l := by
  obtain ⟨B, C, hx⟩ := hx
  obtain ⟨B', C', hy⟩ := hy
  have e : (mixW x y).l = ptL 0 y.l (((kids y.right).length : Int) - 1) x.l := by
    show plugL x.l 0 y.l _ = _
    unfold plugL
    rw [movL_zero]
  rw [e]
  refine muL_put ?_ (fun n hn => ?_) x.l hx.wf (hx.nz rfl h0) hx.kd0
  · rw [mu_front hy hl, hb]; rfl
  · obtain ⟨j, rfl⟩ : ∃ j : Nat, n = (j : Int) + 1 := ⟨(n - 1).toNat, by omega⟩
    rw [show ((j : Int) + 1 + (((kids y.right).length : Int) - 1)).toNat = (sing ys).length + j by rw [sing_len]; omega, show ((j : Int) + 1).toNat = j + 1 by omega, sing_app, getD_app_r]
    rfl
theorem gap_mu {g : Gram} {N : Nat} {x : Work} (hx : XOk g N x) (h0 : 0 ≤ hdI x.right) (xs : List Tree) : muL (sing xs) (gappedW x).l = muL (sing (gapN :: xs)) x.l := by
  obtain ⟨B, C, hx⟩ := hx
  have e : (gappedW x).l = ptL 0 [gapF] (-1) x.l := by
    show plugL x.l 0 [gapF] 0 = _
    unfold plugL
    rw [movL_zero]; rfl
  rw [e]
  refine muL_put ?_ (fun n hn => ?_) x.l hx.wf (hx.nz rfl h0) hx.kd0
  · rw [muL, muL, List.append_nil]
    exact muF_3 _ _ _
  · obtain ⟨j, rfl⟩ : ∃ j : Nat, n = (j : Int) + 1 := ⟨(n - 1).toNat, by omega⟩
    rw [show ((j : Int) + 1 + -1).toNat = j by omega, show ((j : Int) + 1).toNat = j + 1 by omega]
    rfl
theorem then_mu {g : Gram} {B C N : Nat} {o : Bool} {x : Work} (hx : TOk g B C N o x) {ys : List Tree} {c : Tree} (hl : ys.length = (kids x.right).length) : muL (sing (ys ++ [c])) [.mk 4 (kids x.right).length x.l] = fillL (muL (sing ys) x.l) [c] := by
  rw [muL, muL, List.append_nil, muF_4, mu_front hx hl, Int.toNat_natCast, sing_app]
  have := getD_app_r (a := sing ys) (b := sing [c]) (d := []) (i := 0)
  rw [sing_len, Nat.add_zero, hl] at this
  rw [this]; rfl
end Go.Proofs.Yticnpbopelgmiaa
namespace Go.Proofs.Yticnpbopelgmiaa
open Go.RowKit

/-- What a rule of the old nonterminal v makes of trees. -/
structure WS (g : Gram) (E : Int → Tree → Prop) (v : Nat) (x : Work) : Prop where
  one : ∀ xs, KE E x.right xs → ∃ y, muL (sing xs) x.l = [y] ∧ 0 ≤ y.rule ∧ gwT g y = gwK g x.right xs ∧ ∀ k ∈ xs, c0T k < c0T y
  fit : ∀ xs y, EL E xs (kids x.right) → muL (sing xs) x.l = [y] → fits g y (v : Int) = true
  fill : ∀ a xs y b, KE E x.right (a :: xs) → 0 ≤ hdI x.right → muL (sing (a :: xs)) x.l = [y] → muL (sing (fil b a :: xs)) x.l = [fil b y]
  add : ∀ a xs y z, KE E x.right (a :: xs) → 0 ≤ hdI x.right → muL (sing (a :: xs)) x.l = [y] → muL (sing (gapN :: xs)) x.l = [z] → c0T y = c0T a + c0T z
  inj : ∀ xs xs', KE E x.right xs → KE E x.right xs' → muL (sing xs) x.l = muL (sing xs') x.l → xs = xs'
def Dis (E : Int → Tree → Prop) (x x' : Work) : Prop := ∀ xs xs', KE E x.right xs → KE E x'.right xs' → muL (sing xs) x.l ≠ muL (sing xs') x'.l
theorem Dis.symm {E : Int → Tree → Prop} {x x' : Work} (h : Dis E x x') : Dis E x' x := fun xs xs' h1 h2 e => h xs' xs h2 h1 e.symm
structure VS (g : Gram) (E : Int → Tree → Prop) (v : Nat) (l : List Work) : Prop where
  ws : ∀ x ∈ l, WS g E v x
  dis : l.Pairwise (Dis E)
  surj : ∀ z, fits g z (v : Int) = true → ∃ x ∈ l, ∃ xs, EL E xs (kids x.right) ∧ muL (sing xs) x.l = [z]
theorem KE_hd {E : Int → Tree → Prop} {x : Work} (hne : x.right ≠ []) (h0 : 0 ≤ hdI x.right) {a : Tree} {xs : List Tree} : KE E x.right (a :: xs) ↔ EL E xs (kids x.right.tail) := by
  have hc := hd_cons hne rfl
  constructor
  · intro h
    rw [hc] at h
    obtain ⟨_, _, e, h⟩ := (KE_pos h0).1 h
    cases e; exact h
  · intro h
    rw [hc]
    exact (KE_pos h0).2 ⟨a, xs, rfl, h⟩
theorem KE_shape {E : Int → Tree → Prop} {x : Work} (hne : x.right ≠ []) (h0 : 0 ≤ hdI x.right) {zs : List Tree} (h : KE E x.right zs) : ∃ a xs, zs = a :: xs := by
  have hc := hd_cons hne rfl
  rw [hc] at h
  obtain ⟨a, xs, e, _⟩ := (KE_pos h0).1 h
  exact ⟨a, xs, e⟩
theorem XOk.ne {g : Gram} {N : Nat} {x : Work} (h : XOk g N x) : x.right ≠ [] := by
  obtain ⟨B, C, h⟩ := h; exact h.ne rfl
theorem XOk.sym {g : Gram} {N : Nat} {x : Work} (h : XOk g N x) : ∀ s ∈ x.right, s < (N : Int) := by
  obtain ⟨B, C, h⟩ := h; exact fun s hs => (h.sym s hs).2
theorem kids_hd {r : List Int} (hne : r ≠ []) (h0 : 0 ≤ hdI r) : kids r = hdI r :: kids r.tail := by
  have hc := hd_cons hne rfl
  conv => lhs; rw [hc]
  exact kidsP (by omega) _
section
variable {g : Gram} {E : Int → Tree → Prop} {N u v : Nat} {x y : Work} (hx : XOk g N x) (hy : XOk g N y) (hu : hdI x.right = (u : Int))
include hx hy hu
theorem mix_split (hw : WS g E u y) {zs : List Tree} (hz : KE E (mixW x y).right zs) : ∃ ys xs b, zs = ys ++ xs ∧ KE E y.right ys ∧ EL E xs (kids x.right.tail) ∧ muL (sing ys) y.l = [b] ∧ KE E x.right (b :: xs) ∧ muL (sing zs) (mixW x y).l = muL (sing (b :: xs)) x.l := by
  obtain ⟨ys, xs, rfl, h1, h2⟩ := KE_split (b := x.right.tail) hy.ne hz
  obtain ⟨b, e, _⟩ := hw.one _ h1
  exact ⟨ys, xs, b, rfl, h1, h2, e, (KE_hd hx.ne (by omega)).2 h2, mix_mu hx hy (by omega) (KE_len h1) e⟩
theorem mix_ws (hwx : WS g E v x) (hwy : WS g E u y) (hE : ∀ s z, s < g.vars → (E s z ↔ fits g z s = true)) (huv : (u : Int) < g.vars) : WS g E v (mixW x y) where
  one zs hz := by
    obtain ⟨ys, xs, b, rfl, h1, h2, e, h3, h4⟩ := mix_split hx hy hu hwy hz
    obtain ⟨b', e', _, b2, b3⟩ := hwy.one _ h1
    obtain rfl : b = b' := by rw [e] at e'; simpa using e'
    obtain ⟨z, q1, q2, q3, q4⟩ := hwx.one _ h3
    refine ⟨z, by rw [h4, q1], q2, ?_, fun k hk => ?_⟩
    · rw [q3]
      have hc := hd_cons hx.ne rfl
      show _ = gwK g (y.right ++ x.right.tail) (ys ++ xs)
      rw [gwK_append (KE_len h1), ← b2]
      conv => lhs; rw [hc]
      rw [gwK, gwL, catR_pos (by omega)]
    · rcases List.mem_append.1 hk with hk | hk
      · exact Nat.lt_trans (b3 k hk) (q4 b (by simp))
      · exact q4 k (by simp [hk])
  fit zs z hz hzz := by
    have hz2 := hz
    rw [show (mixW x y).right = y.right ++ x.right.tail from rfl, kids_app] at hz2
    obtain ⟨ys, xs, rfl, h1, h2⟩ := EL_split hz2
    obtain ⟨b, e, _⟩ := hwy.one _ (EL_KE h1)
    have h3 := hwy.fit _ _ h1 e
    refine hwx.fit (b :: xs) z ?_ ?_
    · rw [kids_hd hx.ne (by omega), hu]
      exact EL_cons.2 ⟨(hE _ _ huv).2 h3, h2⟩
    · rw [← mix_mu hx hy (by omega) (by rw [h1.1]) e, hzz]
  fill a zs z b hz h0 hzz := by
    have hh : hdI (mixW x y).right = hdI y.right := hdI_app hy.ne
    rw [hh] at h0
    obtain ⟨ys, xs, c, e1, h1, h2, e, h3, h4⟩ := mix_split hx hy hu hwy hz
    obtain ⟨a', ys, rfl⟩ := KE_shape hy.ne h0 h1
    obtain ⟨rfl, rfl⟩ : a = a' ∧ zs = ys ++ xs := by simpa using e1
    have k1 := hwy.fill _ _ _ b h1 h0 e
    have k2 := hwx.fill _ _ _ b h3 (by omega) (by rw [← h4, hzz])
    rw [← k2, ← mix_mu hx hy (by omega) (by have := KE_len h1; simpa using this) k1]; rfl
  add a zs z w hz h0 hzz hww := by
    have hh : hdI (mixW x y).right = hdI y.right := hdI_app hy.ne
    rw [hh] at h0
    obtain ⟨ys, xs, c, e1, h1, h2, e, h3, h4⟩ := mix_split hx hy hu hwy hz
    obtain ⟨a', ys, rfl⟩ := KE_shape hy.ne h0 h1
    obtain ⟨rfl, rfl⟩ : a = a' ∧ zs = ys ++ xs := by simpa using e1
    have h1g : KE E y.right (gapN :: ys) := (KE_hd hy.ne h0).2 ((KE_hd hy.ne h0).1 h1)
    obtain ⟨d, e2, _⟩ := hwy.one _ h1g
    have k1 := hwy.add _ _ _ _ h1 h0 e e2
    have h3g : KE E x.right (gapN :: xs) := (KE_hd hx.ne (by omega)).2 h2
    have h3d : KE E x.right (d :: xs) := (KE_hd hx.ne (by omega)).2 h2
    obtain ⟨f, e3, _⟩ := hwx.one _ h3g
    have k2 := hwx.add _ _ _ _ h3 (by omega) (by rw [← h4, hzz]) e3
    have k3 := hwx.add _ _ _ _ h3d (by omega) (by rw [← mix_mu hx hy (by omega) (by have := KE_len h1g; simpa using this) e2, ← hww]; rfl) e3
    omega
  inj zs zs' hz hz' he := by
    obtain ⟨ys, xs, b, rfl, h1, h2, e, h3, h4⟩ := mix_split hx hy hu hwy hz
    obtain ⟨ys', xs', b', rfl, h1', h2', e', h3', h4'⟩ := mix_split hx hy hu hwy hz'
    rw [h4, h4'] at he
    have := hwx.inj _ _ h3 h3' he
    obtain ⟨rfl, rfl⟩ : b = b' ∧ xs = xs' := by simpa using this
    rw [hwy.inj _ _ h1 h1' (by rw [e, e'])]
end
theorem mix_dis {g : Gram} {E : Int → Tree → Prop} {N u v : Nat} {x y x' y' : Work} (hx : XOk g N x) (hy : XOk g N y) (hu : hdI x.right = (u : Int)) (hwy : WS g E u y) (hx' : XOk g N x') (hy' : XOk g N y') (hu' : hdI x'.right = (u : Int)) (hwy' : WS g E u y') (hd : Dis E x x') : Dis E (mixW x y) (mixW x' y') := fun zs zs' hz hz' he => by
  obtain ⟨ys, xs, b, rfl, h1, h2, e, h3, h4⟩ := mix_split hx hy hu hwy hz
  obtain ⟨ys', xs', b', rfl, h1', h2', e', h3', h4'⟩ := mix_split hx' hy' hu' hwy' hz'
  rw [h4, h4'] at he
  exact hd _ _ h3 h3' he
theorem mix_dis1 {g : Gram} {E : Int → Tree → Prop} {N u v : Nat} {x y x' : Work} (hx : XOk g N x) (hy : XOk g N y) (hu : hdI x.right = (u : Int)) (hwy : WS g E u y) (hd : Dis E x x') : Dis E (mixW x y) x' := fun zs zs' hz hz' he => by
  obtain ⟨ys, xs, b, rfl, h1, h2, e, h3, h4⟩ := mix_split hx hy hu hwy hz
  rw [h4] at he
  exact hd _ _ h3 hz' he
theorem mix_dis2 {g : Gram} {E : Int → Tree → Prop} {N u v : Nat} {x y y' : Work} (hx : XOk g N x) (hwx : WS g E v x) (hy : XOk g N y) (hu : hdI x.right = (u : Int)) (hwy : WS g E u y) (hy' : XOk g N y') (hwy' : WS g E u y') (hd : Dis E y y') : Dis E (mixW x y) (mixW x y') := fun zs zs' hz hz' he => by
  obtain ⟨ys, xs, b, rfl, h1, h2, e, h3, h4⟩ := mix_split hx hy hu hwy hz
  obtain ⟨ys', xs', b', rfl, h1', h2', e', h3', h4'⟩ := mix_split hx hy' hu hwy' hz'
  rw [h4, h4'] at he
  have := hwx.inj _ _ h3 h3' he
  obtain ⟨rfl, rfl⟩ : b = b' ∧ xs = xs' := by simpa using this
  exact hd _ _ h1 h1' (by rw [e, e'])
/-- A rule with what comes in its place. -/
def stepF (A : List Work) (u : Int) (x : Work) : List Work := if hdI x.right ≠ u then [x] else A.map (mixW x)
theorem aheadIn_is {x : Work} : ∀ {ys out out' : List Work}, aheadIn x ys out = some out' → out' = out ++ ys.map (mixW x)
  | [], out, out', h => by rw [aheadIn] at h; cases h; simp
  | y :: ys, out, out', h => by
    rw [aheadIn] at h
    split at h
    · cases h
    · rw [aheadIn_is h]; simp
theorem aheadW_is {A : List Work} {u : Int} : ∀ {l out l' : List Work}, aheadW A u l out = some l' → l' = out ++ l.flatMap (stepF A u)
  | [], out, l', h => by
    rw [aheadW] at h
    split at h
    · cases h
    · cases h; simp
  | x :: l, out, l', h => by
    rw [aheadW] at h
    rw [List.flatMap_cons]
    split at h
    · rename_i hu
      rw [aheadW_is h, show stepF A u x = [x] from if_pos hu, List.append_assoc]
    · rename_i hu
      rw [show stepF A u x = A.map (mixW x) from if_neg hu]
      cases hc : aheadIn x A out with
      | none => rw [hc] at h; cases h
      | some out1 =>
        rw [hc] at h
        rw [aheadW_is h, aheadIn_is hc, List.append_assoc]
theorem step_mem {A : List Work} {u : Int} {x w : Work} (h : w ∈ stepF A u x) : (hdI x.right ≠ u ∧ w = x) ∨ (hdI x.right = u ∧ ∃ y ∈ A, w = mixW x y) := by
  unfold stepF at h
  split at h
  · rename_i hu; exact .inl ⟨hu, by simpa using h⟩
  · rename_i hu
    obtain ⟨y, hy, rfl⟩ := List.mem_map.1 h
    exact .inr ⟨Classical.byContradiction fun q => hu q, y, hy, rfl⟩
theorem VS.ahead {g : Gram} {E : Int → Tree → Prop} {N u v : Nat} {l A : List Work} (hl : VS g E v l) (hA : VS g E u A) (hx : ∀ x ∈ l, XOk g N x) (hy : ∀ y ∈ A, XOk g N y) (hE : ∀ s z, s < g.vars → (E s z ↔ fits g z s = true)) (huv : (u : Int) < g.vars) : VS g E v (l.flatMap (stepF A u)) where
  ws w hw := by
    obtain ⟨x, hxl, hw⟩ := List.mem_flatMap.1 hw
    rcases step_mem hw with ⟨_, rfl⟩ | ⟨hu, y, hyA, rfl⟩
    · exact hl.ws _ hxl
    · exact mix_ws (hx x hxl) (hy y hyA) hu (hl.ws x hxl) (hA.ws y hyA) hE huv
  dis := by
    rw [List.pairwise_flatMap]
    refine ⟨fun x hxl => ?_, ?_⟩
    · unfold stepF
      split
      · exact List.pairwise_singleton _ _
      · rename_i hu
        have hu : hdI x.right = (u : Int) := Classical.byContradiction fun q => hu q
        rw [List.pairwise_map]
        refine List.Pairwise.imp_of_mem (fun {y y'} h1 h2 hd => ?_) hA.dis
        exact mix_dis2 (v := v) (hx x hxl) (hl.ws x hxl) (hy y h1) hu (hA.ws y h1) (hy y' h2) (hA.ws y' h2) hd
    · refine List.Pairwise.imp_of_mem (fun {x x'} h1 h2 hd w hw w' hw' => ?_) hl.dis
      rcases step_mem hw with ⟨_, rfl⟩ | ⟨hu, y, hyA, rfl⟩
      · rcases step_mem hw' with ⟨_, rfl⟩ | ⟨hu', y', hyA', rfl⟩
        · exact hd
        · exact (mix_dis1 (v := v) (hx x' h2) (hy y' hyA') hu' (hA.ws y' hyA') hd.symm).symm
      · rcases step_mem hw' with ⟨_, rfl⟩ | ⟨hu', y', hyA', rfl⟩
        · exact mix_dis1 (v := v) (hx x h1) (hy y hyA) hu (hA.ws y hyA) hd
        · exact mix_dis (v := v) (hx x h1) (hy y hyA) hu (hA.ws y hyA) (hx x' h2) (hy y' hyA') hu' (hA.ws y' hyA') hd
  surj z hz := by
    obtain ⟨x, hxl, xs, h1, h2⟩ := hl.surj z hz
    by_cases hu : hdI x.right = (u : Int)
    · rw [kids_hd (hx x hxl).ne (by omega), hu] at h1
      cases xs with
      | nil => have := h1.1; simp at this
      | cons b xs =>
        obtain ⟨hb, h1⟩ := EL_cons.1 h1
        obtain ⟨y, hyA, ys, k1, k2⟩ := hA.surj b ((hE _ _ huv).1 hb)
        refine ⟨mixW x y, List.mem_flatMap.2 ⟨x, hxl, ?_⟩, ys ++ xs, ?_, ?_⟩
        · unfold stepF; rw [if_neg (fun q => q hu)]; exact List.mem_map.2 ⟨y, hyA, rfl⟩
        · show EL E _ (kids (y.right ++ x.right.tail))
          rw [kids_app]; exact EL_app k1 h1
        · rw [mix_mu (hx x hxl) (hy y hyA) (by omega) (by rw [k1.1]) k2, h2]
    · refine ⟨x, List.mem_flatMap.2 ⟨x, hxl, ?_⟩, xs, h1, h2⟩
      unfold stepF; rw [if_pos hu]; simp
theorem XOk.mix {g : Gram} {N u : Nat} {x y : Work} (hx : XOk g N x) (hy : XOk g N y) (hu : hdI x.right = (u : Int)) : XOk g N (mixW x y) := by
  obtain ⟨B, C, hx⟩ := hx
  obtain ⟨B', C', hy⟩ := hy
  exact ⟨_, _, mix_ok hx hy hu (by omega)⟩
theorem ahead_xok {g : Gram} {N u : Nat} {l A : List Work} (hx : ∀ x ∈ l, XOk g N x) (hy : ∀ y ∈ A, XOk g N y) : ∀ w ∈ l.flatMap (stepF A u), XOk g N w := fun w hw => by
  obtain ⟨x, hxl, hw⟩ := List.mem_flatMap.1 hw
  rcases step_mem hw with ⟨_, rfl⟩ | ⟨hu, y, hyA, rfl⟩
  · exact hx _ hxl
  · exact (hx x hxl).mix (hy y hyA) hu
theorem aheads_vs {g : Gram} {E : Int → Tree → Prop} {N v : Nat} {all : List (List Work)} (hE : ∀ s z, s < g.vars → (E s z ↔ fits g z s = true)) : ∀ (n u : Nat) {l l' : List Work}, u + n ≤ g.vars.toNat → (∀ w, w < u + n → VS g E w (all.getD w []) ∧ ∀ y ∈ all.getD w [], XOk g N y) → VS g E v l → (∀ x ∈ l, XOk g N x) → aheads all u n l = some l' → VS g E v l' ∧ ∀ x ∈ l', XOk g N x
  | 0, u, l, l', _, _, h1, h2, h => by rw [aheads] at h; cases h; exact ⟨h1, h2⟩
  | n + 1, u, l, l', hn, hA, h1, h2, h => by
    rw [aheads] at h
    cases hc : aheadW (all.getD u []) u l [] with
    | none => rw [hc] at h; cases h
    | some l1 =>
      rw [hc] at h
      have e := aheadW_is hc
      rw [List.nil_append] at e
      subst e
      obtain ⟨k1, k2⟩ := hA u (by omega)
      exact aheads_vs hE n (u + 1) (by omega) (fun w hw => hA w (by omega)) (h1.ahead k1 h2 k2 hE (by omega)) (ahead_xok h2 k2) h

/-! ### At the beginning -/
def E0 (g : Gram) (s : Int) (z : Tree) : Prop := fits g z s = true
theorem fil_kids {g : Gram} (b a : Tree) {xs : List Tree} {us : List Int} (h : EL (E0 g) xs us) : fillL [b] (a :: xs) = fil b a :: xs := by
  have key : ∀ l : List Tree, (∀ y ∈ l, ∃ u, fits g y u = true) → fillL [b] l = l := by
    intro l
    induction l with
    | nil => intro _; rfl
    | cons y l ih =>
      intro hl
      obtain ⟨u, hu⟩ := hl y (by simp)
      rw [fillL, fill_fits _ y u hu, ih fun z hz => hl z (by simp [hz])]; rfl
  rw [fillL, fil_is, key xs fun y hy => by
    obtain ⟨i, hi, rfl⟩ := List.mem_iff_getElem.1 hy
    exact ⟨_, h.2 i hi (by have := h.1; omega)⟩]
  rfl
theorem EL_fitss {g : Gram} {xs : List Tree} {us : List Int} (h : EL (E0 g) xs us) : fitss g xs us = true := fitss_all h.1 h.2
theorem start_ws {g : Gram} {r : Nat} (hr : r < g.rules.length) {v : Nat} (hv : g.rules[r].left = (v : Int)) : WS g (E0 g) v ⟨g.rules[r].right, nodeF r (kids g.rules[r].right).length⟩ where
  one xs h := ⟨.mk r xs, muL_node1 r (KE_len h), by show 0 ≤ (r : Int); omega, gwT_mk hr xs, fun k hk => by have := c0_mem hk; rw [c0_mk]; omega⟩
  fit xs y h hy := by
    rw [muL_node1 r h.1] at hy
    obtain rfl : Tree.mk r xs = y := by simpa using hy
    exact (fits_mk hr hv h.1 (EL_fitss h)).1
  fill a xs y b h h0 hy := by
    rw [muL_node1 r (KE_len h)] at hy
    obtain rfl : Tree.mk r (a :: xs) = y := by simpa using hy
    have hne : g.rules[r].right ≠ [] := fun q => by
      have := KE_len h
      rw [show (⟨g.rules[r].right, nodeF r (kids g.rules[r].right).length⟩ : Work).right = g.rules[r].right from rfl, q] at this; simp [kids] at this
    have hl : EL (E0 g) xs (kids g.rules[r].right.tail) := (KE_hd (x := ⟨g.rules[r].right, nodeF r (kids g.rules[r].right).length⟩) hne h0).1 h
    rw [muL_node1 r (by have := KE_len h; simpa using this)]
    rw [show fil b (Tree.mk (r : Int) (a :: xs)) = .mk r (fillL [b] (a :: xs)) from if_neg (by show ¬ (r : Int) = -1; omega), fil_kids b a hl]
  add a xs y z h h0 hy hz := by
    rw [muL_node1 r (KE_len h)] at hy
    rw [muL_node1 r (by have := KE_len h; simpa using this)] at hz
    obtain rfl : Tree.mk r (a :: xs) = y := by simpa using hy
    obtain rfl : Tree.mk r (gapN :: xs) = z := by simpa using hz
    rw [c0_mk, c0_mk, c0L, c0L, c0_gap]; omega
  inj xs xs' h h' e := by
    rw [muL_node1 r (KE_len h), muL_node1 r (KE_len h')] at e
    simpa using e
theorem by_pw (g : Gram) (v : Int) : (by_ g v).Nodup := by
  unfold by_
  have : ∀ (rs : List Rule) (i : Nat), (byR rs v i).Nodup ∧ ∀ x ∈ byR rs v i, (i : Int) ≤ x := by
    intro rs
    induction rs with
    | nil => intro i; rw [byR]; exact ⟨List.Pairwise.nil, fun x hx => by cases hx⟩
    | cons r rs ih =>
      intro i
      obtain ⟨h1, h2⟩ := ih (i + 1)
      rw [byR]
      split
      · refine ⟨List.pairwise_cons.2 ⟨fun x hx q => ?_, h1⟩, fun x hx => ?_⟩
        · have := h2 x hx; omega
        · rcases List.mem_cons.1 hx with rfl | hx
          · exact Int.le_refl _
          · have := h2 x hx; omega
      · exact ⟨h1, fun x hx => by have := h2 x hx; omega⟩
  exact (this _ _).1
theorem works_mem {g : Gram} {v : Nat} {w : Work} (h : w ∈ worksAt g v) : ∃ r, ∃ hr : r < g.rules.length, g.rules[r].left = (v : Int) ∧ w = ⟨g.rules[r].right, nodeF r (kids g.rules[r].right).length⟩ := by
  obtain ⟨q, hq, rfl⟩ := List.mem_map.1 h
  obtain ⟨j, hj, rfl, e1, e2⟩ := by_atR hq
  exact ⟨j, hj, e1, by rw [e2]⟩
theorem start_vs {g : Gram} (v : Nat) : VS g (E0 g) v (worksAt g v) where
  ws w hw := by
    obtain ⟨r, hr, e, rfl⟩ := works_mem hw
    exact start_ws hr e
  dis := by
    unfold worksAt
    rw [List.pairwise_map]
    refine List.Pairwise.imp_of_mem (fun {q q'} h1 h2 hne xs xs' hx hx' e => ?_) (by_pw g v)
    rw [muL_node1 q (KE_len hx), muL_node1 q' (KE_len hx')] at e
    simp at e
    exact hne e.1
  surj z hz := by
    obtain ⟨r, hr, e1, e2, e3, e4, _⟩ := fits_parts hz
    have hm : (r : Int) ∈ by_ g v := by_mem.2 ⟨r, hr, rfl, e2⟩
    have he : ruleAt g (r : Int) = g.rules[r] := by
      unfold ruleAt; rw [Int.toNat_natCast, List.getD_eq_getElem?_getD, List.getElem?_eq_getElem hr]; rfl
    refine ⟨_, List.mem_map.2 ⟨_, hm, rfl⟩, z.kids, ?_, ?_⟩
    · rw [he]
      exact ⟨e3.symm, fun i h1 h2 => fitss_at e4 h1 h2⟩
    · rw [he]
      show muL _ (nodeF r (kids g.rules[r].right).length) = _
      rw [muL_node1 r e3.symm, ← e1, ← Tree.eta]
end Go.Proofs.Yticnpbopelgmiaa
