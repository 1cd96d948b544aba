/-
  Turn, plain: a nonterminal's own beginnings made ends of a new one lead the trees back as before.
-/
import Derived.Test.YticnpbopelgmiaaQTurnV
set_option linter.unusedVariables false
set_option linter.unusedSimpArgs false
set_option linter.unusedSectionVars false
namespace Go.Proofs.Yticnpbopelgmiaa
open Go.RowKit

theorem pw_ne {α : Type} {R : α → α → Prop} (hs : ∀ a b, R a b → R b a) {l : List α} (h : l.Pairwise R) {a b : α} (ha : a ∈ l) (hb : b ∈ l) (hne : a ≠ b) : R a b := by
  obtain ⟨i, hi, rfl⟩ := List.mem_iff_getElem.1 ha
  obtain ⟨j, hj, rfl⟩ := List.mem_iff_getElem.1 hb
  rw [List.pairwise_iff_getElem] at h
  rcases Nat.lt_trichotomy i j with q | q | q
  · exact h i j hi hj q
  · subst q; exact absurd rfl hne
  · exact hs _ _ (h j i hj hi q)
/-! ### One rule behind the other -/
def okQ (E : Int → Tree → Prop) (v : Nat) (l : List Work) (q : Work × List Tree) : Prop := q.1 ∈ l ∧ hdI q.1.right = (v : Int) ∧ EL E q.2 (kids q.1.right.tail)
def ap (q : Work × List Tree) (a : Tree) : Tree := (muL (sing (a :: q.2)) q.1.l).headD gapN
def runR : List (Work × List Tree) → Tree → Tree
  | [], a => a
  | q :: L, a => ap q (runR L a)
def Chn (E : Int → Tree → Prop) (v : Nat) (l : List Work) (z : Tree) : Prop := ∃ L, L ≠ [] ∧ (∀ q ∈ L, okQ E v l q) ∧ z = runR L gapN
def upE (E : Int → Tree → Prop) (v : Nat) (l : List Work) (N : Nat) (s : Int) (z : Tree) : Prop := if s = (N : Int) then Chn E v l z else E s z
theorem run_snoc (q : Work × List Tree) (a : Tree) : ∀ L, runR (L ++ [q]) a = runR L (ap q a)
  | [] => rfl
  | p :: L => by rw [List.cons_append, runR, runR, run_snoc q a L]
mutual
/-- There is a gap. -/
def hgT : Tree → Bool
  | .mk r ks => decide (r = -1) || hgL ks
def hgL : List Tree → Bool
  | [] => false
  | x :: l => hgT x || hgL l
end
mutual
theorem hg_not {w : List Tree} : ∀ x : Tree, hgT x = false → fillT w x = [x]
  | .mk r ks, h => by
    rw [hgT, Bool.or_eq_false_iff, decide_eq_false_iff_not] at h
    rw [fillT, if_neg h.1, hg_nots ks h.2]
theorem hg_nots {w : List Tree} : ∀ l : List Tree, hgL l = false → fillL w l = l
  | [], _ => rfl
  | x :: l, h => by
    rw [hgL, Bool.or_eq_false_iff] at h
    rw [fillL, hg_not x h.1, hg_nots l h.2]; rfl
end
section
variable {g : Gram} {E : Int → Tree → Prop} {N v : Nat} {l : List Work} (hl : VS g E v l) (hx : ∀ x ∈ l, XOk g N x)
include hl hx
theorem ap_ke {q : Work × List Tree} (hq : okQ E v l q) (a : Tree) : KE E q.1.right (a :: q.2) := by
  obtain ⟨q1, q2, q3⟩ := hq
  exact (KE_hd (hx _ q1).ne (by omega)).2 q3
theorem ap_is {q : Work × List Tree} (hq : okQ E v l q) (a : Tree) : muL (sing (a :: q.2)) q.1.l = [ap q a] ∧ 0 ≤ (ap q a).rule ∧ gwT g (ap q a) = gwT g a ++ gwK g q.1.right.tail q.2 ∧ ∀ k ∈ q.2, c0T k < c0T (ap q a) := by
  obtain ⟨y, h1, h2, h3, h4⟩ := (hl.ws _ hq.1).one _ (ap_ke hl hx hq a)
  have e : ap q a = y := by unfold ap; rw [h1]; rfl
  rw [e]
  refine ⟨h1, h2, ?_, fun k hk => h4 k (by simp [hk])⟩
  rw [h3]
  have hc := hd_cons (hx _ hq.1).ne rfl
  conv => lhs; rw [hc]
  rw [gwK, gwL, catR_pos (by have := hq.2.1; omega)]
theorem ap_fil {q : Work × List Tree} (hq : okQ E v l q) (a b : Tree) : fil b (ap q a) = ap q (fil b a) := by
  have h1 := (ap_is hl hx hq a).1
  have h2 := (ap_is hl hx hq (fil b a)).1
  have h3 := (hl.ws _ hq.1).fill _ _ _ b (ap_ke hl hx hq a) (by have := hq.2.1; omega) h1
  rw [h2] at h3
  simpa using h3.symm
theorem ap_add {q : Work × List Tree} (hq : okQ E v l q) (a : Tree) : c0T (ap q a) = c0T a + c0T (ap q gapN) :=
  (hl.ws _ hq.1).add _ _ _ _ (ap_ke hl hx hq a) (by have := hq.2.1; omega) (ap_is hl hx hq a).1 (ap_is hl hx hq gapN).1
theorem ap_inj {q q' : Work × List Tree} (hq : okQ E v l q) (hq' : okQ E v l q') {a a' : Tree} (h : ap q a = ap q' a') : q = q' ∧ a = a' := by
  have h1 := (ap_is hl hx hq a).1
  have h2 := (ap_is hl hx hq' a').1
  have e : q.1 = q'.1 := Classical.byContradiction fun hne =>
    pw_ne (fun _ _ => Dis.symm) hl.dis hq.1 hq'.1 hne _ _ (ap_ke hl hx hq a) (ap_ke hl hx hq' a') (by rw [h1, h2, h])
  obtain ⟨x, xs⟩ := q
  obtain ⟨x', xs'⟩ := q'
  dsimp only at e
  subst e
  have := (hl.ws _ hq.1).inj _ _ (ap_ke hl hx hq a) (ap_ke hl hx hq' a') (by rw [h1, h2, h])
  obtain ⟨e1, e2⟩ := List.cons.inj this
  dsimp only at e2
  exact ⟨by rw [e2], e1⟩
theorem ap_fit (hE : ∀ s z, s < g.vars → (E s z ↔ fits g z s = true)) (hv : (v : Int) < g.vars) {q : Work × List Tree} (hq : okQ E v l q) {a : Tree} (ha : fits g a (v : Int) = true) : fits g (ap q a) (v : Int) = true := by
  refine (hl.ws _ hq.1).fit (a :: q.2) _ ?_ (ap_is hl hx hq a).1
  rw [kids_hd (hx _ hq.1).ne (by have := hq.2.1; omega), hq.2.1]
  exact EL_cons.2 ⟨(hE _ _ hv).2 ha, hq.2.2⟩
theorem run_fil (b : Tree) : ∀ {L : List (Work × List Tree)} (_ : ∀ q ∈ L, okQ E v l q) (a : Tree), fil b (runR L a) = runR L (fil b a)
  | [], _, a => rfl
  | q :: L, h, a => by rw [runR, runR, ap_fil hl hx (h q (by simp)), run_fil b (fun p hp => h p (by simp [hp])) a]
theorem run_gw : ∀ {L : List (Work × List Tree)} (_ : ∀ q ∈ L, okQ E v l q) (a : Tree), gwT g (runR L a) = gwT g a ++ gwT g (runR L gapN)
  | [], _, a => by
    have : gwT g gapN = [] := by rw [gapN, gwT, if_pos (by decide)]
    rw [runR, runR, this, List.append_nil]
  | q :: L, h, a => by
    rw [runR, runR, (ap_is hl hx (h q (by simp)) _).2.2.1, (ap_is hl hx (h q (by simp)) _).2.2.1, run_gw (fun p hp => h p (by simp [hp])) a, List.append_assoc]
theorem run_add : ∀ {L : List (Work × List Tree)} (_ : ∀ q ∈ L, okQ E v l q) (a : Tree), c0T (runR L a) = c0T a + c0T (runR L gapN)
  | [], _, a => by rw [runR, runR, c0_gap, Nat.add_zero]
  | q :: L, h, a => by
    have h1 := ap_add hl hx (h q (by simp)) (runR L a)
    have h2 := ap_add hl hx (h q (by simp)) (runR L gapN)
    have h3 := run_add (L := L) (fun p hp => h p (by simp [hp])) a
    rw [runR, runR, h1, h2, h3]; omega
theorem run_rule : ∀ {L : List (Work × List Tree)} (_ : ∀ q ∈ L, okQ E v l q) (a : Tree), 0 ≤ a.rule ∨ L ≠ [] → 0 ≤ (runR L a).rule
  | [], _, a, h => h.elim id (fun q => absurd rfl q)
  | q :: L, h, a, _ => (ap_is hl hx (h q (by simp)) _).2.1
theorem run_fit (hE : ∀ s z, s < g.vars → (E s z ↔ fits g z s = true)) (hv : (v : Int) < g.vars) : ∀ {L : List (Work × List Tree)} (_ : ∀ q ∈ L, okQ E v l q) {a : Tree}, fits g a (v : Int) = true → fits g (runR L a) (v : Int) = true
  | [], _, a, h => h
  | q :: L, h, a, ha => ap_fit hl hx hE hv (h q (by simp)) (run_fit hE hv (fun p hp => h p (by simp [hp])) ha)
theorem run_inj {a a' : Tree} (ha : ∀ q, okQ E v l q → ∀ b, a ≠ ap q b) (ha' : ∀ q, okQ E v l q → ∀ b, a' ≠ ap q b) : ∀ {L L' : List (Work × List Tree)} (_ : ∀ q ∈ L, okQ E v l q) (_ : ∀ q ∈ L', okQ E v l q), runR L a = runR L' a' → L = L' ∧ a = a'
  | [], [], _, _, h => ⟨rfl, h⟩
  | [], q :: L', _, h', h => absurd h (ha q (h' q (by simp)) _)
  | q :: L, [], h1, _, h => absurd h.symm (ha' q (h1 q (by simp)) _)
  | q :: L, q' :: L', h1, h', h => by
    obtain ⟨e1, e2⟩ := ap_inj hl hx (h1 q (by simp)) (h' q' (by simp)) h
    obtain ⟨e3, e4⟩ := run_inj ha ha' (fun p hp => h1 p (by simp [hp])) (fun p hp => h' p (by simp [hp])) e2
    exact ⟨by rw [e1, e3], e4⟩
theorem base_gap : ∀ q, okQ E v l q → ∀ b, gapN ≠ ap q b := fun q hq b h => by
  have := (ap_is hl hx hq b).2.1
  rw [← h] at this
  exact absurd this (by decide)
theorem base_other {x : Work} (hm : x ∈ otherW (v : Int) l) {xs : List Tree} (hk : KE E x.right xs) {y : Tree} (hy : muL (sing xs) x.l = [y]) : ∀ q, okQ E v l q → ∀ b, y ≠ ap q b := fun q hq b h => by
  obtain ⟨h1, h2⟩ := List.mem_filter.1 hm
  have h3 : ¬ hdI x.right = (v : Int) := by simpa using h2
  have hne : x ≠ q.1 := fun e => h3 (by rw [e]; exact hq.2.1)
  exact pw_ne (fun _ _ => Dis.symm) hl.dis h1 hq.1 hne _ _ hk (ap_ke hl hx hq b) (by rw [hy, h, (ap_is hl hx hq b).1])
theorem chn_gap {z : Tree} (h : Chn E v l z) : hgT z = true ∧ 0 ≤ z.rule := by
  obtain ⟨L, hL, ho, rfl⟩ := h
  refine ⟨?_, run_rule hl hx ho _ (.inr hL)⟩
  cases hc : hgT (runR L gapN) with
  | true => rfl
  | false =>
    have h1 := run_fil hl hx (.mk 0 []) ho gapN
    rw [fil_gap] at h1
    have h2 : fil (.mk 0 []) (runR L gapN) = runR L gapN := by
      have := fil_is (.mk 0 []) (runR L gapN)
      rw [hg_not _ hc] at this
      simpa using this.symm
    have h3 := run_add hl hx ho (.mk 0 [])
    rw [← h1, h2] at h3
    have : c0T (.mk 0 []) = 1 := by decide
    omega
/-- Peeled down to what doesn't begin with v. -/
theorem peel (hE : ∀ s z, s < g.vars → (E s z ↔ fits g z s = true)) (hv : (v : Int) < g.vars) : ∀ (n : Nat) (z : Tree), c0T z ≤ n → fits g z (v : Int) = true → ∃ x ∈ otherW (v : Int) l, ∃ xs y L, EL E xs (kids x.right) ∧ muL (sing xs) x.l = [y] ∧ (∀ q ∈ L, okQ E v l q) ∧ z = runR L y
  | n, z, hn, hz => by
    obtain ⟨x, hm, xs, h1, h2⟩ := hl.surj z hz
    by_cases hh : hdI x.right = (v : Int)
    · have h3 := h1
      rw [kids_hd (hx x hm).ne (by omega), hh] at h3
      cases xs with
      | nil => have := h3.1; simp at this
      | cons a xs =>
        obtain ⟨ha, h3⟩ := EL_cons.1 h3
        have hq : okQ E v l (x, xs) := ⟨hm, hh, h3⟩
        have e : ap (x, xs) a = z := by unfold ap; rw [h2]; rfl
        have hlt : c0T a < c0T z := by
          obtain ⟨y, k1, _, _, k4⟩ := (hl.ws x hm).one _ (EL_KE h1)
          obtain rfl : y = z := by rw [h2] at k1; simpa using k1.symm
          exact k4 a (by simp)
        cases n with
        | zero => omega
        | succ n =>
          obtain ⟨x', hm', xs', y, L, k1, k2, k3, k4⟩ := peel hE hv n a (by omega) ((hE _ _ hv).1 ha)
          refine ⟨x', hm', xs', y, (x, xs) :: L, k1, k2, fun q hq' => ?_, by rw [runR, ← k4, e]⟩
          rcases List.mem_cons.1 hq' with rfl | hq'
          · exact hq
          · exact k3 q hq'
    · exact ⟨x, List.mem_filter.2 ⟨hm, by simpa using hh⟩, xs, z, [], h1, h2, fun q hq => (by cases hq), rfl⟩
end
theorem WS.congr {g : Gram} {E E' : Int → Tree → Prop} {v : Nat} {x : Work} (h : WS g E v x) (he : ∀ s ∈ x.right, ∀ z, E s z ↔ E' s z) : WS g E' v x := by
  have hk : ∀ {xs}, KE E' x.right xs → KE E x.right xs := fun q => KE_mono (fun s hs z => (he s hs z).2) q
  exact {
    one := fun xs q => h.one xs (hk q)
    fit := fun xs y q => h.fit xs y (EL_mono (fun s hs z => (he s (List.mem_filter.1 hs).1 z).2) q)
    fill := fun a xs y b q => h.fill a xs y b (hk q)
    add := fun a xs y z q => h.add a xs y z (hk q)
    inj := fun xs xs' q q' => h.inj xs xs' (hk q) (hk q') }
theorem Dis.congr {E E' : Int → Tree → Prop} {x x' : Work} (h : Dis E x x') (he : ∀ s ∈ x.right, ∀ z, E s z ↔ E' s z) (he' : ∀ s ∈ x'.right, ∀ z, E s z ↔ E' s z) : Dis E' x x' := fun xs xs' q q' =>
  h xs xs' (KE_mono (fun s hs z => (he s hs z).2) q) (KE_mono (fun s hs z => (he' s hs z).2) q')
theorem VS.congr {g : Gram} {E E' : Int → Tree → Prop} {v : Nat} {l : List Work} (h : VS g E v l) (he : ∀ x ∈ l, ∀ s ∈ x.right, ∀ z, E s z ↔ E' s z) : VS g E' v l where
  ws x hx := (h.ws x hx).congr (he x hx)
  dis := List.Pairwise.imp_of_mem (fun {x x'} h1 h2 hd => hd.congr (he x h1) (he x' h2)) h.dis
  surj z hz := by
    obtain ⟨x, hx, xs, h1, h2⟩ := h.surj z hz
    exact ⟨x, hx, xs, EL_mono (fun s hs z => (he x hx s (List.mem_filter.1 hs).1 z).1) h1, h2⟩
/-- What a rule of a new nonterminal makes of trees. -/
structure NS (g : Gram) (E : Int → Tree → Prop) (N : Int) (l : List Work) : Prop where
  one : ∀ x ∈ l, ∀ xs, EL E xs (kids x.right) → ∃ y, muL (sing xs) x.l = [y] ∧ E N y ∧ gwT g y = gwK g x.right xs ∧ ∀ k ∈ xs, c0T k < c0T y
  inj : ∀ x ∈ l, ∀ xs xs', EL E xs (kids x.right) → EL E xs' (kids x.right) → muL (sing xs) x.l = muL (sing xs') x.l → xs = xs'
  dis : l.Pairwise fun x x' => ∀ xs xs', EL E xs (kids x.right) → EL E xs' (kids x'.right) → muL (sing xs) x.l ≠ muL (sing xs') x'.l
  surj : ∀ y, E N y → ∃ x ∈ l, ∃ xs, EL E xs (kids x.right) ∧ muL (sing xs) x.l = [y]
theorem NS.congr {g : Gram} {E E' : Int → Tree → Prop} {N : Int} {l : List Work} (h : NS g E N l) (hN : ∀ z, E N z ↔ E' N z) (he : ∀ x ∈ l, ∀ s ∈ x.right, ∀ z, E s z ↔ E' s z) : NS g E' N l := by
  have hk : ∀ x ∈ l, ∀ {xs}, EL E' xs (kids x.right) → EL E xs (kids x.right) := fun x hx _ q => EL_mono (fun s hs z => (he x hx s (List.mem_filter.1 hs).1 z).2) q
  exact {
    one := fun x hx xs q => by
      obtain ⟨y, h1, h2, h3⟩ := h.one x hx xs (hk x hx q)
      exact ⟨y, h1, (hN y).1 h2, h3⟩
    inj := fun x hx xs xs' q q' => h.inj x hx xs xs' (hk x hx q) (hk x hx q')
    dis := List.Pairwise.imp_of_mem (fun {x x'} h1 h2 hd xs xs' q q' => hd xs xs' (hk x h1 q) (hk x' h2 q')) h.dis
    surj := fun y hy => by
      obtain ⟨x, hx, xs, h1, h2⟩ := h.surj y ((hN y).2 hy)
      exact ⟨x, hx, xs, EL_mono (fun s hs z => (he x hx s (List.mem_filter.1 hs).1 z).1) h1, h2⟩ }
/-- A rule with the new nonterminal behind it. -/
def wthN (N : Nat) (x : Work) : Work := ⟨x.right ++ [(N : Int)], [.mk 4 (kids x.right).length x.l]⟩
theorem thenW_is (N : Nat) (x : Work) : thenW (N : Int) x = [x, wthN N x] := rfl
theorem upE_ne {E : Int → Tree → Prop} {v : Nat} {l : List Work} {N : Nat} {s : Int} (h : s < (N : Int)) (z : Tree) : E s z ↔ upE E v l N s z := by
  unfold upE; rw [if_neg (by omega)]
theorem upE_N {E : Int → Tree → Prop} {v : Nat} {l : List Work} {N : Nat} {z : Tree} : upE E v l N (N : Int) z ↔ Chn E v l z := by
  unfold upE; rw [if_pos rfl]
theorem kids_one (N : Nat) : kids [(N : Int)] = [(N : Int)] := by rw [kidsP (by omega)]; rfl
theorem EL_one {E : Int → Tree → Prop} {N : Nat} {zs : List Tree} (h : EL E zs (kids [(N : Int)])) : ∃ c, zs = [c] ∧ E N c := by
  rw [kids_one] at h
  match zs, h with
  | [c], h => exact ⟨c, rfl, (EL_cons.1 h).1⟩
  | [], h => exact absurd h.1 (by simp)
  | _ :: _ :: _, h => exact absurd h.1 (by simp)
section
variable {g : Gram} {E : Int → Tree → Prop} {N v : Nat} {l : List Work} (hl : VS g E v l) (hx : ∀ x ∈ l, XOk g N x)
include hl hx
theorem then_val {B C : Nat} {o : Bool} {x : Work} (hxo : TOk g B C N o x) {xs : List Tree} (hn : xs.length = (kids x.right).length) {y : Tree} (hy : muL (sing xs) x.l = [y]) {L : List (Work × List Tree)} (hL : ∀ q ∈ L, okQ E v l q) : muL (sing (xs ++ [runR L gapN])) (wthN N x).l = [runR L y] := by
  unfold wthN
  rw [then_mu hxo hn, hy, fil_row, run_fil hl hx y hL, fil_gap]
theorem with_split {x : Work} (hm : x ∈ l) {zs : List Tree} (hz : KE (upE E v l N) (wthN N x).right zs) : ∃ xs L, zs = xs ++ [runR L gapN] ∧ KE E x.right xs ∧ L ≠ [] ∧ ∀ q ∈ L, okQ E v l q := by
  obtain ⟨xs, cs, rfl, h1, h2⟩ := KE_split (a := x.right) (hx x hm).ne hz
  obtain ⟨c, rfl, h3⟩ := EL_one h2
  obtain ⟨L, k1, k2, rfl⟩ := upE_N.1 h3
  exact ⟨xs, L, rfl, KE_mono (fun s hs z => (upE_ne ((hx x hm).sym s hs) z).2) h1, k1, k2⟩
theorem other_in {x : Work} (h : x ∈ otherW (v : Int) l) : x ∈ l := (List.mem_filter.1 h).1
theorem itself_vs (hE : ∀ s z, s < g.vars → (E s z ↔ fits g z s = true)) (hv : (v : Int) < g.vars) : VS g (upE E v l N) v ((otherW (v : Int) l).flatMap (thenW (N : Int))) where
  ws w hw := by
    obtain ⟨x, hxo, hw⟩ := List.mem_flatMap.1 hw
    have hm := other_in hl hx hxo
    have hsym := (hx x hm).sym
    have hwx := hl.ws x hm
    have hce : ∀ s ∈ x.right, ∀ z, E s z ↔ upE E v l N s z := fun s hs z => upE_ne (hsym s hs) z
    rw [thenW_is] at hw
    rcases List.mem_cons.1 hw with rfl | hw
    · exact hwx.congr hce
    · rw [List.mem_singleton.1 hw]
      obtain ⟨B, C, hto⟩ := hx x hm
      have hne := (hx x hm).ne
      have hh : hdI (wthN N x).right = hdI x.right := hdI_app hne
      exact {
        one := fun zs hz => by
          obtain ⟨xs, L, rfl, h1, h2, h3⟩ := with_split hl hx hm hz
          obtain ⟨y, k1, k2, k3, k4⟩ := hwx.one _ h1
          have a1 := run_add hl hx h3 y
          have a2 := c0_pos k2
          refine ⟨runR L y, then_val hl hx hto (KE_len h1) k1 h3, run_rule hl hx h3 _ (.inl k2), ?_, fun k hk => ?_⟩
          · show _ = gwK g (x.right ++ [(N : Int)]) (xs ++ [runR L gapN])
            rw [run_gw hl hx h3, k3, gwK_append (KE_len h1)]
            congr 1
            show _ = catR [(N : Int)] (gwL g [runR L gapN])
            rw [gwL, catR_pos (by omega), catR_nil, List.append_nil]
          · rcases List.mem_append.1 hk with hk | hk
            · have := k4 k hk; omega
            · rw [List.mem_singleton.1 hk]; omega
        fit := fun zs z hz hzz => by
          have h0 := hz
          rw [show (wthN N x).right = x.right ++ [(N : Int)] from rfl, kids_app] at h0
          obtain ⟨xs, cs, rfl, h1, h2⟩ := EL_split h0
          obtain ⟨c, rfl, h3⟩ := EL_one h2
          obtain ⟨L, k1, k2, rfl⟩ := upE_N.1 h3
          have h1 : EL E xs (kids x.right) := EL_mono (fun s hs z => (hce s (List.mem_filter.1 hs).1 z).2) h1
          obtain ⟨y, e1, _⟩ := hwx.one _ (EL_KE h1)
          rw [then_val hl hx hto h1.1 e1 k2] at hzz
          obtain rfl : runR L y = z := by simpa using hzz
          exact run_fit hl hx hE hv k2 (hwx.fit _ _ h1 e1)
        fill := fun a zs z b hz h0 hzz => by
          rw [hh] at h0
          obtain ⟨xs, L, e1, h1, h2, h3⟩ := with_split hl hx hm hz
          obtain ⟨a', xs, rfl⟩ := KE_shape hne h0 h1
          obtain ⟨rfl, rfl⟩ : a = a' ∧ zs = xs ++ [runR L gapN] := by simpa using e1
          obtain ⟨y, e2, _⟩ := hwx.one _ h1
          have e3 := then_val hl hx hto (KE_len h1) e2 h3
          rw [List.cons_append] at e3
          rw [e3] at hzz
          obtain rfl : runR L y = z := by simpa using hzz
          have e4 := hwx.fill _ _ _ b h1 h0 e2
          have e5 := then_val hl hx hto (xs := fil b a :: xs) (by have := KE_len h1; simpa using this) e4 h3
          rw [List.cons_append] at e5
          rw [e5, run_fil hl hx b h3]
        add := fun a zs z w hz h0 hzz hww => by
          rw [hh] at h0
          obtain ⟨xs, L, e1, h1, h2, h3⟩ := with_split hl hx hm hz
          obtain ⟨a', xs, rfl⟩ := KE_shape hne h0 h1
          obtain ⟨rfl, rfl⟩ : a = a' ∧ zs = xs ++ [runR L gapN] := by simpa using e1
          obtain ⟨y, e2, _⟩ := hwx.one _ h1
          have h1g : KE E x.right (gapN :: xs) := (KE_hd hne h0).2 ((KE_hd hne h0).1 h1)
          obtain ⟨d, e4, _⟩ := hwx.one _ h1g
          have e3 := then_val hl hx hto (KE_len h1) e2 h3
          have e5 := then_val hl hx hto (KE_len h1g) e4 h3
          rw [List.cons_append] at e3 e5
          rw [e3] at hzz
          rw [e5] at hww
          obtain rfl : runR L y = z := by simpa using hzz
          obtain rfl : runR L d = w := by simpa using hww
          have a1 := run_add hl hx h3 y
          have a2 := run_add hl hx h3 d
          have a3 := hwx.add _ _ _ _ h1 h0 e2 e4
          omega
        inj := fun zs zs' hz hz' he => by
          obtain ⟨xs, L, rfl, h1, h2, h3⟩ := with_split hl hx hm hz
          obtain ⟨xs', L', rfl, h1', h2', h3'⟩ := with_split hl hx hm hz'
          obtain ⟨y, e2, _⟩ := hwx.one _ h1
          obtain ⟨y', e2', _⟩ := hwx.one _ h1'
          rw [then_val hl hx hto (KE_len h1) e2 h3, then_val hl hx hto (KE_len h1') e2' h3'] at he
          obtain ⟨rfl, rfl⟩ := run_inj hl hx (base_other hl hx hxo h1 e2) (base_other hl hx hxo h1' e2') h3 h3' (by simpa using he)
          rw [hwx.inj _ _ h1 h1' (by rw [e2, e2'])] }
  dis := by
    have val : ∀ x ∈ otherW (v : Int) l, ∀ w ∈ thenW (N : Int) x, ∀ zs, KE (upE E v l N) w.right zs → ∃ xs y L, KE E x.right xs ∧ muL (sing xs) x.l = [y] ∧ (∀ q ∈ L, okQ E v l q) ∧ muL (sing zs) w.l = [runR L y] ∧ (w = x → L = []) ∧ (w = wthN N x → L ≠ []) := fun x hxo w hw zs hz => by
      have hm := other_in hl hx hxo
      have hne : x ≠ wthN N x := fun q => by
        have := congrArg (fun w => w.right.length) q
        simp [wthN] at this
      rw [thenW_is] at hw
      rcases List.mem_cons.1 hw with rfl | hw
      · have h1 : KE E w.right zs := KE_mono (fun s hs z => (upE_ne ((hx w hm).sym s hs) z).2) hz
        obtain ⟨y, k1, _⟩ := (hl.ws w hm).one _ h1
        exact ⟨zs, y, [], h1, k1, fun q hq => (by cases hq), k1, fun _ => rfl, fun q => absurd q hne⟩
      · rw [List.mem_singleton.1 hw] at hz ⊢
        obtain ⟨xs, L, rfl, h1, h2, h3⟩ := with_split hl hx hm hz
        obtain ⟨y, k1, _⟩ := (hl.ws x hm).one _ h1
        obtain ⟨B, C, hto⟩ := hx x hm
        exact ⟨xs, y, L, h1, k1, h3, then_val hl hx hto (KE_len h1) k1 h3, fun q => absurd q.symm hne, fun _ => h2⟩
    rw [List.pairwise_flatMap]
    refine ⟨fun x hxo => ?_, ?_⟩
    · rw [thenW_is]
      refine List.pairwise_pair.2 fun zs zs' hz hz' he => ?_
      obtain ⟨xs, y, L, h1, h2, h3, h4, h5, _⟩ := val x hxo x (by rw [thenW_is]; simp) zs hz
      obtain ⟨xs', y', L', h1', h2', h3', h4', _, h5'⟩ := val x hxo (wthN N x) (by rw [thenW_is]; simp) zs' hz'
      rw [h4, h4'] at he
      obtain ⟨e, _⟩ := run_inj hl hx (base_other hl hx hxo h1 h2) (base_other hl hx hxo h1' h2') h3 h3' (by simpa using he)
      exact h5' rfl (by rw [← e]; exact h5 rfl)
    · have hpw : (otherW (v : Int) l).Pairwise (Dis E) := List.Pairwise.sublist List.filter_sublist hl.dis
      refine List.Pairwise.imp_of_mem (fun {x x'} hxo hxo' hd w hw w' hw' zs zs' hz hz' he => ?_) hpw
      obtain ⟨xs, y, L, h1, h2, h3, h4, _⟩ := val x hxo w hw zs hz
      obtain ⟨xs', y', L', h1', h2', h3', h4', _⟩ := val x' hxo' w' hw' zs' hz'
      rw [h4, h4'] at he
      obtain ⟨_, e⟩ := run_inj hl hx (base_other hl hx hxo h1 h2) (base_other hl hx hxo' h1' h2') h3 h3' (by simpa using he)
      exact hd _ _ h1 h1' (by rw [h2, h2', e])
  surj z hz := by
    obtain ⟨x, hxo, xs, y, L, h1, h2, h3, rfl⟩ := peel hl hx hE hv _ z (Nat.le_refl _) hz
    have hm := other_in hl hx hxo
    have h1' : EL (upE E v l N) xs (kids x.right) := EL_mono (fun s hs z => (upE_ne ((hx x hm).sym s (List.mem_filter.1 hs).1) z).1) h1
    by_cases hL : L = []
    · subst hL
      exact ⟨x, List.mem_flatMap.2 ⟨x, hxo, by rw [thenW_is]; simp⟩, xs, h1', h2⟩
    · obtain ⟨B, C, hto⟩ := hx x hm
      refine ⟨wthN N x, List.mem_flatMap.2 ⟨x, hxo, by rw [thenW_is]; simp⟩, xs ++ [runR L gapN], ?_, then_val hl hx hto h1.1 h2 h3⟩
      show EL _ _ (kids (x.right ++ [(N : Int)]))
      rw [kids_app, kids_one]
      exact EL_app h1' (EL_cons.2 ⟨upE_N.2 ⟨L, hL, h3, rfl⟩, EL_nil⟩)
theorem own_in {w : Work} (h : w ∈ ownW (v : Int) l) : ∃ x ∈ l, hdI x.right = (v : Int) ∧ w = gappedW x := by
  obtain ⟨x, hm, rfl⟩ := List.mem_map.1 h
  obtain ⟨h1, h2⟩ := List.mem_filter.1 hm
  exact ⟨x, h1, of_decide_eq_true h2, rfl⟩
/-- What a rule of the new nonterminal makes: a link, and those behind it. -/
theorem own_val {x : Work} (hm : x ∈ l) (hh : hdI x.right = (v : Int)) {w : Work} (hw : w ∈ thenW (N : Int) (gappedW x)) {zs : List Tree} (hz : EL (upE E v l N) zs (kids w.right)) : ∃ xs L, okQ E v l (x, xs) ∧ (∀ q ∈ L, okQ E v l q) ∧ muL (sing zs) w.l = [runR (L ++ [(x, xs)]) gapN] ∧ ((w = gappedW x ∧ L = [] ∧ zs = xs) ∨ (w = wthN N (gappedW x) ∧ L ≠ [] ∧ zs = xs ++ [runR L gapN])) := by
  have hsym := (hx x hm).sym
  have hsub : ∀ s ∈ kids x.right.tail, ∀ z, upE E v l N s z → E s z := fun s hs z => (upE_ne (hsym s (List.mem_of_mem_tail (List.mem_filter.1 hs).1)) z).2
  rw [thenW_is] at hw
  rcases List.mem_cons.1 hw with rfl | hw
  · have h1 : EL E zs (kids x.right.tail) := EL_mono hsub hz
    have hq : okQ E v l (x, zs) := ⟨hm, hh, h1⟩
    refine ⟨zs, [], hq, fun q hq => (by cases hq), ?_, .inl ⟨rfl, rfl, rfl⟩⟩
    rw [gap_mu (hx x hm) (by omega)]
    exact (ap_is hl hx hq gapN).1
  · rw [List.mem_singleton.1 hw] at hz ⊢
    have h0 := hz
    rw [show (wthN N (gappedW x)).right = x.right.tail ++ [(N : Int)] from rfl, kids_app] at h0
    obtain ⟨xs, cs, rfl, h1, h2⟩ := EL_split h0
    obtain ⟨c, rfl, h3⟩ := EL_one h2
    obtain ⟨L, k1, k2, rfl⟩ := upE_N.1 h3
    have h1 : EL E xs (kids x.right.tail) := EL_mono hsub h1
    have hq : okQ E v l (x, xs) := ⟨hm, hh, h1⟩
    refine ⟨xs, L, hq, k2, ?_, .inr ⟨rfl, k1, rfl⟩⟩
    obtain ⟨B, C, hto⟩ := hx x hm
    have hgo := gapped_ok hto (by omega)
    rw [then_val hl hx hgo (xs := xs) h1.1 (y := ap (x, xs) gapN) (by rw [gap_mu (hx x hm) (by omega)]; exact (ap_is hl hx hq gapN).1) k2, run_snoc]
theorem itself_ns : NS g (upE E v l N) (N : Int) ((ownW (v : Int) l).flatMap (thenW (N : Int))) where
  one w hw zs hz := by
    obtain ⟨w0, hw0, hw⟩ := List.mem_flatMap.1 hw
    obtain ⟨x, hm, hh, rfl⟩ := own_in hl hx hw0
    obtain ⟨xs, L, hq, hL, hv, hcase⟩ := own_val hl hx hm hh hw hz
    have hLq : ∀ p ∈ L ++ [(x, xs)], okQ E v l p := fun p hp => by
      rcases List.mem_append.1 hp with hp | hp
      · exact hL p hp
      · rw [List.mem_singleton.1 hp]; exact hq
    obtain ⟨_, p1, p2, p3⟩ := ap_is hl hx hq gapN
    have hg0 : gwT g gapN = [] := by rw [gapN, gwT, if_pos (by decide)]
    rw [hg0, List.nil_append] at p2
    refine ⟨_, hv, upE_N.2 ⟨_, by simp, hLq, rfl⟩, ?_, fun k hk => ?_⟩
    · rw [run_snoc, run_gw hl hx hL, p2]
      rcases hcase with ⟨rfl, rfl, rfl⟩ | ⟨rfl, _, rfl⟩
      · rw [runR, hg0, List.append_nil]; rfl
      · show _ = gwK g (x.right.tail ++ [(N : Int)]) (xs ++ [runR L gapN])
        rw [gwK_append hq.2.2.1]
        congr 1
        show _ = catR [(N : Int)] (gwL g [runR L gapN])
        rw [gwL, catR_pos (by omega), catR_nil, List.append_nil]
    · rw [run_snoc, run_add hl hx hL]
      have hp := c0_pos p1
      rcases hcase with ⟨rfl, rfl, rfl⟩ | ⟨rfl, _, rfl⟩
      · have := p3 k hk; omega
      · rcases List.mem_append.1 hk with hk | hk
        · have := p3 k hk; omega
        · rw [List.mem_singleton.1 hk]; omega
  inj w hw zs zs' hz hz' he := by
    obtain ⟨w0, hw0, hw⟩ := List.mem_flatMap.1 hw
    obtain ⟨x, hm, hh, rfl⟩ := own_in hl hx hw0
    obtain ⟨xs, L, hq, hL, hv, hcase⟩ := own_val hl hx hm hh hw hz
    obtain ⟨xs', L', hq', hL', hv', hcase'⟩ := own_val hl hx hm hh hw hz'
    rw [hv, hv'] at he
    have okA : ∀ {L : List (Work × List Tree)} {xs : List Tree}, okQ E v l (x, xs) → (∀ q ∈ L, okQ E v l q) → ∀ p ∈ L ++ [(x, xs)], okQ E v l p := fun hq hL p hp => by
      rcases List.mem_append.1 hp with hp | hp
      · exact hL p hp
      · rw [List.mem_singleton.1 hp]; exact hq
    obtain ⟨e, _⟩ := run_inj hl hx (base_gap hl hx) (base_gap hl hx) (okA hq hL) (okA hq' hL') (by simpa using he)
    obtain ⟨rfl, e2⟩ := List.append_inj' e rfl
    obtain rfl : xs = xs' := by simpa using e2
    rcases hcase with ⟨_, h1, rfl⟩ | ⟨_, h1, rfl⟩
    · rcases hcase' with ⟨_, _, rfl⟩ | ⟨_, h2, _⟩
      · rfl
      · exact absurd h1 h2
    · rcases hcase' with ⟨_, h2, _⟩ | ⟨_, _, rfl⟩
      · exact absurd h2 h1
      · rfl
  dis := by
    have okA : ∀ {L : List (Work × List Tree)} {q : Work × List Tree}, okQ E v l q → (∀ q ∈ L, okQ E v l q) → ∀ p ∈ L ++ [q], okQ E v l p := fun hq hL p hp => by
      rcases List.mem_append.1 hp with hp | hp
      · exact hL p hp
      · rw [List.mem_singleton.1 hp]; exact hq
    rw [List.pairwise_flatMap]
    refine ⟨fun w0 hw0 => ?_, ?_⟩
    · obtain ⟨x, hm, hh, rfl⟩ := own_in hl hx hw0
      rw [thenW_is]
      refine List.pairwise_pair.2 fun zs zs' hz hz' he => ?_
      obtain ⟨xs, L, hq, hL, hv, hcase⟩ := own_val hl hx hm hh (w := gappedW x) (by rw [thenW_is]; simp) hz
      obtain ⟨xs', L', hq', hL', hv', hcase'⟩ := own_val hl hx hm hh (w := wthN N (gappedW x)) (by rw [thenW_is]; simp) hz'
      have hne : gappedW x ≠ wthN N (gappedW x) := fun q => by
        have := congrArg (fun w => w.right.length) q
        simp [wthN] at this
      rw [hv, hv'] at he
      obtain ⟨e, _⟩ := run_inj hl hx (base_gap hl hx) (base_gap hl hx) (okA hq hL) (okA hq' hL') (by simpa using he)
      obtain ⟨e1, _⟩ := List.append_inj' e rfl
      rcases hcase with ⟨_, h1, _⟩ | ⟨h0, _⟩
      · rcases hcase' with ⟨h2, _⟩ | ⟨_, h2, _⟩
        · exact hne h2.symm
        · exact h2 (by rw [← e1, h1])
      · exact hne h0
    · unfold ownW
      rw [List.pairwise_map]
      have hpw : (l.filter fun x => decide (hdI x.right = (v : Int))).Pairwise (Dis E) := List.Pairwise.sublist List.filter_sublist hl.dis
      refine List.Pairwise.imp_of_mem (fun {x x'} hxf hxf' hd w hw w' hw' zs zs' hz hz' he => ?_) hpw
      obtain ⟨hm, hh⟩ := List.mem_filter.1 hxf
      obtain ⟨hm', hh'⟩ := List.mem_filter.1 hxf'
      have hh := of_decide_eq_true hh
      have hh' := of_decide_eq_true hh'
      obtain ⟨xs, L, hq, hL, hv, _⟩ := own_val hl hx hm hh hw hz
      obtain ⟨xs', L', hq', hL', hv', _⟩ := own_val hl hx hm' hh' hw' hz'
      rw [hv, hv'] at he
      obtain ⟨e, _⟩ := run_inj hl hx (base_gap hl hx) (base_gap hl hx) (okA hq hL) (okA hq' hL') (by simpa using he)
      obtain ⟨_, e2⟩ := List.append_inj' e rfl
      have e3 : (x, xs) = (x', xs') := by simpa using e2
      obtain ⟨rfl, rfl⟩ := Prod.mk.inj e3
      exact hd _ _ (ap_ke hl hx hq gapN) (ap_ke hl hx hq gapN) rfl
  surj z hz := by
    obtain ⟨L, hL, ho, rfl⟩ := upE_N.1 hz
    obtain ⟨L, q, rfl⟩ : ∃ L0 q, L = L0 ++ [q] := ⟨L.dropLast, L.getLast hL, (List.dropLast_concat_getLast hL).symm⟩
    obtain ⟨x, xs⟩ := q
    have hq := ho (x, xs) (by simp)
    have hLo : ∀ q ∈ L, okQ E v l q := fun q hq => ho q (by simp [hq])
    obtain ⟨hm, hh, h1⟩ := hq
    dsimp only at hm hh h1
    have hsym := (hx x hm).sym
    have h1' : EL (upE E v l N) xs (kids x.right.tail) := EL_mono (fun s hs z => (upE_ne (hsym s (List.mem_of_mem_tail (List.mem_filter.1 hs).1)) z).1) h1
    have how : gappedW x ∈ ownW (v : Int) l := List.mem_map.2 ⟨x, List.mem_filter.2 ⟨hm, decide_eq_true hh⟩, rfl⟩
    have hval := (ap_is hl hx (q := (x, xs)) ⟨hm, hh, h1⟩ gapN).1
    by_cases hn : L = []
    · subst hn
      refine ⟨gappedW x, List.mem_flatMap.2 ⟨_, how, by rw [thenW_is]; simp⟩, xs, h1', ?_⟩
      rw [gap_mu (hx x hm) (by omega)]
      exact hval
    · obtain ⟨B, C, hto⟩ := hx x hm
      have hgo := gapped_ok hto (by omega)
      refine ⟨wthN N (gappedW x), List.mem_flatMap.2 ⟨_, how, by rw [thenW_is]; simp⟩, xs ++ [runR L gapN], ?_, ?_⟩
      · show EL _ _ (kids (x.right.tail ++ [(N : Int)]))
        rw [kids_app, kids_one]
        exact EL_app h1' (EL_cons.2 ⟨upE_N.2 ⟨L, hn, hLo, rfl⟩, EL_nil⟩)
      · rw [then_val hl hx hgo (xs := xs) h1.1 (y := ap (x, xs) gapN) (by rw [gap_mu (hx x hm) (by omega)]; exact hval) hLo, run_snoc]
end
end Go.Proofs.Yticnpbopelgmiaa
