/-
  gram.Same (by slices.EqualFunc).
-/
import Derived.Test.YtpaeihifcmohkaaGram5
namespace Go.Proofs.Ytpaeihifcmohkaa
open Go.RowKit

theorem same1_any (w : World) (r q : Rule) (u v : Value) (hu : Nums [] w u r.right) (hv : Nums [] w v q.right) (hl : r.right.length ≤ 100000000) (hl' : q.right.length ≤ 100000000) :
    Calls Try.prog 83 #[.agg #[.int .i64 r.left, u], .agg #[.int .i64 q.left, v]] w fun e w' => e = .returned (.bool (decide (r = q))) ∧ Ext [] w w' := by
  obtain ⟨x, xs⟩ := r
  obtain ⟨y, ys⟩ := q
  simp only at hu hv hl hl'
  have Hu := Lib.hid hu
  have Hv := Lib.hid hv
  clear hu hv
  by_cases hxy : x = y
  · subst hxy
    go_enter Try.func83, Try.ntmps83
    go_wp2_with (go_at_call 84; refine (slicesEqual_any [] _ _ xs ys _ (Sl.ext0 Hu.out ((Ext.new w _).alloc _)) (Sl.ext0 Hv.out ((Ext.new w _).alloc _)) hl hl').mono ?_; rintro e w' ⟨rfl, n, rfl⟩)
    go_ret
    exact ⟨ret_bool' (by simp), drewN_ext ((Ext.new w _).alloc _) _⟩
  · have hxy' : (x == y) = false := by simpa using hxy
    have Hn : Hid (false = decide ((⟨x, xs⟩ : Rule) = ⟨y, ys⟩)) := Lib.hid (by symm; rw [decide_eq_false_iff_not]; simp only [Rule.mk.injEq, not_and]; intro h; exact absurd h hxy)
    clear hxy
    go_enter Try.func83, Try.ntmps83
    go_wp2_with fail
    go_ret
    exact ⟨ret_bool' Hn.out, (Ext.new w _).alloc _⟩

set_option maxRecDepth 100000 in
set_option maxHeartbeats 1000000 in
theorem equalFunc_any (w : World) (rs qs : List Rule) (u v : Value) (hu : Rules [] w u rs) (hv : Rules [] w v qs) (hl : rs.length ≤ 100000000) (hl2 : ∀ r ∈ rs, r.right.length ≤ 100000000) (hl' : ∀ r ∈ qs, r.right.length ≤ 100000000) (hl3 : qs.length ≤ 100000000) :
    Calls Try.prog 82 #[u, v, .func (.func 83) #[] #[]] w fun e w' => e = .returned (.bool (decide (rs = qs))) ∧ Ext [] w w' := by
  obtain ⟨a, cap, rfl, hc, _⟩ := Rules.shape hu
  obtain ⟨a', cap', rfl, hc', _⟩ := Rules.shape hv
  have Hu := Lib.hid hu
  have Hv := Lib.hid hv
  have HL2 := Lib.hid hl2
  have HL' := Lib.hid hl'
  clear hu hv hl2 hl'
  by_cases h4 : rs.length = qs.length
  · have H4 := Lib.hid h4
    have h4' : ((rs.length : Int) != qs.length) = false := by simp [h4]
    clear h4
    go_enter Try.func82, Try.ntmps82
    go_wp2_with fail
    go_loopw [7, 17] (fun _ iv wr => ∃ (k : Nat), iv = .int .i64 k ∧ k ≤ rs.length ∧ Ext [] w wr ∧ ∀ j (hx : j < rs.length) (hy : j < qs.length), j < k → rs[j] = qs[j]) (fun _ iv _ => rs.length - (intOf iv).toNat)
    case atStart => exact ⟨0, rfl, Nat.zero_le _, Ext.refl _ _, by omega⟩
    case round =>
      obtain ⟨k, rfl, hk, hE, hp⟩ := hrel
      have Hp := Lib.hid hp
      have HE := Lib.hid hE
      clear hp
      by_cases hlt : k < rs.length
      · have hlt' : k < qs.length := by have := H4.out; omega
        obtain ⟨b, off, rfl, _, hbs, hb⟩ := Rules.at Hu.out (by omega)
        obtain ⟨b', off', rfl, _, hbs', hb'⟩ := Rules.at Hv.out (by omega)
        obtain ⟨ra, rc, c0, c1, hr⟩ := hb k hlt
        obtain ⟨qa, qc, d0, d1, hq⟩ := hb' k hlt'
        have hrl := HL2.out rs[k] (List.getElem_mem hlt)
        have hql := HL'.out qs[k] (List.getElem_mem hlt')
        have Hr := Lib.hid (Sl.ext0 hr hE)
        have Hq := Lib.hid (Sl.ext0 hq hE)
        replace c0 := (hE.cell (p := ⟨b, off + k * 2, none⟩) hbs (by simp)).trans c0
        replace c1 := (hE.cell (p := ⟨b, off + k * 2 + 1, none⟩) hbs (by simp)).trans c1
        replace d0 := (hE.cell (p := ⟨b', off' + k * 2, none⟩) hbs' (by simp)).trans d0
        replace d1 := (hE.cell (p := ⟨b', off' + k * 2 + 1, none⟩) hbs' (by simp)).trans d1
        have hbs1 : b < wr.heap.size := Nat.lt_of_lt_of_le hbs hE.size
        have hbs2 : b' < wr.heap.size := Nat.lt_of_lt_of_le hbs' hE.size
        have Hno : Hid (rs[k] ≠ qs[k] → false = decide (rs = qs)) := Lib.hid (fun h => by symm; rw [decide_eq_false_iff_not]; intro he; subst he; exact h rfl)
        have Hyes : Hid (rs[k] = qs[k] → ∀ j (hx : j < rs.length) (hy : j < qs.length), j < k + 1 → rs[j] = qs[j]) := Lib.hid (fun h j hx hy hj => by
          by_cases hjk : j < k
          · exact Hp.out j hx hy hjk
          · obtain rfl : j = k := by omega
            exact h)
        clear hr hq hb hb' hE
        generalize rs[k] = r at c0 c1 hrl Hr Hno Hyes
        generalize qs[k] = q at d0 d1 hql Hq Hno Hyes
        have e0 : (0 : Int) ≤ (k : Int) := by omega
        have e1 : (k : Int) < (rs.length : Int) := by omega
        have e2 : (k : Int) < (qs.length : Int) := by omega
        cases hd : decide (r = q) with
        | true =>
          have Ho := Lib.hid (Hyes.out (of_decide_eq_true hd))
          go_wp2_with (go_at_call 83; refine (same1_any _ r q _ _ (Sl.ext0 (Sl.bar Hr.out (by simp)) ((Ext.new wr _).alloc _)) (Sl.ext0 (Sl.bar Hq.out (by simp)) ((Ext.new wr _).alloc _)) hrl hql).mono ?_; rintro e w' ⟨rfl, hE'⟩)
          go_roundw
          case rel => exact ⟨k + 1, by go_num, by omega, ((HE.out.alloc _).alloc _).trans hE' (by simp), Ho.out⟩
          case measure => simp [intOf]; omega
        | false =>
          have Hn := Lib.hid (Hno.out (of_decide_eq_false hd))
          go_wp2_with (go_at_call 83; refine (same1_any _ r q _ _ (Sl.ext0 (Sl.bar Hr.out (by simp)) ((Ext.new wr _).alloc _)) (Sl.ext0 (Sl.bar Hq.out (by simp)) ((Ext.new wr _).alloc _)) hrl hql).mono ?_; rintro e w' ⟨rfl, hE'⟩)
          go_ret
          exact ⟨ret_bool' Hn.out, ((HE.out.alloc _).alloc _).trans hE' (by simp)⟩
      · have Ht : Hid (true = decide (rs = qs)) := Lib.hid (by symm; rw [decide_eq_true_iff]; exact rules_eq H4.out fun j hx hy => Hp.out j hx hy (by omega))
        go_wp2_with fail
        go_ret
        exact ⟨ret_bool' Ht.out, HE.out⟩
  · have h4' : ((rs.length : Int) != qs.length) = true := by rw [bne_iff_ne]; omega
    have Hn : Hid (false = decide (rs = qs)) := Lib.hid (by symm; rw [decide_eq_false_iff_not]; intro he; subst he; exact h4 rfl)
    clear h4
    go_enter Try.func82, Try.ntmps82
    go_wp2_with fail
    go_ret
    exact ⟨ret_bool' Hn.out, Ext.refl _ _⟩

set_option maxRecDepth 100000 in
theorem same_any (g h : Gram) (rv qv : Value) (w : World) (hu : Rules [] w rv g.rules) (hv : Rules [] w qv h.rules) (hl : g.le 100000000) (hl' : h.le 100000000) :
    Calls Try.prog 28 #[.agg (GramC g rv), .agg (GramC h qv)] w fun e w' => e = .returned (.bool (decide (g = h))) ∧ Ext [] w w' := by
  obtain ⟨vars, terms, start, rs⟩ := g
  obtain ⟨vars', terms', start', qs⟩ := h
  obtain ⟨l1, l2⟩ := hl
  obtain ⟨l1', l2'⟩ := hl'
  simp only at l1 l2 l1' l2' hu hv
  have HR : Hid (∀ w', Ext [] w w' → vars ≠ vars' ∨ terms ≠ terms' ∨ start ≠ start' → (Ending.returned (.bool false) = Ending.returned (.bool (decide ((⟨vars, terms, start, rs⟩ : Gram) = ⟨vars', terms', start', qs⟩)))) ∧ Ext [] w w') := Lib.hid (fun w' hE h => by
    refine ⟨ret_bool' ?_, hE⟩
    symm
    rw [decide_eq_false_iff_not]
    intro he
    simp only [Gram.mk.injEq] at he
    omega)
  have HL2 := Lib.hid l2
  have HL2' := Lib.hid l2'
  have Hu := Lib.hid hu
  have Hv := Lib.hid hv
  clear l2 l2' hu hv
  by_cases h1 : vars = vars'
  · by_cases h2 : terms = terms'
    · by_cases h3 : start = start'
      · subst h1 h2 h3
        have Hd : Hid (decide (rs = qs) = decide ((⟨vars, terms, start, rs⟩ : Gram) = ⟨vars, terms, start, qs⟩)) := Lib.hid (by simp)
        go_enter Try.func28, Try.ntmps28
        go_wp2_with fail
        refine (equalFunc_any _ rs qs _ _ (Sl.ext0 Hu.out ((Ext.new w _).alloc _)) (Sl.ext0 Hv.out ((Ext.new w _).alloc _)) l1 HL2.out HL2'.out l1').mono ?_
        rintro e w' ⟨rfl, hE⟩
        have HE := Lib.hid (((Ext.new w _).alloc _).trans hE (by simp))
        clear hE
        go_wp2_with fail
        go_ret
        exact ⟨ret_bool' (by simp), HE.out⟩
      · have h3' : (start == start') = false := by simpa using h3
        have HR' := Lib.hid (fun w' hE => HR.out w' hE (Or.inr (Or.inr h3)))
        subst h1 h2
        clear h3
        go_enter Try.func28, Try.ntmps28
        go_wp2_with fail
        go_ret
        exact HR'.out _ (((Ext.refl [] w).alloc _).alloc _)
    · have h2' : (terms == terms') = false := by simpa using h2
      have HR' := Lib.hid (fun w' hE => HR.out w' hE (Or.inr (Or.inl h2)))
      subst h1
      clear h2
      go_enter Try.func28, Try.ntmps28
      go_wp2_with fail
      go_ret
      exact HR'.out _ (((Ext.refl [] w).alloc _).alloc _)
  · have h1' : (vars == vars') = false := by simpa using h1
    have HR' := Lib.hid (fun w' hE => HR.out w' hE (Or.inl h1))
    clear h1
    go_enter Try.func28, Try.ntmps28
    go_wp2_with fail
    go_ret
    exact HR'.out _ (((Ext.refl [] w).alloc _).alloc _)
end Go.Proofs.Ytpaeihifcmohkaa
