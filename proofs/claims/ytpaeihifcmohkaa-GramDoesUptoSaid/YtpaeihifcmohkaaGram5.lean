/-
  SameGram, GreatGram.
-/
import Derived.Test.YtpaeihifcmohkaaGram4
namespace Go.Proofs.Ytpaeihifcmohkaa
open Go.RowKit

theorem Sl.drewN {M : List Nat} {w : World} {sz : Nat} {v : Value} {xs : List D} (h : Sl M w sz v xs) (n : Nat) : Sl M (w.drewN n) sz v xs := h.ext0 (drewN_ext (Ext.refl _ _) n)
theorem rules_eq {rs qs : List Rule} (hl : rs.length = qs.length) (h : ∀ j (hx : j < rs.length) (hy : j < qs.length), rs[j] = qs[j]) : rs = qs := List.ext_getElem hl h

set_option maxRecDepth 100000 in
set_option maxHeartbeats 2000000 in
theorem sameGram_any (M : List Nat) (g h : Gram) (rv qv : Value) (w : World) (hu : Rules M w rv g.rules) (hv : Rules M w qv h.rules) (hl : g.le 100000000) (hl' : h.le 100000000) :
    Calls Try.prog 29 #[.agg (GramC g rv), .agg (GramC h qv)] w fun e w' => e = .returned (.bool (decide (g = h))) ∧ Ext [] w w' := by
  obtain ⟨vars, terms, start, rs⟩ := g
  obtain ⟨vars', terms', start', qs⟩ := h
  obtain ⟨a, cap, rfl, hc, _⟩ := Rules.shape hu
  obtain ⟨a', cap', rfl, hc', _⟩ := Rules.shape hv
  obtain ⟨l1, l2⟩ := hl
  obtain ⟨l1', l2'⟩ := hl'
  simp only at l1 l2 l1' l2' hu hv hc hc'
  have HR : Hid (∀ w', Ext [] w w' → vars ≠ vars' ∨ terms ≠ terms' ∨ start ≠ start' ∨ rs.length ≠ qs.length → (Ending.returned (.bool false) = Ending.returned (.bool (decide ((⟨vars, terms, start, rs⟩ : Gram) = ⟨vars', terms', start', qs⟩)))) ∧ Ext [] w w') := Lib.hid (fun w' hE h => by
    refine ⟨ret_bool' ?_, hE⟩
    symm
    rw [decide_eq_false_iff_not]
    intro he
    simp only [Gram.mk.injEq] at he
    obtain ⟨e1, e2, e3, e4⟩ := he
    rw [e4] at h
    omega)
  have HL2 := Lib.hid l2
  have HL2' := Lib.hid l2'
  have Hu := Lib.hid hu
  have Hv := Lib.hid hv
  clear l2 l2' hu hv
  by_cases h1 : vars = vars'
  · by_cases h2 : terms = terms'
    · by_cases h3 : start = start'
      · by_cases h4 : rs.length = qs.length
        · subst h1 h2 h3
          have H4 := Lib.hid h4
          have h4' : ((rs.length : Int) != qs.length) = false := by simp [h4]
          clear h4
          go_enter Try.func29, Try.ntmps29
          go_wp2_with fail
          go_loopw [5] (fun iv wr => ∃ (k : Nat), iv = .int .i64 k ∧ k ≤ rs.length ∧ Ext [] w wr ∧ Blk wr w.heap.size (GramC ⟨vars, terms, start, rs⟩ (.slice a rs.length cap)) 34 ∧ Blk wr (w.heap.size + 1) (GramC ⟨vars, terms, start, qs⟩ (.slice a' qs.length cap')) 34 ∧
              ∀ j (hx : j < rs.length) (hy : j < qs.length), j < k → rs[j] = qs[j]) (fun iv _ => rs.length - (intOf iv).toNat)
          case atStart => exact ⟨0, rfl, Nat.zero_le _, ((Ext.refl [] w).alloc _).alloc _, Blk.alloc (Blk.new _ _ _) _, newBlk _ _ _ _ (by simp), by omega⟩
          case round =>
            obtain ⟨k, rfl, hk, hE, hB1, hB2, hp⟩ := hrel
            obtain ⟨_, _, _, g3⟩ := GramC.cells hB1
            obtain ⟨_, _, _, q3⟩ := GramC.cells hB2
            have Hp := Lib.hid hp
            have HE := Lib.hid hE
            have HB1 := Lib.hid hB1
            have HB2 := Lib.hid hB2
            clear hp hB1 hB2
            by_cases hlt : k < rs.length
            · have hlt' : k < qs.length := by have := H4.out; omega
              obtain ⟨b, off, rfl, _, hbs, hb⟩ := Rules.at Hu.out (by omega)
              obtain ⟨b', off', rfl, _, hbs', hb'⟩ := Rules.at Hv.out (by omega)
              obtain ⟨ra, rc, c0, c1, hr⟩ := hb k hlt
              obtain ⟨qa, qc, d0, d1, hq⟩ := hb' k hlt'
              have hrl := HL2.out rs[k] (List.getElem_mem hlt)
              have hql := HL2'.out qs[k] (List.getElem_mem hlt')
              have Hr := Lib.hid (Sl.ext0 hr hE)
              have Hq := Lib.hid (Sl.ext0 hq hE)
              replace c0 := (hE.cell (p := ⟨b, off + k * 2, none⟩) hbs (by simp)).trans c0
              replace c1 := (hE.cell (p := ⟨b, off + k * 2 + 1, none⟩) hbs (by simp)).trans c1
              replace d0 := (hE.cell (p := ⟨b', off' + k * 2, none⟩) hbs' (by simp)).trans d0
              replace d1 := (hE.cell (p := ⟨b', off' + k * 2 + 1, none⟩) hbs' (by simp)).trans d1
              have Hno : Hid (rs[k] ≠ qs[k] → false = decide ((⟨vars, terms, start, rs⟩ : Gram) = ⟨vars, terms, start, qs⟩)) := Lib.hid (fun h => by
                symm; rw [decide_eq_false_iff_not]; intro he; simp only [Gram.mk.injEq, true_and] at he; subst he; exact h rfl)
              have Hyes : Hid (rs[k] = qs[k] → ∀ j (hx : j < rs.length) (hy : j < qs.length), j < k + 1 → rs[j] = qs[j]) := Lib.hid (fun h j hx hy hj => by
                by_cases hjk : j < k
                · exact Hp.out j hx hy hjk
                · obtain rfl : j = k := by omega
                  exact h)
              clear hr hq hb hb' hE
              generalize rs[k] = r at c0 c1 hrl Hr Hno Hyes
              generalize qs[k] = q at d0 d1 hql Hq Hno Hyes
              have e0 : (0 : Int) ≤ (k : Int) := by omega
              have e1 : (k : Int) < (rs.length : Int) := by omega
              have e2 : (k : Int) < (qs.length : Int) := by omega
              obtain ⟨x, xs⟩ := r
              obtain ⟨y, ys⟩ := q
              simp only at c0 c1 d0 d1 hrl hql Hr Hq
              by_cases hxy : x = y
              · subst hxy
                have hxx : (x != x) = false := by simp
                by_cases hs : xs = ys
                · subst hs
                  have Ho := Lib.hid (Hyes.out rfl)
                  go_wp2_with fail
                  go_quiet ((go_at_call 31; refine Calls.quiet_of (v := .bool true) ((sameInts_any [] _ _ xs xs _ (Sl.bar (Sl.drewN Hr.out _) (by simp)) (Sl.bar (Sl.drewN Hq.out _) (by simp)) hrl hql).mono ?_); rintro e w' ⟨he, hw⟩; exact ⟨by simpa using he, hw⟩))
                  go_wp2_with fail
                  go_roundw
                  case rel => exact ⟨k + 1, by go_num, by omega, drewN_ext HE.out _, Blk.ext HB1.out (drewN_ext (Ext.refl [] _) _) (by simp), Blk.ext HB2.out (drewN_ext (Ext.refl [] _) _) (by simp), Ho.out⟩
                  case measure => simp [intOf]; omega
                · have Hn := Lib.hid (Hno.out (by simp only [ne_eq, Rule.mk.injEq, true_and]; exact hs))
                  have hsd : decide (xs = ys) = false := decide_eq_false hs
                  clear hs
                  go_wp2_with fail
                  go_quiet ((go_at_call 31; refine Calls.quiet_of (v := .bool false) ((sameInts_any [] _ _ xs ys _ (Sl.bar (Sl.drewN Hr.out _) (by simp)) (Sl.bar (Sl.drewN Hq.out _) (by simp)) hrl hql).mono ?_); rintro e w' ⟨he, hw⟩; exact ⟨by rw [hsd] at he; exact he, hw⟩))
                  go_wp2_with fail
                  go_ret
                  exact ⟨ret_bool' Hn.out, drewN_ext HE.out _⟩
              · have hxx : (x != y) = true := by simpa using hxy
                have Hn := Lib.hid (Hno.out (by simp only [ne_eq, Rule.mk.injEq, not_and]; intro h; exact absurd h hxy))
                clear hxy
                go_wp2_with fail
                go_quiet (fail)
                go_wp2_with fail
                go_ret
                exact ⟨ret_bool' Hn.out, drewN_ext HE.out _⟩
            · have Ht : Hid (true = decide ((⟨vars, terms, start, rs⟩ : Gram) = ⟨vars, terms, start, qs⟩)) := Lib.hid (by
                symm; rw [decide_eq_true_iff, rules_eq H4.out fun j hx hy => Hp.out j hx hy (by omega)])
              go_wp2_with fail
              go_ret
              exact ⟨ret_bool' (by simpa using Ht.out), HE.out⟩
        · have h4' : ((rs.length : Int) != qs.length) = true := by rw [bne_iff_ne]; omega
          have HR' := Lib.hid (fun w' hE => HR.out w' hE (Or.inr (Or.inr (Or.inr h4))))
          subst h1 h2 h3
          clear h4
          go_enter Try.func29, Try.ntmps29
          go_wp2_with fail
          go_ret
          exact HR'.out _ (((Ext.refl [] w).alloc _).alloc _)
      · have h3' : (start != start') = true := by simpa using h3
        have HR' := Lib.hid (fun w' hE => HR.out w' hE (Or.inr (Or.inr (Or.inl h3))))
        subst h1 h2
        clear h3
        go_enter Try.func29, Try.ntmps29
        go_wp2_with fail
        go_ret
        exact HR'.out _ (((Ext.refl [] w).alloc _).alloc _)
    · have h2' : (terms != terms') = true := by simpa using h2
      have HR' := Lib.hid (fun w' hE => HR.out w' hE (Or.inr (Or.inl h2)))
      subst h1
      clear h2
      go_enter Try.func29, Try.ntmps29
      go_wp2_with fail
      go_ret
      exact HR'.out _ (((Ext.refl [] w).alloc _).alloc _)
  · have h1' : (vars != vars') = true := by simpa using h1
    have HR' := Lib.hid (fun w' hE => HR.out w' hE (Or.inl h1))
    clear h1
    go_enter Try.func29, Try.ntmps29
    go_wp2_with fail
    go_ret
    exact HR'.out _ (((Ext.refl [] w).alloc _).alloc _)

/-- More than is gone through in time. -/
def greatB (g : Gram) : Bool := decide (400 < g.rules.length) || g.rules.any (fun r => decide (100 < r.right.length))
theorem greatB_many {g : Gram} (h : 400 < g.rules.length) : true = greatB g := by simp [greatB, h]
theorem greatB_long {g : Gram} (j : Nat) (hj : j < g.rules.length) (h : 100 < (g.rules[j]).right.length) : true = greatB g := by
  symm
  unfold greatB
  rw [Bool.or_eq_true, List.any_eq_true]
  exact Or.inr ⟨_, List.getElem_mem hj, by simpa using h⟩
theorem greatB_no {g : Gram} (h1 : ¬ 400 < g.rules.length) (h2 : ∀ j (hj : j < g.rules.length), ¬ 100 < (g.rules[j]).right.length) : false = greatB g := by
  symm
  unfold greatB
  rw [Bool.or_eq_false_iff, List.any_eq_false]
  refine ⟨by simpa using h1, fun r hr => ?_⟩
  obtain ⟨j, hj, rfl⟩ := List.mem_iff_getElem.1 hr
  simpa using h2 j hj
theorem greatB_false {g : Gram} (h : greatB g = false) : g.rules.length ≤ 400 ∧ ∀ r ∈ g.rules, r.right.length ≤ 100 := by
  unfold greatB at h
  rw [Bool.or_eq_false_iff, List.any_eq_false] at h
  exact ⟨by simpa using h.1, fun r hr => by simpa using h.2 r hr⟩

set_option maxRecDepth 100000 in
theorem greatGram_any (M : List Nat) (g : Gram) (rv : Value) (w : World) (hu : Rules M w rv g.rules) (hl : g.le 100000000) :
    Calls Try.prog 24 #[.agg (GramC g rv)] w fun e w' => e = .returned (.bool (greatB g)) ∧ Ext [] w w' := by
  obtain ⟨vars, terms, start, rs⟩ := g
  obtain ⟨a, cap, rfl, hc, _⟩ := Rules.shape hu
  obtain ⟨l1, l2⟩ := hl
  simp only at l1 l2 hu hc
  have HL2 := Lib.hid l2
  have Hu := Lib.hid hu
  clear l2 hu
  by_cases hbig : 400 < rs.length
  · have Hb : Hid (true = greatB ⟨vars, terms, start, rs⟩) := Lib.hid (greatB_many hbig)
    go_enter Try.func24, Try.ntmps24
    go_wp2_with fail
    go_ret
    exact ⟨ret_bool' Hb.out, (Ext.refl [] w).alloc _⟩
  · go_enter Try.func24, Try.ntmps24
    go_wp2_with fail
    go_loopw [3] (fun iv wr => ∃ (k : Nat), iv = .int .i64 k ∧ k ≤ rs.length ∧ wr = w.alloc (.cells (GramC ⟨vars, terms, start, rs⟩ (.slice a rs.length cap)) 34) ∧ ∀ j (hx : j < rs.length), j < k → ¬ 100 < rs[j].right.length) (fun iv _ => rs.length - (intOf iv).toNat)
    case atStart => exact ⟨0, rfl, Nat.zero_le _, rfl, by omega⟩
    case round =>
      obtain ⟨k, rfl, hk, rfl, hp⟩ := hrel
      have Hp := Lib.hid hp
      clear hp
      by_cases hlt : k < rs.length
      · obtain ⟨b, off, rfl, _, hbs, hb⟩ := Rules.at Hu.out (by omega)
        obtain ⟨ra, rc, c0, c1, hr⟩ := hb k hlt
        have hrl := HL2.out rs[k] (List.getElem_mem hlt)
        have Hno : Hid (100 < rs[k].right.length → true = greatB ⟨vars, terms, start, rs⟩) := Lib.hid (fun h => greatB_long (g := ⟨vars, terms, start, rs⟩) k hlt h)
        have Hyes : Hid (¬ 100 < rs[k].right.length → ∀ j (hx : j < rs.length), j < k + 1 → ¬ 100 < rs[j].right.length) := Lib.hid (fun h j hx hj => by
          by_cases hjk : j < k
          · exact Hp.out j hx hjk
          · obtain rfl : j = k := by omega
            exact h)
        generalize rs[k].right.length = n at c1 hrl Hno Hyes
        clear hb hr
        by_cases hn : 100 < n
        · have Hn := Lib.hid (Hno.out hn)
          go_wp2_with fail
          go_ret
          exact ⟨ret_bool' Hn.out, (Ext.refl [] w).alloc _⟩
        · have Hn := Lib.hid (Hyes.out hn)
          go_wp2_with fail
          go_roundw
          case rel => exact ⟨k + 1, by go_num, by omega, by first | rfl | trivial, Hn.out⟩
          case measure => simp [intOf]; omega
      · have Ht : Hid (false = greatB ⟨vars, terms, start, rs⟩) := Lib.hid (greatB_no (g := ⟨vars, terms, start, rs⟩) hbig (fun j hj => Hp.out j hj (by simp only at hj; omega)))
        go_wp2_with fail
        go_ret
        exact ⟨ret_bool' Ht.out, (Ext.refl [] w).alloc _⟩
end Go.Proofs.Ytpaeihifcmohkaa
