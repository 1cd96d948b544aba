/-
  gram.Check is gramFault.
-/
import Derived.Test.YtpaeihifcmohkaaGram3
namespace Go.Proofs.Ytpaeihifcmohkaa
open Go.RowKit

def wrongB (vars terms x : Int) : Bool := decide (vars ≤ x ∨ x < -terms)
def anyB (p : Int → Bool) (xs : List Int) : Bool := xs.any p

theorem check1_any (w : World) (bg : Nat) (g : Gram) (rv : Value) (x : Int) (hB : Blk w bg (GramC g rv) 34) (h0 : 0 ≤ g.terms) (h1 : g.terms ≤ 16) :
    Calls Try.prog 80 #[.int .i64 x, .pointer (some ⟨bg, 0, none⟩)] w fun e w' => e = .returned (.bool (wrongB g.vars g.terms x)) ∧ w = w' := by
  obtain ⟨vars, terms, start, rs⟩ := g
  obtain ⟨g0, g1, g2, g3⟩ := GramC.cells hB
  simp only at h0 h1 g0 g1 g2 g3
  clear hB
  by_cases hx : vars ≤ x
  · go_enter Try.func80, Try.ntmps80
    go_wp2_with fail
    go_ret
    exact ⟨ret_bool' (by simp [wrongB, hx]), rfl⟩
  · go_enter Try.func80, Try.ntmps80
    go_wp2_with fail
    go_ret
    refine ⟨ret_bool' ?_, rfl⟩
    rw [Bool.eq_iff_iff]
    simp [wrongB]
    omega

theorem any_no {p : Int → Bool} {xs : List Int} (h : ∀ j (hj : j < xs.length), p xs[j] = false) : xs.any p = false := by
  rw [List.any_eq_false]
  intro x hx
  obtain ⟨j, hj, rfl⟩ := List.mem_iff_getElem.1 hx
  simp [h j hj]
theorem any_yes {p : Int → Bool} {xs : List Int} (j : Nat) (hj : j < xs.length) (h : p xs[j] = true) : xs.any p = true := by
  rw [List.any_eq_true]
  exact ⟨_, List.getElem_mem hj, h⟩

set_option maxRecDepth 100000 in
theorem indexFunc_check (M : List Nat) (w : World) (bg : Nat) (g : Gram) (rv v : Value) (xs : List Int) (hB : Blk w bg (GramC g rv) 34) (h0 : 0 ≤ g.terms) (h1 : g.terms ≤ 16) (hv : Nums M w v xs) (hl : xs.length ≤ 100000000) :
    Calls Try.prog 124 #[v, .func (.func 80) #[] #[.pointer (some ⟨bg, 0, none⟩)]] w fun e w' => (∃ n : Int, e = .returned (.int .i64 n) ∧ decide (0 ≤ n) = xs.any (wrongB g.vars g.terms)) ∧ w = w' := by
  obtain ⟨a, cap, rfl, hc, hcm⟩ := Nums.shape hv
  have HB := Lib.hid hB
  have Hv := Lib.hid hv
  clear hB hv hcm
  go_enter Try.func124, Try.ntmps124
  go_wp2_with fail
  go_loop [5, 8] (fun _ iv => ∃ k : Nat, iv = .int .i64 k ∧ k ≤ xs.length ∧ ∀ j (hj : j < xs.length), j < k → wrongB g.vars g.terms xs[j] = false) (fun _ iv => xs.length - (intOf iv).toNat)
  case atStart => exact ⟨0, rfl, Nat.zero_le _, by omega⟩
  case round =>
    obtain ⟨k, rfl, hk, hp⟩ := hrel
    have Hp := Lib.hid hp
    clear hp
    by_cases hlt : k < xs.length
    · obtain ⟨b, off, rfl, _, _, hb⟩ := Nums.at Hv.out (by omega)
      have hck := hb k hlt
      have Hyes := Lib.hid (fun h => (any_yes (p := wrongB g.vars g.terms) k hlt h).symm)
      have Hon : Hid (wrongB g.vars g.terms xs[k] = false → ∀ j (hj : j < xs.length), j < k + 1 → wrongB g.vars g.terms xs[j] = false) := Lib.hid (fun h j hj hjk => by
        by_cases hjk' : j < k
        · exact Hp.out j hj hjk'
        · obtain rfl : j = k := by omega
          exact h)
      generalize xs[k] = x at hck Hyes Hon
      clear hb
      cases hx : wrongB g.vars g.terms x with
      | true =>
        have Hy := Lib.hid (Hyes.out hx)
        go_wp2_with (go_at_call 80; refine (check1_any _ bg g rv _ HB.out h0 h1).mono ?_; rintro e w' ⟨rfl, rfl⟩)
        go_ret
        exact ⟨⟨_, rfl, by rw [← Hy.out]; simp⟩, rfl⟩
      | false =>
        have Ho := Lib.hid (Hon.out hx)
        go_wp2_with (go_at_call 80; refine (check1_any _ bg g rv _ HB.out h0 h1).mono ?_; rintro e w' ⟨rfl, rfl⟩)
        go_round
        case rel => exact ⟨k + 1, by go_num, by omega, Ho.out⟩
        case measure => simp [intOf]; omega
    · have Hn := Lib.hid (any_no (p := wrongB g.vars g.terms) (xs := xs) (fun j hj => Hp.out j hj (by omega)))
      go_wp2_with fail
      go_ret
      exact ⟨⟨_, rfl, by rw [Hn.out]; decide⟩, rfl⟩

theorem containsFunc_check (M : List Nat) (w : World) (bg : Nat) (g : Gram) (rv v : Value) (xs : List Int) (hB : Blk w bg (GramC g rv) 34) (h0 : 0 ≤ g.terms) (h1 : g.terms ≤ 16) (hv : Nums M w v xs) (hl : xs.length ≤ 100000000) :
    Calls Try.prog 81 #[v, .func (.func 80) #[] #[.pointer (some ⟨bg, 0, none⟩)]] w fun e w' => e = .returned (.bool (xs.any (wrongB g.vars g.terms))) ∧ w = w' := by
  go_enter Try.func81, Try.ntmps81
  go_wp2_with fail
  refine (indexFunc_check M w bg g rv v xs hB h0 h1 hv hl).mono ?_
  rintro e w' ⟨⟨n, rfl, hn⟩, rfl⟩
  have Hn := Lib.hid hn
  clear hn hB hv
  go_wp2_with fail
  go_ret
  exact ⟨ret_bool' (by rw [← Hn.out]), rfl⟩

theorem ruleFault_any {vars terms : Int} {r : Rule} (h : ¬ 10 < r.right.length) (h2 : 0 ≤ r.left) (h3 : r.left < vars) (h4 : r.right.any (wrongB vars terms) = true) : ruleFault vars terms r = 9 := by
  obtain ⟨x, hx, hw⟩ := List.any_eq_true.1 h4
  unfold ruleFault
  rw [if_neg h, if_neg (by omega), if_pos ⟨x, hx, by simp [wrongB] at hw; omega⟩]
theorem ruleFault_none {vars terms : Int} {r : Rule} (h : ¬ 10 < r.right.length) (h2 : 0 ≤ r.left) (h3 : r.left < vars) (h4 : r.right.any (wrongB vars terms) = false) : ruleFault vars terms r = 0 := by
  refine ruleFault_ok h h2 h3 fun j hj hb => ?_
  rw [any_yes j hj (by simp [wrongB]; omega)] at h4
  cases h4

set_option maxRecDepth 100000 in
set_option maxHeartbeats 1000000 in
theorem check_nums (g : Gram) (rv : Value) (w : World) (hn : ¬ numsOk g) : Calls Try.prog 26 #[.agg (GramC g rv)] w (FaultPost w (gramFault g)) := by
  have Hg : Hid (gramFault g = (9, -1)) := Lib.hid (by unfold gramFault; rw [if_pos hn])
  obtain ⟨vars, terms, start, rs⟩ := g
  have h6 : vars < 1 ∨ (1 ≤ vars ∧ 64 < vars) ∨ (1 ≤ vars ∧ vars ≤ 64 ∧ terms < 0) ∨ (1 ≤ vars ∧ vars ≤ 64 ∧ 0 ≤ terms ∧ 16 < terms) ∨ (1 ≤ vars ∧ vars ≤ 64 ∧ 0 ≤ terms ∧ terms ≤ 16 ∧ start < 0) ∨ (1 ≤ vars ∧ vars ≤ 64 ∧ 0 ≤ terms ∧ terms ≤ 16 ∧ 0 ≤ start ∧ vars ≤ start) := by
    simp only [numsOk] at hn
    omega
  clear hn
  rcases h6 with h | ⟨h1, h⟩ | ⟨h1, h2, h⟩ | ⟨h1, h2, h3, h⟩ | ⟨h1, h2, h3, h4, h⟩ | ⟨h1, h2, h3, h4, h5, h⟩
  all_goals
    go_enter Try.func26, Try.ntmps26
    go_wp2_with fail
    refine bodyPost_ret (v := .agg #[.int .i64 9, .int .i64 (-1)]) (by simp [results, Try.results26, go_sem]) rfl ⟨by rw [Hg.out], ?_⟩
    exact ((Ext.refl [] w).alloc _).alloc _

set_option maxRecDepth 100000 in
set_option maxHeartbeats 4000000 in
theorem check_main (M : List Nat) (g : Gram) (rv : Value) (w : World) (hn : numsOk g) (hv : Rules M w rv g.rules) (hl : g.le 100000000) : Calls Try.prog 26 #[.agg (GramC g rv)] w (FaultPost w (gramFault g)) := by
  obtain ⟨vars, terms, start, rs⟩ := g
  obtain ⟨a, cap, rfl, hc, hcm⟩ := Rules.shape hv
  obtain ⟨hl1, hl2⟩ := hl
  simp only at hl1 hl2 hv hc
  obtain ⟨n1, n2, n3, n4, n5, n6⟩ := hn
  simp only at n1 n2 n3 n4 n5 n6
  by_cases hbig : 160 < rs.length
  · have Hg : Hid (gramFault ⟨vars, terms, start, rs⟩ = (6, -1)) := Lib.hid (by unfold gramFault; rw [if_neg (by simp [numsOk]; omega), if_pos hbig])
    clear hv hl2
    go_enter Try.func26, Try.ntmps26
    go_wp2_with fail
    refine bodyPost_ret (v := .agg #[.int .i64 6, .int .i64 (-1)]) (by simp [results, Try.results26, go_sem]) rfl ⟨by rw [Hg.out], ?_⟩
    exact ((Ext.refl [] w).alloc _).alloc _
  · have Hg : Hid (gramFault ⟨vars, terms, start, rs⟩ = rulesFault vars terms 0 rs) := Lib.hid (by unfold gramFault; rw [if_neg (by simp [numsOk]; omega), if_neg hbig])
    have Hl2 := Lib.hid hl2
    clear hl2
    go_enter Try.func26, Try.ntmps26
    go_wp2_with fail
    go_loopw [3, 45] (fun _ i wr => ∃ k : Nat, k ≤ rs.length ∧ i = .int .i64 k ∧ Ext [] w wr ∧ Blk wr w.heap.size (GramC ⟨vars, terms, start, rs⟩ (.slice a rs.length cap)) 34 ∧ FltB wr (w.heap.size + 1) 0 0 ∧ (∀ j (hj : j < rs.length), j < k → ruleFault vars terms rs[j] = 0)) (fun _ i _ => rs.length - (intOf i).toNat)
    case atStart => exact ⟨0, Nat.zero_le _, rfl, ((Ext.refl [] w).alloc _).alloc _, Blk.alloc (Blk.new _ _ _) _, newBlk _ _ _ _ (by simp), by omega⟩
    case round =>
      obtain ⟨k, hk, rfl, hE, hB, hF, hp⟩ := hrel
      obtain ⟨g0, g1, g2, g3⟩ := GramC.cells hB
      obtain ⟨f0, f1, ff⟩ := hF.cells
      have hblt := hB.lt
      have hflt := hF.lt
      have HE := Lib.hid hE
      have HB := Lib.hid hB
      have HF := Lib.hid hF
      have Hp := Lib.hid hp
      clear hB hF hp
      -- a fault of rule k
      have Hbad : Hid (∀ (hk : k < rs.length) (w' : World) (c : Int), ruleFault vars terms rs[k] = c → c ≠ 0 → Ext [] w w' → FaultPost w (gramFault ⟨vars, terms, start, rs⟩) (.returned (.agg #[.int .i64 c, .int .i64 k])) w') := Lib.hid (by
        intro hk w' c hr hc hE'
        refine ⟨?_, hE'⟩
        rw [Hg.out, rulesFault_at vars terms rs k hk Hp.out (by rw [hr]; exact hc), hr])
      by_cases hlt : k < rs.length
      · obtain ⟨b, off, rfl, hbM, hbs, hcell⟩ := Rules.at hv (by omega)
        obtain ⟨ra, rc, hc0, hc1, hrr⟩ := hcell k hlt
        have hck := (hE.cell (p := ⟨b, off + k * 2, none⟩) hbs (by simp)).trans hc0
        have hck1 := (hE.cell (p := ⟨b, off + k * 2 + 1, none⟩) hbs (by simp)).trans hc1
        have Hrr := Lib.hid (hrr.ext0 hE)
        have hrl : (rs[k]).right.length ≤ 100000000 := Hl2.out rs[k] (List.getElem_mem hlt)
        have Hbad' := Lib.hid (Hbad.out hlt)
        have Hnext : Hid (ruleFault vars terms rs[k] = 0 → ∀ j (hj : j < rs.length), j < k + 1 → ruleFault vars terms rs[j] = 0) := Lib.hid (fun h j hj hjk => by
          by_cases hjk' : j < k
          · exact Hp.out j hj hjk'
          · obtain rfl : j = k := by omega
            exact h)
        generalize rs[k] = r at hck hck1 Hrr hrl Hbad' Hnext
        have hbs' : b < wr.heap.size := Nat.lt_of_lt_of_le hbs hE.size
        clear hcell hE hv hbM hcm hc0 hc1 hrr Hbad
        by_cases h10 : 10 < r.right.length
        · have Hf := Lib.hid (Hbad'.out · 6 (ruleFault_many h10) (by decide))
          go_wp2_with fail
          refine bodyPost_ret (v := .agg #[.int .i64 6, .int .i64 k]) (by simp [results, Try.results26, go_sem, f0, f1, ff, hflt, hblt]) rfl (Hf.out _ ?_)
          exact ((HE.out.setCell (Or.inl (by simp)) _).setCell (Or.inl (by simp)) _).alloc _
        · by_cases hleft : r.left < 0 ∨ vars ≤ r.left
          · have Hf := Lib.hid (Hbad'.out · 9 (ruleFault_left h10 hleft) (by decide))
            rcases hleft with hleft | hleft
            all_goals
              by_cases hneg : r.left < 0
            all_goals
              first
              | omega
              | (go_wp2_with fail
                 refine bodyPost_ret (v := .agg #[.int .i64 9, .int .i64 k]) (by simp [results, Try.results26, go_sem, f0, f1, ff, hflt, hblt]) rfl (Hf.out _ ?_)
                 exact ((HE.out.setCell (Or.inl (by simp)) _).setCell (Or.inl (by simp)) _).alloc _)
          · have hl0 : 0 ≤ r.left := by omega
            have hl1 : r.left < vars := by omega
            clear hleft
            cases hany : r.right.any (wrongB vars terms) with
            | true =>
              have Hf := Lib.hid (Hbad'.out · 9 (ruleFault_any h10 hl0 hl1 hany) (by decide))
              go_wp2_with (go_at_call 81; refine (containsFunc_check [] _ w.heap.size ⟨vars, terms, start, rs⟩ (.slice (some ⟨b, off, none⟩) rs.length cap) (.slice ra r.right.length rc) r.right (by exact HB.out.alloc _) n3 n4 (Sl.ext0 (Sl.bar Hrr.out (by simp)) (Ext.new _ _)) hrl).mono ?_; rintro e w' ⟨rfl, rfl⟩)
              refine bodyPost_ret (v := .agg #[.int .i64 9, .int .i64 k]) (by simp [results, Try.results26, go_sem, f0, f1, ff, hflt, hblt]) rfl (Hf.out _ ?_)
              exact ((HE.out.setCell (Or.inl (by simp)) _).setCell (Or.inl (by simp)) _).alloc _
            | false =>
              have Hok := Lib.hid (Hnext.out (ruleFault_none h10 hl0 hl1 hany))
              go_wp2_with (go_at_call 81; refine (containsFunc_check [] _ w.heap.size ⟨vars, terms, start, rs⟩ (.slice (some ⟨b, off, none⟩) rs.length cap) (.slice ra r.right.length rc) r.right (by exact HB.out.alloc _) n3 n4 (Sl.ext0 (Sl.bar Hrr.out (by simp)) (Ext.new _ _)) hrl).mono ?_; rintro e w' ⟨rfl, rfl⟩)
              go_roundw
              case rel => exact ⟨k + 1, by omega, by go_num, HE.out.alloc _, HB.out.alloc _, HF.out.alloc _, Hok.out⟩
              case measure => simp [intOf]; omega
      · have Hfin := Lib.hid (rulesFault_none vars terms rs (fun j hj => Hp.out j hj (by omega)))
        go_wp2_with fail
        refine bodyPost_ret (v := .agg #[.int .i64 0, .int .i64 0]) (by simp [results, Try.results26, go_sem, f0, f1, ff]) rfl ⟨by rw [Hg.out, Hfin.out], ?_⟩
        exact (HE.out.setCell (Or.inl (by simp)) _).setCell (Or.inl (by simp)) _

theorem check_any (M : List Nat) (g : Gram) (rv : Value) (w : World) (hv : Rules M w rv g.rules) (hl : g.le 100000000) : Calls Try.prog 26 #[.agg (GramC g rv)] w (FaultPost w (gramFault g)) := by
  by_cases hn : numsOk g
  · exact check_main M g rv w hn hv hl
  · exact check_nums g rv w hn
end Go.Proofs.Ytpaeihifcmohkaa
