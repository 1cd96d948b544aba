/-
  GramFault, gram.Check, GreatGram.
-/
import Derived.Test.YtpaeihifcmohkaaGram2
import Derived.Test.YtpaeihifcmohkaaFlt
namespace Go.Proofs.Ytpaeihifcmohkaa
open Go.RowKit

def ruleFault (vars terms : Int) (r : Rule) : Int :=
  if 10 < r.right.length then 6
  else if ¬ (0 ≤ r.left ∧ r.left < vars) then 9
  else if ∃ s ∈ r.right, s < -terms ∨ vars ≤ s then 9
  else 0
def rulesFault (vars terms : Int) : Nat → List Rule → Int × Int
  | _, [] => (0, 0)
  | i, r :: rs => if ruleFault vars terms r ≠ 0 then (ruleFault vars terms r, (i : Int)) else rulesFault vars terms (i + 1) rs
def numsOk (g : Gram) : Prop := 1 ≤ g.vars ∧ g.vars ≤ 64 ∧ 0 ≤ g.terms ∧ g.terms ≤ 16 ∧ 0 ≤ g.start ∧ g.start < g.vars
instance (g : Gram) : Decidable (numsOk g) := by unfold numsOk; infer_instance
def gramFault (g : Gram) : Int × Int :=
  if ¬ numsOk g then (9, -1) else if 160 < g.rules.length then (6, -1) else rulesFault g.vars g.terms 0 g.rules

theorem rulesFault_skip (vars terms : Int) (rs : List Rule) (k : Nat) (hk : k ≤ rs.length) (h : ∀ j (hj : j < rs.length), j < k → ruleFault vars terms rs[j] = 0) : rulesFault vars terms 0 rs = rulesFault vars terms k (rs.drop k) := by
  induction k with
  | zero => rfl
  | succ k ih =>
    rw [ih (by omega) (fun j hj hjk => h j hj (by omega)), List.drop_eq_getElem_cons (by omega), rulesFault, if_neg (by simp [h k (by omega) (by omega)])]
theorem rulesFault_at (vars terms : Int) (rs : List Rule) (k : Nat) (hk : k < rs.length) (h : ∀ j (hj : j < rs.length), j < k → ruleFault vars terms rs[j] = 0) (hr : ruleFault vars terms rs[k] ≠ 0) : rulesFault vars terms 0 rs = (ruleFault vars terms rs[k], (k : Int)) := by
  rw [rulesFault_skip vars terms rs k (by omega) h, List.drop_eq_getElem_cons hk, rulesFault, if_pos hr]
theorem rulesFault_none (vars terms : Int) (rs : List Rule) (h : ∀ j (hj : j < rs.length), ruleFault vars terms rs[j] = 0) : rulesFault vars terms 0 rs = (0, 0) := by
  rw [rulesFault_skip vars terms rs rs.length (Nat.le_refl _) (fun j hj _ => h j hj), List.drop_length, rulesFault]

/-- The six tests of the numbers, as the code makes them, one behind the other. -/
def numsBad (g : Gram) : Bool := !decide (numsOk g)

def FaultPost (w : World) (f : Int × Int) (e : Ending) (w' : World) : Prop := e = .returned (.agg #[.int .i64 f.1, .int .i64 f.2]) ∧ Ext [] w w'

set_option maxRecDepth 100000 in
set_option maxHeartbeats 1000000 in
theorem gramFault_nums (g : Gram) (rv : Value) (w : World) (hn : ¬ numsOk g) : Calls Try.prog 27 #[.agg (GramC g rv)] w (FaultPost w (gramFault g)) := by
  have Hg : Hid (gramFault g = (9, -1)) := Lib.hid (by unfold gramFault; rw [if_pos hn])
  obtain ⟨vars, terms, start, rs⟩ := g
  have h6 : vars < 1 ∨ (1 ≤ vars ∧ 64 < vars) ∨ (1 ≤ vars ∧ vars ≤ 64 ∧ terms < 0) ∨ (1 ≤ vars ∧ vars ≤ 64 ∧ 0 ≤ terms ∧ 16 < terms) ∨ (1 ≤ vars ∧ vars ≤ 64 ∧ 0 ≤ terms ∧ terms ≤ 16 ∧ start < 0) ∨ (1 ≤ vars ∧ vars ≤ 64 ∧ 0 ≤ terms ∧ terms ≤ 16 ∧ 0 ≤ start ∧ vars ≤ start) := by
    simp only [numsOk] at hn
    omega
  clear hn
  rcases h6 with h | ⟨h1, h⟩ | ⟨h1, h2, h⟩ | ⟨h1, h2, h3, h⟩ | ⟨h1, h2, h3, h4, h⟩ | ⟨h1, h2, h3, h4, h5, h⟩
  all_goals
    go_enter Try.func27, Try.ntmps27
    go_wp2_with (go_at_call 73; refine (f_any _ _ _).mono ?_; rintro e w1 ⟨rfl, hE1⟩; obtain ⟨p0, p1, pf⟩ := FltB.cells (w := w1) (b := w.heap.size + 1) (c := 0) (a := 0) (Blk.ext (newBlk _ _ _ _ (by simp)) hE1 (by simp)))
    refine bodyPost_ret (v := .agg #[.int .i64 9, .int .i64 (-1)]) (by simp [results, Try.results27, go_sem, p0, p1]) rfl ⟨by rw [Hg.out], ?_⟩
    exact (((((Ext.refl [] w).alloc _).alloc _).trans hE1 (by simp)).setCell (Or.inl (by simp)) _).setCell (Or.inl (by simp)) _

theorem ruleFault_many {vars terms : Int} {r : Rule} (h : 10 < r.right.length) : ruleFault vars terms r = 6 := by unfold ruleFault; rw [if_pos h]
theorem ruleFault_left {vars terms : Int} {r : Rule} (h : ¬ 10 < r.right.length) (h2 : r.left < 0 ∨ vars ≤ r.left) : ruleFault vars terms r = 9 := by unfold ruleFault; rw [if_neg h, if_pos (by omega)]
theorem ruleFault_sym {vars terms : Int} {r : Rule} (h : ¬ 10 < r.right.length) (h2 : 0 ≤ r.left) (h3 : r.left < vars) (j : Nat) (hj : j < r.right.length) (h4 : r.right[j] < -terms ∨ vars ≤ r.right[j]) : ruleFault vars terms r = 9 := by
  unfold ruleFault; rw [if_neg h, if_neg (by omega), if_pos ⟨r.right[j], List.getElem_mem hj, h4⟩]
theorem ruleFault_ok {vars terms : Int} {r : Rule} (h : ¬ 10 < r.right.length) (h2 : 0 ≤ r.left) (h3 : r.left < vars) (h4 : ∀ j (hj : j < r.right.length), ¬ (r.right[j] < -terms ∨ vars ≤ r.right[j])) : ruleFault vars terms r = 0 := by
  unfold ruleFault; rw [if_neg h, if_neg (by omega), if_neg]
  rintro ⟨s, hs, hb⟩
  obtain ⟨j, hj, rfl⟩ := List.mem_iff_getElem.1 hs
  exact h4 j hj hb

set_option maxRecDepth 100000 in
set_option maxHeartbeats 4000000 in
theorem gramFault_main (M : List Nat) (g : Gram) (rv : Value) (w : World) (hn : numsOk g) (hv : Rules M w rv g.rules) (hl : g.le 100000000) : Calls Try.prog 27 #[.agg (GramC g rv)] w (FaultPost w (gramFault g)) := by
  obtain ⟨vars, terms, start, rs⟩ := g
  obtain ⟨a, cap, rfl, hc, hcm⟩ := Rules.shape hv
  obtain ⟨hl1, hl2⟩ := hl
  simp only at hl1 hl2 hv hc
  obtain ⟨n1, n2, n3, n4, n5, n6⟩ := hn
  simp only at n1 n2 n3 n4 n5 n6
  by_cases hbig : 160 < rs.length
  · have Hg : Hid (gramFault ⟨vars, terms, start, rs⟩ = (6, -1)) := Lib.hid (by unfold gramFault; rw [if_neg (by simp [numsOk]; omega), if_pos hbig])
    clear hv hl2
    go_enter Try.func27, Try.ntmps27
    go_wp2_with (go_at_call 73; refine (f_any _ _ _).mono ?_; rintro e w1 ⟨rfl, hE1⟩; obtain ⟨p0, p1, pf⟩ := FltB.cells (w := w1) (b := w.heap.size + 1) (c := 0) (a := 0) (Blk.ext (newBlk _ _ _ _ (by simp)) hE1 (by simp)))
    refine bodyPost_ret (v := .agg #[.int .i64 6, .int .i64 (-1)]) (by simp [results, Try.results27, go_sem, p0, p1]) rfl ⟨by rw [Hg.out], ?_⟩
    exact (((((Ext.refl [] w).alloc _).alloc _).trans hE1 (by simp)).setCell (Or.inl (by simp)) _).setCell (Or.inl (by simp)) _
  · have Hg : Hid (gramFault ⟨vars, terms, start, rs⟩ = rulesFault vars terms 0 rs) := Lib.hid (by unfold gramFault; rw [if_neg (by simp [numsOk]; omega), if_neg hbig])
    have Hl2 := Lib.hid hl2
    clear hl2
    go_enter Try.func27, Try.ntmps27
    go_wp2_with fail
    go_loopw [3] (fun i wr => ∃ k : Nat, k ≤ rs.length ∧ i = .int .i64 k ∧ Ext [] w wr ∧ Blk wr w.heap.size (GramC ⟨vars, terms, start, rs⟩ (.slice a rs.length cap)) 34 ∧ FltB wr (w.heap.size + 1) 0 0 ∧ (∀ j (hj : j < rs.length), j < k → ruleFault vars terms rs[j] = 0)) (fun i _ => rs.length - (intOf i).toNat)
    case atStart => exact ⟨0, Nat.zero_le _, rfl, ((Ext.refl [] w).alloc _).alloc _, Blk.alloc (Blk.new _ _ _) _, newBlk _ _ _ _ (by simp), by omega⟩
    case round =>
      obtain ⟨k, hk, rfl, hE, hB, hF, hp⟩ := hrel
      obtain ⟨g0, g1, g2, g3⟩ := GramC.cells hB
      obtain ⟨f0, f1, ff⟩ := hF.cells
      have hblt := hB.lt
      have hflt := hF.lt
      have HE := Lib.hid hE
      have HB := Lib.hid hB
      have HF := Lib.hid hF
      have Hp := Lib.hid hp
      clear hB hF hp
      -- a fault of rule k
      have Hbad : Hid (∀ (hk : k < rs.length) (w' : World) (c : Int), ruleFault vars terms rs[k] = c → c ≠ 0 → Ext [] w w' → FaultPost w (gramFault ⟨vars, terms, start, rs⟩) (.returned (.agg #[.int .i64 c, .int .i64 k])) ((w'.setCell ⟨w.heap.size + 1, 0, none⟩ (.int .i64 c)).setCell ⟨w.heap.size + 1, 1, none⟩ (.int .i64 k))) := Lib.hid (by
        intro hk w' c hr hc hE'
        refine ⟨?_, (hE'.setCell (Or.inl (by simp)) _).setCell (Or.inl (by simp)) _⟩
        rw [Hg.out, rulesFault_at vars terms rs k hk Hp.out (by rw [hr]; exact hc), hr])
      by_cases hlt : k < rs.length
      · obtain ⟨b, off, rfl, hbM, hbs, hcell⟩ := Rules.at hv (by omega)
        obtain ⟨ra, rc, hc0, hc1, hrr⟩ := hcell k hlt
        have hck := (hE.cell (p := ⟨b, off + k * 2, none⟩) hbs (by simp)).trans hc0
        have hck1 := (hE.cell (p := ⟨b, off + k * 2 + 1, none⟩) hbs (by simp)).trans hc1
        have Hrr := Lib.hid (hrr.ext0 hE)
        have hrl : (rs[k]).right.length ≤ 100000000 := Hl2.out rs[k] (List.getElem_mem hlt)
        have Hbad' := Lib.hid (Hbad.out hlt)
        have Hnext : Hid (ruleFault vars terms rs[k] = 0 → ∀ j (hj : j < rs.length), j < k + 1 → ruleFault vars terms rs[j] = 0) := Lib.hid (fun h j hj hjk => by
          by_cases hjk' : j < k
          · exact Hp.out j hj hjk'
          · obtain rfl : j = k := by omega
            exact h)
        generalize rs[k] = r at hck hck1 Hrr hrl Hbad' Hnext
        have hbs' : b < wr.heap.size := Nat.lt_of_lt_of_le hbs hE.size
        clear hcell hE hv hbM hcm hc0 hc1 hrr Hbad
        by_cases h10 : 10 < r.right.length
        · have Hf := Lib.hid (Hbad'.out · 6 (ruleFault_many h10) (by decide))
          go_wp2_with (go_at_call 73; refine (f_any _ _ _).mono ?_; rintro e w1 ⟨rfl, hE1⟩; obtain ⟨p0, p1, pf⟩ := FltB.cells (Blk.ext (HF.out.alloc _) hE1 (by simp)))
          refine bodyPost_ret (v := .agg #[.int .i64 6, .int .i64 k]) (by simp [results, Try.results27, go_sem, p0, p1]) rfl (Hf.out _ ?_)
          exact (HE.out.alloc _).trans hE1 (by simp)
        · by_cases hleft : r.left < 0 ∨ vars ≤ r.left
          · have Hf := Lib.hid (Hbad'.out · 9 (ruleFault_left h10 hleft) (by decide))
            rcases hleft with hleft | hleft
            all_goals
              by_cases hneg : r.left < 0
            all_goals
              first
              | omega
              | (go_wp2_with (go_at_call 73; refine (f_any _ _ _).mono ?_; rintro e w1 ⟨rfl, hE1⟩; obtain ⟨p0, p1, pf⟩ := FltB.cells (Blk.ext (HF.out.alloc _) hE1 (by simp)))
                 refine bodyPost_ret (v := .agg #[.int .i64 9, .int .i64 k]) (by simp [results, Try.results27, go_sem, p0, p1]) rfl (Hf.out _ ?_)
                 exact (HE.out.alloc _).trans hE1 (by simp))
          · have hl0 : 0 ≤ r.left := by omega
            have hl1 : r.left < vars := by omega
            clear hleft
            go_wp2_with fail
            go_loopw [5] (fun jv w2 => ∃ (j n : Nat), jv = .int .i64 j ∧ j ≤ r.right.length ∧ w2 = (wr.alloc (.cells #[.int .i64 r.left, .slice ra r.right.length rc] 44)).drewN n ∧ ∀ i (hi : i < r.right.length), i < j → ¬ (r.right[i] < -terms ∨ vars ≤ r.right[i])) (fun jv _ => r.right.length - (intOf jv).toNat)
            case atStart => exact ⟨0, 0, rfl, Nat.zero_le _, rfl, by omega⟩
            case round =>
              obtain ⟨j, n, rfl, hj, rfl, hq⟩ := hrel
              have Hq := Lib.hid hq
              clear hq
              by_cases hjl : j < r.right.length
              · obtain ⟨rb, roff, rfl, _, hrb, hrc⟩ := Nums.at Hrr.out (by omega)
                have hcj := hrc j hjl
                have Hsym := Lib.hid (fun h => ruleFault_sym (vars := vars) (terms := terms) h10 hl0 hl1 j hjl h)
                have Hon : Hid (¬ (r.right[j] < -terms ∨ vars ≤ r.right[j]) → ∀ i (hi : i < r.right.length), i < j + 1 → ¬ (r.right[i] < -terms ∨ vars ≤ r.right[i])) := Lib.hid (fun h i hi hij => by
                  by_cases hij' : i < j
                  · exact Hq.out i hi hij'
                  · obtain rfl : i = j := by omega
                    exact h)
                generalize r.right[j] = x at hcj Hsym Hon
                have e1 : IntKind.i64.wrap (-terms) = -terms := IntWalk.i64_in _ (by omega)
                have e2 : (0 : Int) ≤ (j : Int) := by omega
                have e3 : (j : Int) < (r.right.length : Int) := by omega
                clear hrc
                by_cases hx1 : x < -terms
                · have hd1 : decide (x < -terms) = true := decide_eq_true hx1
                  have Hf := Lib.hid (Hbad'.out · 9 (Hsym.out (Or.inl hx1)) (by decide))
                  go_wp2_with fail
                  go_quiet (fail)
                  go_wp2_with (go_at_call 73; refine (f_any _ _ _).mono ?_; rintro e w1 ⟨rfl, hE1⟩; obtain ⟨p0, p1, pf⟩ := FltB.cells (Blk.ext (HF.out.alloc _) (Ext.trans0 (drewN_ext (Ext.refl [] _) _) hE1) (by simp)))
                  refine bodyPost_ret (v := .agg #[.int .i64 9, .int .i64 k]) (by simp [results, Try.results27, go_sem, p0, p1]) rfl (Hf.out _ ?_)
                  exact (drewN_ext (HE.out.alloc _) _).trans hE1 (by simp)
                · have hd1 : decide (x < -terms) = false := decide_eq_false hx1
                  by_cases hx2 : vars ≤ x
                  · have hd2 : decide (vars ≤ x) = true := decide_eq_true hx2
                    have Hf := Lib.hid (Hbad'.out · 9 (Hsym.out (Or.inr hx2)) (by decide))
                    go_wp2_with fail
                    go_quiet (fail)
                    go_wp2_with (go_at_call 73; refine (f_any _ _ _).mono ?_; rintro e w1 ⟨rfl, hE1⟩; obtain ⟨p0, p1, pf⟩ := FltB.cells (Blk.ext (HF.out.alloc _) (Ext.trans0 (drewN_ext (Ext.refl [] _) _) hE1) (by simp)))
                    refine bodyPost_ret (v := .agg #[.int .i64 9, .int .i64 k]) (by simp [results, Try.results27, go_sem, p0, p1]) rfl (Hf.out _ ?_)
                    exact (drewN_ext (HE.out.alloc _) _).trans hE1 (by simp)
                  · have hd2 : decide (vars ≤ x) = false := decide_eq_false hx2
                    have Ho := Lib.hid (Hon.out (by omega))
                    clear hx1 hx2
                    go_wp2_with fail
                    go_quiet (fail)
                    go_wp2_with fail
                    go_roundw
                    case rel => exact ⟨j + 1, _, by go_num, by omega, by first | rfl | rw [World.drewN_drewN], Ho.out⟩
                    case measure => simp [intOf]; omega
              · have Hok := Lib.hid (Hnext.out (ruleFault_ok h10 hl0 hl1 (fun i hi => Hq.out i hi (by omega))))
                go_wp2_with fail
                go_roundw
                case rel => exact ⟨k + 1, by omega, by go_num, drewN_ext (HE.out.alloc _) _, Blk.ext (HB.out.alloc _) (drewN_ext (Ext.refl [] _) _) (by simp), Blk.ext (HF.out.alloc _) (drewN_ext (Ext.refl [] _) _) (by simp), Hok.out⟩
                case measure => simp [intOf]; omega
      · have Hfin := Lib.hid (rulesFault_none vars terms rs (fun j hj => Hp.out j hj (by omega)))
        go_wp2_with fail
        refine bodyPost_ret (v := .agg #[.int .i64 0, .int .i64 0]) (by simp [results, Try.results27, go_sem, f0, f1]) rfl ⟨by rw [Hg.out, Hfin.out], ?_⟩
        exact (HE.out.setCell (Or.inl (by simp)) _).setCell (Or.inl (by simp)) _

theorem gramFault_any (M : List Nat) (g : Gram) (rv : Value) (w : World) (hv : Rules M w rv g.rules) (hl : g.le 100000000) : Calls Try.prog 27 #[.agg (GramC g rv)] w (FaultPost w (gramFault g)) := by
  by_cases hn : numsOk g
  · exact gramFault_main M g rv w hn hv hl
  · exact gramFault_nums g rv w hn
end Go.Proofs.Ytpaeihifcmohkaa
