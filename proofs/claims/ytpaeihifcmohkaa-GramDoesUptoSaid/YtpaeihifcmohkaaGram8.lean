/-
  gram.Own.
-/
import Derived.Test.YtpaeihifcmohkaaGram7
namespace Go.Proofs.Ytpaeihifcmohkaa
open Go.RowKit

set_option maxRecDepth 100000 in
set_option maxHeartbeats 1000000 in
theorem own_any (M : List Nat) (g : Gram) (rv : Value) (w : World) (hu : Rules M w rv g.rules) (hl : g.le 100000000) (hM : ∀ k ∈ M, k < w.heap.size) :
    Calls Try.prog 30 #[.agg (GramC g rv)] w fun e w' => ∃ rv', e = .returned (.agg (GramC g rv')) ∧ OwnR w.heap.size M w' rv' g.rules ∧ Ext [] w w' := by
  obtain ⟨vars, terms, start, rs⟩ := g
  obtain ⟨a, cap, rfl, hc, _⟩ := Rules.shape hu
  obtain ⟨l1, l2⟩ := hl
  simp only at l1 l2 hu hc
  have HL2 := Lib.hid l2
  have Hu := Lib.hid hu
  have HM := Lib.hid hM
  clear l2 hu hM
  go_enter Try.func30, Try.ntmps30
  go_wp2_with fail
  go_loopw [11] (fun iv wr => ∃ (k : Nat) (ua : Option Addr) (un uc : Nat), iv = .int .i64 k ∧ k ≤ rs.length ∧ Ext [] w wr ∧
      Blk wr (w.heap.size + 1) #[.int .i64 0, .int .i64 0, .int .i64 0, .slice none 0 0] 34 ∧ Blk wr (w.heap.size + 2) (GramC ⟨vars, terms, start, rs⟩ (.slice ua un uc)) 34 ∧
      OwnR (w.heap.size + 3) ([w.heap.size + 1, w.heap.size + 2] ++ M) wr (.slice ua un uc) (rs.take k) ∧ w.heap.size + 3 ≤ wr.heap.size) (fun iv _ => rs.length - (intOf iv).toNat)
  case atStart =>
    refine ⟨0, none, 0, 0, rfl, Nat.zero_le _, ?_, ?_, ?_, Own.nil _ _ _ _ _ _, by simp⟩
    · exact (((Ext.refl [] w).alloc _).alloc _).alloc _
    · exact Blk.alloc (newBlk _ _ _ _ (by simp)) _
    · exact newBlk _ _ _ _ (by simp)
  case round =>
    obtain ⟨k, ua, un, uc, rfl, hk, hE, hB2, hB3, hO, hsz⟩ := hrel
    have HE := Lib.hid hE
    have HB2 := Lib.hid hB2
    have HB3 := Lib.hid hB3
    have HO := Lib.hid hO
    by_cases hlt : k < rs.length
    · obtain ⟨b, off, rfl, _, hbs, hb⟩ := Rules.at Hu.out (by omega)
      obtain ⟨ra, rc, c0, c1, hr⟩ := hb k hlt
      have hrl := HL2.out rs[k] (List.getElem_mem hlt)
      have hbar : ∀ x ∈ ob (.slice ua un uc) ++ ([w.heap.size + 1, w.heap.size + 2] ++ M), x < w.heap.size → x ∈ M := by
        intro x hx hxl
        simp only [List.mem_append] at hx
        rcases hx with hx | hx | hx
        · have := (HO.out.block x hx).1; omega
        · simp at hx; omega
        · exact hx
      have Hr := Lib.hid (Sl.ext0 (Sl.bar hr hbar) hE)
      replace c0 := (hE.cell (p := ⟨b, off + k * 2, none⟩) hbs (by simp)).trans c0
      replace c1 := (hE.cell (p := ⟨b, off + k * 2 + 1, none⟩) hbs (by simp)).trans c1
      have Hst := Lib.hid (List.take_succ_eq_append_getElem hlt)
      clear hr hb hE hbar hB2 hB3 hO
      generalize rs[k] = r at c0 c1 hrl Hr Hst
      have e0 : (0 : Int) ≤ (k : Int) := by omega
      have e1 : (k : Int) < (rs.length : Int) := by omega
      go_wp2_with fail
      have hEa : Ext [] wr (wr.alloc (.cells #[.int .i64 r.left, .slice ra r.right.length rc] 44)) := Ext.new _ _
      have hBk : Blk (wr.alloc (.cells #[.int .i64 r.left, .slice ra r.right.length rc] 44)) wr.heap.size #[.int .i64 r.left, .slice ra r.right.length rc] 44 := Blk.new _ _ _
      generalize wr.alloc (.cells #[.int .i64 r.left, .slice ra r.right.length rc] 44) = wa at hEa hBk ⊢
      have g0 : wa.cell? ⟨wr.heap.size, 0, none⟩ = some (.int .i64 r.left) := (hBk.cell 0).trans (by simp)
      have g1 : wa.cell? ⟨wr.heap.size, 1, none⟩ = some (.slice ra r.right.length rc) := (hBk.cell 1).trans (by simp)
      obtain ⟨_, _, _, o3⟩ := GramC.cells (HB3.out.ext hEa (by simp))
      have Hsz0 := Lib.hid hEa.size
      have hrb := hBk.lt
      have HB2a := Lib.hid (HB2.out.ext hEa (by simp))
      have HB3a := Lib.hid (HB3.out.ext hEa (by simp))
      have HOa := Lib.hid (HO.out.ext0 hEa)
      have Hra := Lib.hid (Sl.ext0 Hr.out hEa)
      have HEa := Lib.hid (HE.out.trans hEa (by simp))
      have HMa : Hid (∀ x ∈ ob (.slice ua un uc) ++ ([w.heap.size + 1, w.heap.size + 2] ++ M), x < wa.heap.size) := Lib.hid (by
        intro x hx
        have := Hsz0.out
        rcases List.mem_append.1 hx with hx | hx
        · have := (HO.out.block x hx).2.1; omega
        · rcases List.mem_append.1 hx with hx | hx
          · simp at hx; omega
          · have := HM.out x hx; omega)
      clear hEa hBk c0 c1
      refine wp_region_L 12 11 (fun w' => w'.cell? ⟨w.heap.size + 2, 3, none⟩ = some (.slice ua un uc) ∧ w'.cell? ⟨wr.heap.size, 0, none⟩ = some (.int .i64 r.left) ∧ w'.cell? ⟨wr.heap.size, 1, none⟩ = some (.slice ra r.right.length rc)) (by kernel_rfl) rfl ?_
      have hS : wa.drew.cell? ⟨w.heap.size + 2, 3, none⟩ = some (.slice ua un uc) ∧ wa.drew.cell? ⟨wr.heap.size, 0, none⟩ = some (.int .i64 r.left) ∧ wa.drew.cell? ⟨wr.heap.size, 1, none⟩ = some (.slice ra r.right.length rc) := ⟨o3, g0, g1⟩
      refine wpL_take (i := 0) (fuel := 11) (v := ?v0) rfl (by kernel_rfl) (fun _ _ _ h => h) (Or.inl ⟨by rfl, ?y0⟩) hS ?r0
      case y0 => intro w' hw'; obtain ⟨s1, s2, s3⟩ := hw'; go_simp; try with_reducible rfl
      simp only [Act.put, List.setIfInBounds_toArray, List.set_cons_zero, List.set_cons_succ]
      refine wpL_take (i := 1) (fuel := 10) (v := ?v1) rfl (by kernel_rfl) (fun _ _ _ h => h) (Or.inl ⟨by rfl, ?y1⟩) hS ?r1
      case y1 => intro w' hw'; obtain ⟨s1, s2, s3⟩ := hw'; go_simp; try with_reducible rfl
      simp only [Act.put, List.setIfInBounds_toArray, List.set_cons_zero, List.set_cons_succ]
      refine wpL_take (i := 2) (fuel := 9) (v := ?v2) rfl (by kernel_rfl) (fun _ _ _ h => h) (Or.inl ⟨by rfl, ?y2⟩) hS ?r2
      case y2 => intro w' hw'; obtain ⟨s1, s2, s3⟩ := hw'; go_simp; try with_reducible rfl
      simp only [Act.put, List.setIfInBounds_toArray, List.set_cons_zero, List.set_cons_succ]
      refine wpL_take (i := 3) (fuel := 8) (v := ?v3) rfl (by kernel_rfl) (fun _ _ _ h => h) (Or.inl ⟨by rfl, ?y3⟩) hS ?r3
      case y3 => intro w' hw'; obtain ⟨s1, s2, s3⟩ := hw'; go_simp; try with_reducible rfl
      simp only [Act.put, List.setIfInBounds_toArray, List.set_cons_zero, List.set_cons_succ]
      refine wpL_take (i := 4) (fuel := 7) (v := ?v4) rfl (by kernel_rfl) (fun _ _ _ h => h) (Or.inl ⟨by rfl, ?y4⟩) hS ?r4
      case y4 => intro w' hw'; obtain ⟨s1, s2, s3⟩ := hw'; go_simp; try with_reducible rfl
      simp only [Act.put, List.setIfInBounds_toArray, List.set_cons_zero, List.set_cons_succ]
      refine wpL_take (i := 5) (fuel := 6) (v := ?v5) rfl (by kernel_rfl) (fun _ _ _ h => h) (Or.inl ⟨by rfl, ?y5⟩) hS ?r5
      case y5 => intro w' hw'; obtain ⟨s1, s2, s3⟩ := hw'; go_simp; try with_reducible rfl
      simp only [Act.put, List.setIfInBounds_toArray, List.set_cons_zero, List.set_cons_succ]
      refine wpL_one (i := 6) (fuel := 5) (by kernel_rfl) rfl ?_
      go_simp
      go_at_call 85
      refine (clone_any (ob (.slice ua un uc) ++ ([w.heap.size + 1, w.heap.size + 2] ++ M)) _ r.right _ (Sl.ext0 Hra.out ((Ext.refl [] wa).drew)) hrl (by exact HMa.out)).mono ?_
      rintro e w1 ⟨v1, rfl, hO1, hE1⟩
      obtain ⟨a1, cc1, rfl, _, _⟩ := hO1.shape
      have HO1 := Lib.hid hO1.sl
      generalize (nums r.right).length = n1 at *
      have hE1' : Ext [] wa w1 := (Ext.refl [] wa).drew.trans hE1 (by simp)
      have HE1 := Lib.hid hE1'
      obtain ⟨_, _, _, q3⟩ := GramC.cells (HB3a.out.ext hE1' (by simp))
      have d0 := (hE1'.cell (p := ⟨wr.heap.size, 0, none⟩) hrb (by simp)).trans g0
      have d1 := (hE1'.cell (p := ⟨wr.heap.size, 1, none⟩) hrb (by simp)).trans g1
      have hS1 : w1.cell? ⟨w.heap.size + 2, 3, none⟩ = some (.slice ua un uc) ∧ w1.cell? ⟨wr.heap.size, 0, none⟩ = some (.int .i64 r.left) ∧ w1.cell? ⟨wr.heap.size, 1, none⟩ = some (.slice ra r.right.length rc) := ⟨q3, d0, d1⟩
      clear hO1 hE1 hE1' q3 d0 d1
      refine ⟨hS1, ?_⟩
      try simp only [Act.put, List.setIfInBounds_toArray, List.set_cons_zero, List.set_cons_succ]
      refine wpL_take (i := 7) (fuel := 4) (v := ?v7) rfl (by kernel_rfl) (fun _ _ _ h => h) (Or.inl ⟨by rfl, ?y7⟩) hS1 ?r7
      case y7 => intro w' hw'; obtain ⟨s1, s2, s3⟩ := hw'; go_simp; try with_reducible rfl
      simp only [Act.put, List.setIfInBounds_toArray, List.set_cons_zero, List.set_cons_succ]
      refine wpL_one (i := 8) (fuel := 3) (by kernel_rfl) rfl ?_
      go_simp
      have hEb : Ext [] w1 (w1.alloc (.cells #[.int .i64 r.left, .slice a1 n1 cc1] 44)) := Ext.new _ _
      have Hsz1 := Lib.hid HE1.out.size
      have hS1a := (show _ ∧ _ ∧ _ from ⟨(hEb.cell (p := ⟨w.heap.size + 2, 3, none⟩) (by have := Hsz1.out; have := Hsz0.out; simp; omega) (by simp)).trans hS1.1, (hEb.cell (p := ⟨wr.heap.size, 0, none⟩) (by have := Hsz1.out; simp; omega) (by simp)).trans hS1.2.1, (hEb.cell (p := ⟨wr.heap.size, 1, none⟩) (by have := Hsz1.out; simp; omega) (by simp)).trans hS1.2.2⟩)
      have HM1 : Hid (∀ x ∈ [w.heap.size + 1, w.heap.size + 2] ++ M, x < w1.heap.size) := Lib.hid (fun x hx => Nat.lt_of_lt_of_le (HMa.out x (List.mem_append.2 (.inr hx))) Hsz1.out)
      have HOu := Lib.hid (HOa.out.ext0 HE1.out)
      refine ⟨hS1a, ?_⟩
      clear hEb hS1a
      refine wpL_one (i := 9) (fuel := 2) (by kernel_rfl) rfl ?_
      refine wp_append1 (w := w1) _ _ 32 (by rfl) (w.heap.size + 3) ([w.heap.size + 1, w.heap.size + 2] ++ M) 44 2 32 (.agg #[.int .i64 0, .slice none 0 0]) (by kernel_rfl) Try.infoRule (by decide) (by decide) (.slice ua un uc) ((rs.take k).map Rule.d) r.d _ w1.heap.size (by rfl) (by rfl) (Ext.new _ _) (Blk.new _ _ _) (Nat.le_refl _) HOu.out (Rule.rep.2 ⟨.slice a1 n1 cc1, by rfl, by exact HO1.out⟩) rfl HM1.out (by simp; omega) (by decide) (by have := Hsz1.out; have := Hsz0.out; omega) ?_
      intro a2 n2 cc2 w2 _ hO2 hE2
      have hO2' : OwnR (w.heap.size + 3) ([w.heap.size + 1, w.heap.size + 2] ++ M) w2 (.slice a2 n2 cc2) (rs.take (k + 1)) := by
        have h := hO2
        rw [Hst.out]
        simpa [OwnR] using h
      have hnb : ∀ x, x < w.heap.size + 3 → x ∉ ob (.slice ua un uc) := fun x hx hm => by have := (HO.out.block x hm).1; omega
      have hnr : wr.heap.size ∉ ob (.slice ua un uc) := fun hm => by have := (HO.out.block _ hm).2.1; omega
      have hB2w := (HB2a.out.ext HE1.out (by simp)).ext hE2 (hnb _ (by omega))
      have hB3w := (HB3a.out.ext HE1.out (by simp)).ext hE2 (hnb _ (by omega))
      obtain ⟨_, _, _, q3⟩ := GramC.cells hB3w
      have d0 := (hE2.cell (p := ⟨wr.heap.size, 0, none⟩) (Nat.lt_of_lt_of_le hrb Hsz1.out) hnr).trans hS1.2.1
      have d1 := (hE2.cell (p := ⟨wr.heap.size, 1, none⟩) (Nat.lt_of_lt_of_le hrb Hsz1.out) hnr).trans hS1.2.2
      have hS2 : w2.cell? ⟨w.heap.size + 2, 3, none⟩ = some (.slice ua un uc) ∧ w2.cell? ⟨wr.heap.size, 0, none⟩ = some (.int .i64 r.left) ∧ w2.cell? ⟨wr.heap.size, 1, none⟩ = some (.slice ra r.right.length rc) := ⟨q3, d0, d1⟩
      have hf2 := hB3w.frozen
      have hbl2 := hB3w.lt
      have hEw : Hid (Ext [] w w2) := Lib.hid ((HEa.out.trans HE1.out (by simp)).trans hE2 (fun x hx hlt => absurd hx (hnb x (by omega))))
      have K2 := Lib.hid hB2w
      have K3 := Lib.hid hB3w
      have KO := Lib.hid hO2'
      have Ksz := Lib.hid (Nat.le_trans hsz (Nat.le_trans Hsz0.out (Nat.le_trans Hsz1.out hE2.size)))
      clear hB2w hB3w hO2 hO2' hE2 d0 d1
      refine ⟨fun _ => hS2, ?_⟩
      simp only [Act.put, List.setIfInBounds_toArray, List.set_cons_zero, List.set_cons_succ]
      refine wpL_take (i := 10) (fuel := 1) (v := ?v10) rfl (by kernel_rfl) (fun _ _ _ h => h) (Or.inl ⟨by rfl, ?y10⟩) hS2 ?r10
      case y10 => intro w' hw'; obtain ⟨s1, s2, s3⟩ := hw'; go_simp; try with_reducible rfl
      simp only [Act.put, List.setIfInBounds_toArray, List.set_cons_zero, List.set_cons_succ]
      refine wpL_one (i := 11) (fuel := 0) (by kernel_rfl) rfl ?_
      go_simp
      refine wpL_done (by kernel_rfl) ?_
      go_simp
      go_wp2_with fail
      go_roundw
      case rel => exact ⟨k + 1, a2, n2, cc2, by go_num, by omega, hEw.out.setCell (p := ⟨w.heap.size + 2, 3, none⟩) (Or.inl (by simp)) _, K2.out.setOther (by simp) _, K3.out.set 3 _, KO.out.ext (Ext.store w2 (w.heap.size + 2) 3 _) (by simp), by simpa [World.setCell] using Ksz.out⟩
      case measure => simp [intOf]; omega
    · have hks : k = rs.length := by omega
      have Hfin := Lib.hid (show OwnR (w.heap.size + 3) ([w.heap.size + 1, w.heap.size + 2] ++ M) wr (.slice ua un uc) rs by rw [hks, List.take_length] at hO; exact hO)
      obtain ⟨o0, o1, o2, o3⟩ := GramC.cells HB3.out
      have q0 := HB2.out.cell 0
      have q1 := HB2.out.cell 1
      have q2 := HB2.out.cell 2
      have q3 := HB2.out.cell 3
      have hf1 := HB2.out.frozen
      have hbl1 := HB2.out.lt
      simp only [List.getElem?_toArray, List.getElem?_cons_zero, List.getElem?_cons_succ] at q0 q1 q2 q3
      clear hE hks hB2 hB3 hO
      go_wp2_with fail
      have hBR := (((Blk.set HB2.out 0 (.int .i64 vars)).set 1 (.int .i64 terms)).set 2 (.int .i64 start)).set 3 (.slice ua un uc)
      have hEx := (((Ext.store wr (w.heap.size + 1) 0 (.int .i64 vars)).setCell (p := ⟨w.heap.size + 1, 1, none⟩) (Or.inr (by simp)) (.int .i64 terms)).setCell (p := ⟨w.heap.size + 1, 2, none⟩) (Or.inr (by simp)) (.int .i64 start)).setCell (p := ⟨w.heap.size + 1, 3, none⟩) (Or.inr (by simp)) (.slice ua un uc)
      generalize (((wr.setCell ⟨w.heap.size + 1, 0, none⟩ (.int .i64 vars)).setCell ⟨w.heap.size + 1, 1, none⟩ (.int .i64 terms)).setCell ⟨w.heap.size + 1, 2, none⟩ (.int .i64 start)).setCell ⟨w.heap.size + 1, 3, none⟩ (.slice ua un uc) = wf at hBR hEx ⊢
      have hBR' : Blk wf (w.heap.size + 1) (GramC ⟨vars, terms, start, rs⟩ (.slice ua un uc)) 34 := by simpa using hBR
      obtain ⟨f0, f1, f2, f3⟩ := GramC.cells hBR'
      refine bodyPost_ret (v := .agg (GramC ⟨vars, terms, start, rs⟩ (.slice ua un uc))) (by simp [results, Try.results30, go_sem, f0, f1, f2, f3]) rfl ⟨_, rfl, ?_, ?_⟩
      · exact (Hfin.out.ext hEx (by simp)).bar (fun k hk _ => by simp [hk]) (by omega)
      · exact HE.out.trans hEx (fun x hx hlt => by simp at hx; omega)
end Go.Proofs.Ytpaeihifcmohkaa
