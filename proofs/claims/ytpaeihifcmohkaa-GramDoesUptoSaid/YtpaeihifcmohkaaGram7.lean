/-
  OwnGram, gram.Own.
-/
import Derived.Test.YtpaeihifcmohkaaGram6
import Derived.Test.YtpaeihifcmohkaaSched
namespace Go.Proofs.Ytpaeihifcmohkaa
open Go.RowKit

theorem Try.infoRule : (Try.prog.info? 44).map (fun i => (i.zero, i.size, i.bytes)) = some (some (.agg #[.int .i64 0, .slice none 0 0]), 2, 32) := by kernel_rfl
abbrev OwnR (B : Nat) (M : List Nat) (w : World) (v : Value) (rs : List Rule) : Prop := Own B M w 44 2 v (rs.map Rule.d)

set_option maxRecDepth 100000 in
set_option maxHeartbeats 1000000 in
theorem ownGram_any (M : List Nat) (g : Gram) (rv : Value) (w : World) (hu : Rules M w rv g.rules) (hl : g.le 100000000) (hM : ∀ k ∈ M, k < w.heap.size) :
    Calls Try.prog 25 #[.agg (GramC g rv)] w fun e w' => ∃ rv', e = .returned (.agg (GramC g rv')) ∧ OwnR w.heap.size M w' rv' g.rules ∧ Ext [] w w' := by
  obtain ⟨vars, terms, start, rs⟩ := g
  obtain ⟨a, cap, rfl, hc, _⟩ := Rules.shape hu
  obtain ⟨l1, l2⟩ := hl
  simp only at l1 l2 hu hc
  have HL2 := Lib.hid l2
  have Hu := Lib.hid hu
  have HM := Lib.hid hM
  clear l2 hu hM
  go_enter Try.func25, Try.ntmps25
  go_wp2_with fail
  go_loopw [4, 5] (fun iv _ wr => ∃ (k : Nat) (ua : Option Addr) (un uc : Nat), iv = .int .i64 k ∧ k ≤ rs.length ∧ Ext [] w wr ∧ Blk wr w.heap.size (GramC ⟨vars, terms, start, rs⟩ (.slice a rs.length cap)) 34 ∧
      Blk wr (w.heap.size + 1) #[.int .i64 0, .int .i64 0, .int .i64 0, .slice none 0 0] 34 ∧ Blk wr (w.heap.size + 2) (GramC ⟨vars, terms, start, rs⟩ (.slice ua un uc)) 34 ∧
      OwnR (w.heap.size + 3) ([w.heap.size + 1, w.heap.size + 2] ++ M) wr (.slice ua un uc) (rs.take k) ∧ w.heap.size + 3 ≤ wr.heap.size) (fun iv _ _ => rs.length - (intOf iv).toNat)
  case atStart =>
    refine ⟨0, none, 0, 0, rfl, Nat.zero_le _, (((Ext.refl [] w).alloc _).alloc _).alloc _, Blk.alloc (Blk.alloc (Blk.new _ _ _) _) _, Blk.alloc (newBlk _ _ _ _ (by simp)) _, newBlk _ _ _ _ (by simp), Own.nil _ _ _ _ _ _, by simp⟩
  case round =>
    obtain ⟨k, ua, un, uc, rfl, hk, hE, hB1, hB2, hB3, hO, hsz⟩ := hrel
    obtain ⟨_, _, _, g3⟩ := GramC.cells hB1
    obtain ⟨o0, o1, o2, o3⟩ := GramC.cells hB3
    have of := hB3.frozen
    have HE := Lib.hid hE
    have HB1 := Lib.hid hB1
    have HB2 := Lib.hid hB2
    have HB3 := Lib.hid hB3
    have HO := Lib.hid hO
    have hbl := hB3.lt
    clear hB1 hB2 hB3 hO
    by_cases hlt : k < rs.length
    · obtain ⟨b, off, rfl, _, hbs, hb⟩ := Rules.at Hu.out (by omega)
      obtain ⟨ra, rc, c0, c1, hr⟩ := hb k hlt
      have hrl := HL2.out rs[k] (List.getElem_mem hlt)
      have hbar : ∀ x ∈ ob (.slice none 0 0) ++ (ob (.slice ua un uc) ++ ([w.heap.size + 1, w.heap.size + 2] ++ M)), x < w.heap.size → x ∈ M := by
        intro x hx hxl
        simp only [List.mem_append] at hx
        rcases hx with hx | hx | hx | hx
        · simp [ob] at hx
        · have := (HO.out.block x hx).1; omega
        · simp at hx; omega
        · exact hx
      have Hr := Lib.hid (Sl.ext0 (Sl.bar hr hbar) hE)
      replace c0 := (hE.cell (p := ⟨b, off + k * 2, none⟩) hbs (by simp)).trans c0
      replace c1 := (hE.cell (p := ⟨b, off + k * 2 + 1, none⟩) hbs (by simp)).trans c1
      have Hst := Lib.hid (List.take_succ_eq_append_getElem hlt)
      have hbw : b < wr.heap.size := Nat.lt_of_lt_of_le hbs hE.size
      clear hr hb hE hbar
      generalize rs[k] = r at c0 c1 hrl Hr Hst
      have e0 : (0 : Int) ≤ (k : Int) := by omega
      have e1 : (k : Int) < (rs.length : Int) := by omega
      go_wp2_with fail
      refine wp_region_L 21 20 (fun w' => w'.cell? ⟨w.heap.size, 3, none⟩ = some (.slice (some ⟨b, off, none⟩) rs.length cap) ∧ w'.cell? ⟨w.heap.size + 2, 3, none⟩ = some (.slice ua un uc) ∧ w'.cell? ⟨b, off + k * 2, none⟩ = some (.int .i64 r.left) ∧ w'.cell? ⟨b, off + k * 2 + 1, none⟩ = some (.slice ra r.right.length rc)) (by kernel_rfl) rfl ?_
      have hS : wr.drew.cell? ⟨w.heap.size, 3, none⟩ = some (.slice (some ⟨b, off, none⟩) rs.length cap) ∧ wr.drew.cell? ⟨w.heap.size + 2, 3, none⟩ = some (.slice ua un uc) ∧ wr.drew.cell? ⟨b, off + k * 2, none⟩ = some (.int .i64 r.left) ∧ wr.drew.cell? ⟨b, off + k * 2 + 1, none⟩ = some (.slice ra r.right.length rc) := ⟨g3, o3, c0, c1⟩
      refine wpL_take (i := 0) (fuel := 20) (v := ?v0) rfl (by kernel_rfl) (fun _ _ _ h => h) (Or.inl ⟨by rfl, ?y0⟩) hS ?r0
      case y0 => intro w' hw'; obtain ⟨s1, s2, s3, s4⟩ := hw'; go_simp; try with_reducible rfl
      simp only [Act.put, List.setIfInBounds_toArray, List.set_cons_zero, List.set_cons_succ]
      refine wpL_take (i := 1) (fuel := 19) (v := ?v1) rfl (by kernel_rfl) (fun _ _ _ h => h) (Or.inl ⟨by rfl, ?y1⟩) hS ?r1
      case y1 => intro w' hw'; obtain ⟨s1, s2, s3, s4⟩ := hw'; go_simp; try with_reducible rfl
      simp only [Act.put, List.setIfInBounds_toArray, List.set_cons_zero, List.set_cons_succ]
      refine wpL_take (i := 2) (fuel := 18) (v := ?v2) rfl (by kernel_rfl) (fun _ _ _ h => h) (Or.inl ⟨by rfl, ?y2⟩) hS ?r2
      case y2 => intro w' hw'; obtain ⟨s1, s2, s3, s4⟩ := hw'; go_simp; try with_reducible rfl
      simp only [Act.put, List.setIfInBounds_toArray, List.set_cons_zero, List.set_cons_succ]
      refine wpL_take (i := 3) (fuel := 17) (v := ?v3) rfl (by kernel_rfl) (fun _ _ _ h => h) (Or.inl ⟨by rfl, ?y3⟩) hS ?r3
      case y3 => intro w' hw'; obtain ⟨s1, s2, s3, s4⟩ := hw'; go_simp; try with_reducible rfl
      simp only [Act.put, List.setIfInBounds_toArray, List.set_cons_zero, List.set_cons_succ]
      refine wpL_take (i := 4) (fuel := 16) (v := ?v4) rfl (by kernel_rfl) (fun _ _ _ h => h) (Or.inl ⟨by rfl, ?y4⟩) hS ?r4
      case y4 => intro w' hw'; obtain ⟨s1, s2, s3, s4⟩ := hw'; go_simp; try with_reducible rfl
      simp only [Act.put, List.setIfInBounds_toArray, List.set_cons_zero, List.set_cons_succ]
      refine wpL_take (i := 5) (fuel := 15) (v := ?v5) rfl (by kernel_rfl) (fun _ _ _ h => h) (Or.inl ⟨by rfl, ?y5⟩) hS ?r5
      case y5 => intro w' hw'; obtain ⟨s1, s2, s3, s4⟩ := hw'; go_simp; try with_reducible rfl
      simp only [Act.put, List.setIfInBounds_toArray, List.set_cons_zero, List.set_cons_succ]
      refine wpL_take (i := 6) (fuel := 14) (v := ?v6) rfl (by kernel_rfl) (fun _ _ _ h => h) (Or.inl ⟨by rfl, ?y6⟩) hS ?r6
      case y6 => intro w' hw'; obtain ⟨s1, s2, s3, s4⟩ := hw'; go_simp; try with_reducible rfl
      simp only [Act.put, List.setIfInBounds_toArray, List.set_cons_zero, List.set_cons_succ]
      refine wpL_take (i := 7) (fuel := 13) (v := ?v7) rfl (by kernel_rfl) (fun _ _ _ h => h) (Or.inl ⟨by rfl, ?y7⟩) hS ?r7
      case y7 => intro w' hw'; obtain ⟨s1, s2, s3, s4⟩ := hw'; go_simp; try with_reducible rfl
      simp only [Act.put, List.setIfInBounds_toArray, List.set_cons_zero, List.set_cons_succ]
      refine wpL_take (i := 8) (fuel := 12) (v := ?v8) rfl (by kernel_rfl) (fun _ _ _ h => h) (Or.inl ⟨by rfl, ?y8⟩) hS ?r8
      case y8 => intro w' hw'; obtain ⟨s1, s2, s3, s4⟩ := hw'; go_simp; try with_reducible rfl
      simp only [Act.put, List.setIfInBounds_toArray, List.set_cons_zero, List.set_cons_succ]
      refine wpL_take (i := 9) (fuel := 11) (v := ?v9) rfl (by kernel_rfl) (fun _ _ _ h => h) (Or.inl ⟨by rfl, ?y9⟩) hS ?r9
      case y9 => intro w' hw'; obtain ⟨s1, s2, s3, s4⟩ := hw'; go_simp; try with_reducible rfl
      simp only [Act.put, List.setIfInBounds_toArray, List.set_cons_zero, List.set_cons_succ]
      refine wpL_take (i := 10) (fuel := 10) (v := ?v10) rfl (by kernel_rfl) (fun _ _ _ h => h) (Or.inl ⟨by rfl, ?y10⟩) hS ?r10
      case y10 => intro w' hw'; obtain ⟨s1, s2, s3, s4⟩ := hw'; go_simp; try with_reducible rfl
      simp only [Act.put, List.setIfInBounds_toArray, List.set_cons_zero, List.set_cons_succ]
      refine wpL_take (i := 11) (fuel := 9) (v := ?v11) rfl (by kernel_rfl) (fun _ _ _ h => h) (Or.inl ⟨by rfl, ?y11⟩) hS ?r11
      case y11 => intro w' hw'; obtain ⟨s1, s2, s3, s4⟩ := hw'; go_simp; try with_reducible rfl
      simp only [Act.put, List.setIfInBounds_toArray, List.set_cons_zero, List.set_cons_succ]
      refine wpL_take (i := 12) (fuel := 8) (v := ?v12) rfl (by kernel_rfl) (fun _ _ _ h => h) (Or.inl ⟨by rfl, ?y12⟩) hS ?r12
      case y12 => intro w' hw'; obtain ⟨s1, s2, s3, s4⟩ := hw'; go_simp; try with_reducible rfl
      simp only [Act.put, List.setIfInBounds_toArray, List.set_cons_zero, List.set_cons_succ]
      refine wpL_take (i := 13) (fuel := 7) (v := ?v13) rfl (by kernel_rfl) (fun _ _ _ h => h) (Or.inl ⟨by rfl, ?y13⟩) hS ?r13
      case y13 => intro w' hw'; obtain ⟨s1, s2, s3, s4⟩ := hw'; go_simp; try with_reducible rfl
      simp only [Act.put, List.setIfInBounds_toArray, List.set_cons_zero, List.set_cons_succ]
      refine wpL_take (i := 14) (fuel := 6) (v := ?v14) rfl (by kernel_rfl) (fun _ _ _ h => h) (Or.inl ⟨by rfl, ?y14⟩) hS ?r14
      case y14 => intro w' hw'; obtain ⟨s1, s2, s3, s4⟩ := hw'; go_simp; try with_reducible rfl
      simp only [Act.put, List.setIfInBounds_toArray, List.set_cons_zero, List.set_cons_succ]
      -- the copy of the symbols
      refine wpL_one (i := 15) (fuel := 5) (by kernel_rfl) rfl ?_
      have HMo : Hid (∀ x ∈ ob (.slice ua un uc) ++ ([w.heap.size + 1, w.heap.size + 2] ++ M), x < wr.heap.size) := Lib.hid (by
        intro x hx
        rcases List.mem_append.1 hx with hx | hx
        · exact (HO.out.block x hx).2.1
        · rcases List.mem_append.1 hx with hx | hx
          · simp at hx; omega
          · have := HM.out x hx; omega)
      have Hr' : Hid (Sl (ob (.slice none 0 0) ++ (ob (.slice ua un uc) ++ ([w.heap.size + 1, w.heap.size + 2] ++ M))) wr.drew 1 (.slice ra r.right.length rc) (nums r.right)) := Lib.hid (Sl.ext0 Hr.out ((Ext.refl [] wr).drew))
      refine wp_append (w := wr.drew) _ _ 40 (by rfl) wr.heap.size (ob (.slice ua un uc) ++ ([w.heap.size + 1, w.heap.size + 2] ++ M)) 3 1 8 _ Try.underlying40 Try.infoInt rfl (by decide) (.slice none 0 0) (.slice ra r.right.length rc) [] (nums r.right) (by rfl) (by rfl) ?_ ?_ ?_ ?_ ?_ ?_ ?_
      · exact Own.nil _ _ _ _ _ _
      · exact Hr'.out
      · exact HMo.out
      · simp; omega
      · simp [maxLen]; omega
      · exact Nat.le_refl _
      intro a1 n1 cc1 w1 _ hO1 hE1
      have hE1' : Ext [] wr w1 := (Ext.refl [] wr).drew.trans hE1 (by simp [ob])
      obtain ⟨_, _, _, p3⟩ := GramC.cells (HB1.out.ext hE1' (by simp))
      obtain ⟨_, _, _, q3⟩ := GramC.cells (HB3.out.ext hE1' (by simp))
      have d0 := (hE1'.cell (p := ⟨b, off + k * 2, none⟩) hbw (by simp)).trans c0
      have d1 := (hE1'.cell (p := ⟨b, off + k * 2 + 1, none⟩) hbw (by simp)).trans c1
      have hS1 : w1.cell? ⟨w.heap.size, 3, none⟩ = some (.slice (some ⟨b, off, none⟩) rs.length cap) ∧ w1.cell? ⟨w.heap.size + 2, 3, none⟩ = some (.slice ua un uc) ∧ w1.cell? ⟨b, off + k * 2, none⟩ = some (.int .i64 r.left) ∧ w1.cell? ⟨b, off + k * 2 + 1, none⟩ = some (.slice ra r.right.length rc) := ⟨p3, q3, d0, d1⟩
      have HO1 := Lib.hid hO1
      have HE1 := Lib.hid hE1'
      clear hO1 hE1 hE1' p3 q3 d0 d1
      refine ⟨fun _ => hS1, ?_⟩
      simp only [Act.put, List.setIfInBounds_toArray, List.set_cons_zero, List.set_cons_succ]
      refine wpL_take (i := 16) (fuel := 4) (v := ?v16) rfl (by kernel_rfl) (fun _ _ _ h => h) (Or.inl ⟨by rfl, ?y16⟩) hS1 ?r16
      case y16 => intro w' hw'; obtain ⟨s1, s2, s3, s4⟩ := hw'; go_simp; try with_reducible rfl
      simp only [Act.put, List.setIfInBounds_toArray, List.set_cons_zero, List.set_cons_succ]
      refine wpL_one (i := 17) (fuel := 3) (by kernel_rfl) rfl ?_
      go_simp
      have hEa : Ext [] w1 (w1.alloc (.cells #[.int .i64 r.left, .slice a1 n1 cc1] 44)) := Ext.new _ _
      have hS1a := (show _ ∧ _ ∧ _ ∧ _ from ⟨(hEa.cell (p := ⟨w.heap.size, 3, none⟩) (by have := HE1.out.size; simp; omega) (by simp)).trans hS1.1, (hEa.cell (p := ⟨w.heap.size + 2, 3, none⟩) (by have := HE1.out.size; simp; omega) (by simp)).trans hS1.2.1, (hEa.cell (p := ⟨b, off + k * 2, none⟩) (by have := HE1.out.size; simp; omega) (by simp)).trans hS1.2.2.1, (hEa.cell (p := ⟨b, off + k * 2 + 1, none⟩) (by have := HE1.out.size; simp; omega) (by simp)).trans hS1.2.2.2⟩)
      have Hsz1 := Lib.hid HE1.out.size
      have HM1 : Hid (∀ x ∈ [w.heap.size + 1, w.heap.size + 2] ++ M, x < w1.heap.size) := Lib.hid (fun x hx => Nat.lt_of_lt_of_le (HMo.out x (List.mem_append.2 (.inr hx))) Hsz1.out)
      have HOu := Lib.hid (HO.out.ext0 HE1.out)
      refine ⟨hS1a, ?_⟩
      clear hEa hS1a
      refine wpL_one (i := 18) (fuel := 2) (by kernel_rfl) rfl ?_
      refine wp_append1 (w := w1) _ _ 32 (by rfl) (w.heap.size + 3) ([w.heap.size + 1, w.heap.size + 2] ++ M) 44 2 32 (.agg #[.int .i64 0, .slice none 0 0]) (by kernel_rfl) Try.infoRule (by decide) (by decide) (.slice ua un uc) ((rs.take k).map Rule.d) r.d _ w1.heap.size (by rfl) (by rfl) (Ext.new _ _) (Blk.new _ _ _) (Nat.le_refl _) HOu.out (Rule.rep.2 ⟨.slice a1 n1 cc1, by rfl, by exact HO1.out.sl⟩) rfl HM1.out (by simp; omega) (by decide) (by have := Hsz1.out; omega) ?_
      intro a2 n2 cc2 w2 _ hO2 hE2
      have hO2' : OwnR (w.heap.size + 3) ([w.heap.size + 1, w.heap.size + 2] ++ M) w2 (.slice a2 n2 cc2) (rs.take (k + 1)) := by
        have h := hO2
        rw [Hst.out]
        simpa [OwnR] using h
      have hnb : ∀ x, x < w.heap.size + 3 → x ∉ ob (.slice ua un uc) := fun x hx hm => by have := (HO.out.block x hm).1; omega
      have hB1w := (HB1.out.ext HE1.out (by simp)).ext hE2 (hnb _ (by omega))
      have hB2w := (HB2.out.ext HE1.out (by simp)).ext hE2 (hnb _ (by omega))
      have hB3w := (HB3.out.ext HE1.out (by simp)).ext hE2 (hnb _ (by omega))
      have hbw1 : b < w1.heap.size := Nat.lt_of_lt_of_le hbw Hsz1.out
      obtain ⟨_, _, _, p3⟩ := GramC.cells hB1w
      obtain ⟨_, _, _, q3⟩ := GramC.cells hB3w
      have d0 := (hE2.cell (p := ⟨b, off + k * 2, none⟩) hbw1 (hnb b (by omega))).trans hS1.2.2.1
      have d1 := (hE2.cell (p := ⟨b, off + k * 2 + 1, none⟩) hbw1 (hnb b (by omega))).trans hS1.2.2.2
      have hS2 : w2.cell? ⟨w.heap.size, 3, none⟩ = some (.slice (some ⟨b, off, none⟩) rs.length cap) ∧ w2.cell? ⟨w.heap.size + 2, 3, none⟩ = some (.slice ua un uc) ∧ w2.cell? ⟨b, off + k * 2, none⟩ = some (.int .i64 r.left) ∧ w2.cell? ⟨b, off + k * 2 + 1, none⟩ = some (.slice ra r.right.length rc) := ⟨p3, q3, d0, d1⟩
      have hf2 := hB3w.frozen
      have hbl2 := hB3w.lt
      have hEw : Hid (Ext [] w w2) := Lib.hid ((HE.out.trans (HE1.out.mono (T := []) (by simp)) (by simp)).trans hE2 (fun x hx hlt => absurd hx (hnb x (by omega))))
      have K1 := Lib.hid hB1w
      have K2 := Lib.hid hB2w
      have K3 := Lib.hid hB3w
      have KO := Lib.hid hO2'
      have Ksz := Lib.hid (Nat.le_trans hsz (Nat.le_trans Hsz1.out hE2.size))
      clear hB1w hB2w hB3w hO2 hO2' hE2 d0 d1
      refine ⟨fun _ => hS2, ?_⟩
      simp only [Act.put, List.setIfInBounds_toArray, List.set_cons_zero, List.set_cons_succ]
      refine wpL_take (i := 19) (fuel := 1) (v := ?v19) rfl (by kernel_rfl) (fun _ _ _ h => h) (Or.inl ⟨by rfl, ?y19⟩) hS2 ?r19
      case y19 => intro w' hw'; obtain ⟨s1, s2, s3, s4⟩ := hw'; go_simp; try with_reducible rfl
      simp only [Act.put, List.setIfInBounds_toArray, List.set_cons_zero, List.set_cons_succ]
      refine wpL_one (i := 20) (fuel := 0) (by kernel_rfl) rfl ?_
      go_simp
      refine wpL_done (by kernel_rfl) ?_
      go_simp
      go_wp2_with fail
      go_roundw
      case rel => exact ⟨k + 1, a2, n2, cc2, by go_num, by omega, hEw.out.setCell (p := ⟨w.heap.size + 2, 3, none⟩) (Or.inl (by simp)) _, K1.out.setOther (by simp; omega) _, K2.out.setOther (by simp) _, K3.out.set 3 _, KO.out.ext (Ext.store w2 (w.heap.size + 2) 3 _) (by simp), by simpa [World.setCell] using Ksz.out⟩
      case measure => simp [intOf]; omega
    · have hks : k = rs.length := by omega
      have Hfin := Lib.hid (show OwnR (w.heap.size + 3) ([w.heap.size + 1, w.heap.size + 2] ++ M) wr (.slice ua un uc) rs by rw [hks, List.take_length] at HO; exact HO.out)
      have q0 := HB2.out.cell 0
      have q1 := HB2.out.cell 1
      have q2 := HB2.out.cell 2
      have q3 := HB2.out.cell 3
      have hf1 := HB2.out.frozen
      have hbl1 := HB2.out.lt
      simp only [List.getElem?_toArray, List.getElem?_cons_zero, List.getElem?_cons_succ] at q0 q1 q2 q3
      clear hE hks
      go_wp2_with fail
      have hBR := (((Blk.set HB2.out 0 (.int .i64 vars)).set 1 (.int .i64 terms)).set 2 (.int .i64 start)).set 3 (.slice ua un uc)
      have hEx := (((Ext.store wr (w.heap.size + 1) 0 (.int .i64 vars)).setCell (p := ⟨w.heap.size + 1, 1, none⟩) (Or.inr (by simp)) (.int .i64 terms)).setCell (p := ⟨w.heap.size + 1, 2, none⟩) (Or.inr (by simp)) (.int .i64 start)).setCell (p := ⟨w.heap.size + 1, 3, none⟩) (Or.inr (by simp)) (.slice ua un uc)
      generalize (((wr.setCell ⟨w.heap.size + 1, 0, none⟩ (.int .i64 vars)).setCell ⟨w.heap.size + 1, 1, none⟩ (.int .i64 terms)).setCell ⟨w.heap.size + 1, 2, none⟩ (.int .i64 start)).setCell ⟨w.heap.size + 1, 3, none⟩ (.slice ua un uc) = wf at hBR hEx ⊢
      have hBR' : Blk wf (w.heap.size + 1) (GramC ⟨vars, terms, start, rs⟩ (.slice ua un uc)) 34 := by simpa using hBR
      obtain ⟨f0, f1, f2, f3⟩ := GramC.cells hBR'
      refine bodyPost_ret (v := .agg (GramC ⟨vars, terms, start, rs⟩ (.slice ua un uc))) (by simp [results, Try.results25, go_sem, f0, f1, f2, f3]) rfl ⟨_, rfl, ?_, ?_⟩
      · exact (Hfin.out.ext hEx (by simp)).bar (fun k hk _ => by simp [hk]) (by omega)
      · exact HE.out.trans hEx (fun x hx hlt => by simp at hx; omega)
end Go.Proofs.Ytpaeihifcmohkaa
