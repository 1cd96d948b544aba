/-
  GramDoes: the walk.
-/
import Derived.Test.YtpaeihifcmohkaaGram9
import Derived.Test.YtpaeihifcmohkaaHeld
namespace Go.Proofs.Ytpaeihifcmohkaa
open Go.RowKit

set_option maxRecDepth 100000 in
set_option maxHeartbeats 1000000 in
theorem gramDoes_any (g h : Gram) (rv qv : Value) (v : Int) (w : World) (hu : Rules [] w rv g.rules) (hv : Rules [] w qv h.rules) (hl : g.le 100000000) (hl' : h.le 100000000) :
    Calls Try.prog 5 #[.agg (GramC g rv), .agg (GramC h qv), .int .i64 v] w fun e w' => e = .returned (.bool true) ∧ Ext [] w w' := by
  obtain ⟨a, cap, rfl, _⟩ := Rules.shape hu
  obtain ⟨b, cbp, rfl, _⟩ := Rules.shape hv
  have Hu := Lib.hid hu
  have Hv := Lib.hid hv
  clear hu hv
  go_enter Try.func5, Try.ntmps5
  go_wp2_with fail
  have h : ∀ W : World, W = (w.alloc (.cells (GramC g (.slice a g.rules.length cap)) 34)).alloc (.cells (GramC h (.slice b h.rules.length cbp)) 34) →
     Ext [] w W ∧ Blk W w.heap.size (GramC g (.slice a g.rules.length cap)) 34 ∧ Blk W (w.heap.size + 1) (GramC h (.slice b h.rules.length cbp)) 34 := by
    rintro W rfl
    exact ⟨((Ext.refl [] w).alloc _).alloc _, Blk.alloc (Blk.new _ _ _) _, newBlk _ _ _ _ (by simp)⟩
  have h' := h _ rfl
  clear h
  generalize (w.alloc (.cells (GramC g (.slice a g.rules.length cap)) 34)).alloc (.cells (GramC h (.slice b h.rules.length cbp)) 34) = W at h' ⊢
  obtain ⟨hE, hB1, hB2⟩ := h'
  go_at_call 23
  refine (gramBegun_any W).mono ?_
  rintro e w1 ⟨rfl, hE1⟩
  have HE1 := Lib.hid (hE.trans0 hE1)
  have HA := Lib.hid (hB1.ext hE1 (by simp))
  have HB := Lib.hid (hB2.ext hE1 (by simp))
  clear hE hE1 hB1 hB2
  obtain ⟨p0, p1, p2, p3⟩ := GramC.cells HA.out
  obtain ⟨q0, q1, q2, q3⟩ := GramC.cells HB.out
  go_wp2_with fail
  go_at_call 24
  refine (greatGram_any [] g _ w1 (Sl.ext0 Hu.out HE1.out) hl).mono ?_
  rintro e w2 ⟨rfl, hE2⟩
  cases hg : greatB g with
  | true =>
    have HE2 := Lib.hid (HE1.out.trans0 hE2)
    go_wp2_with fail
    go_ret
    exact ⟨rfl, HE2.out⟩
  | false =>
    have HE2 := Lib.hid (HE1.out.trans0 hE2)
    have HA2 := Lib.hid (HA.out.ext hE2 (by simp))
    have HB2 := Lib.hid (HB.out.ext hE2 (by simp))
    clear hE2 p0 p1 p2 p3 q0 q1 q2 q3
    obtain ⟨p0, p1, p2, p3⟩ := GramC.cells HA2.out
    obtain ⟨q0, q1, q2, q3⟩ := GramC.cells HB2.out
    go_wp2_with fail
    go_at_call 24
    refine (greatGram_any [] h _ w2 (Sl.ext0 Hv.out HE2.out) hl').mono ?_
    rintro e w3 ⟨rfl, hE3⟩
    have HE3 := Lib.hid (HE2.out.trans0 hE3)
    cases hh : greatB h with
    | true =>
      go_wp2_with fail
      go_ret
      exact ⟨rfl, HE3.out⟩
    | false =>
      have HA3 := Lib.hid (HA2.out.ext hE3 (by simp))
      have HB3 := Lib.hid (HB2.out.ext hE3 (by simp))
      clear hE3 p0 p1 p2 p3 q0 q1 q2 q3
      obtain ⟨p0, p1, p2, p3⟩ := GramC.cells HA3.out
      go_wp2_with fail
      go_at_call 25
      refine (ownGram_any [] g _ w3 (Sl.ext0 Hu.out HE3.out) hl (by simp)).mono ?_
      rintro e w4 ⟨ov, rfl, hO4, hE4⟩
      obtain ⟨oa, oc, rfl, _⟩ := hO4.shape
      have e0 : (g.rules.map Rule.d).length = g.rules.length := by simp
      rw [e0] at hO4 ⊢
      clear e0
      have HO4 := Lib.hid hO4.sl
      have HE4 := Lib.hid (HE3.out.trans0 hE4)
      have HA4 := Lib.hid (HA3.out.ext hE4 (by simp))
      have HB4 := Lib.hid (HB3.out.ext hE4 (by simp))
      clear hO4 hE4 p0 p1 p2 p3
      go_wp2_with fail
      have hEo : Ext [] w4 (w4.alloc (.cells (GramC g (.slice oa g.rules.length oc)) 34)) := Ext.new _ _
      have hBo : Blk (w4.alloc (.cells (GramC g (.slice oa g.rules.length oc)) 34)) w4.heap.size (GramC g (.slice oa g.rules.length oc)) 34 := Blk.new _ _ _
      generalize w4.alloc (.cells (GramC g (.slice oa g.rules.length oc)) 34) = wo at hEo hBo ⊢
      have HA := Lib.hid (HA4.out.ext hEo (by simp))
      have HB := Lib.hid (HB4.out.ext hEo (by simp))
      have HC := Lib.hid hBo
      have HE := Lib.hid (HE4.out.trans0 hEo)
      have Ho := Lib.hid (Sl.ext0 HO4.out hEo)
      have Ha := Lib.hid (Sl.ext0 Hu.out HE.out)
      have Hb := Lib.hid (Sl.ext0 Hv.out HE.out)
      clear hEo hBo HA2 HB2 HA3 HB3 HA4 HB4
      have HS : Hid (∀ w', Ext [] wo w' → w'.cell? ⟨w.heap.size, 0, none⟩ = some (.int .i64 g.vars) ∧ w'.cell? ⟨w.heap.size, 1, none⟩ = some (.int .i64 g.terms) ∧ w'.cell? ⟨w.heap.size, 2, none⟩ = some (.int .i64 g.start) ∧ w'.cell? ⟨w.heap.size, 3, none⟩ = some (.slice a g.rules.length cap) ∧
          w'.cell? ⟨w.heap.size + 1, 0, none⟩ = some (.int .i64 h.vars) ∧ w'.cell? ⟨w.heap.size + 1, 1, none⟩ = some (.int .i64 h.terms) ∧ w'.cell? ⟨w.heap.size + 1, 2, none⟩ = some (.int .i64 h.start) ∧ w'.cell? ⟨w.heap.size + 1, 3, none⟩ = some (.slice b h.rules.length cbp) ∧
          w'.cell? ⟨w4.heap.size, 0, none⟩ = some (.int .i64 g.vars) ∧ w'.cell? ⟨w4.heap.size, 1, none⟩ = some (.int .i64 g.terms) ∧ w'.cell? ⟨w4.heap.size, 2, none⟩ = some (.int .i64 g.start) ∧ w'.cell? ⟨w4.heap.size, 3, none⟩ = some (.slice oa g.rules.length oc)) := Lib.hid (by
        intro w' hw'
        obtain ⟨s0, s1, s2, s3⟩ := GramC.cells (HA.out.ext hw' (by simp))
        obtain ⟨s4, s5, s6, s7⟩ := GramC.cells (HB.out.ext hw' (by simp))
        obtain ⟨s8, s9, s10, s11⟩ := GramC.cells (HC.out.ext hw' (by simp))
        exact ⟨s0, s1, s2, s3, s4, s5, s6, s7, s8, s9, s10, s11⟩)
      have hS0 : Ext [] wo wo.drew := (Ext.refl [] wo).drew
      refine wp_region_held_drew (S := fun w' => Ext [] wo w') (by kernel_rfl) hS0 fun _ => ?_
      refine wpH_take (i := 0) (fuel := 30) (v := ?v0) rfl (by kernel_rfl) (fun _ _ _ h => h) (Or.inl ⟨by rfl, ?y0⟩) hS0 ?r0
      case y0 => intro w' hw'; obtain ⟨s0, s1, s2, s3, s4, s5, s6, s7, s8, s9, s10, s11⟩ := HS.out w' hw'; go_simp; try with_reducible rfl
      simp only [Act.put, List.setIfInBounds_toArray, List.set_cons_zero, List.set_cons_succ]
      refine wpH_take (i := 2) (fuel := 29) (v := ?v2) rfl (by kernel_rfl) (fun _ _ _ h => h) (Or.inl ⟨by rfl, ?y2⟩) hS0 ?r2
      case y2 => intro w' hw'; obtain ⟨s0, s1, s2, s3, s4, s5, s6, s7, s8, s9, s10, s11⟩ := HS.out w' hw'; go_simp; try with_reducible rfl
      simp only [Act.put, List.setIfInBounds_toArray, List.set_cons_zero, List.set_cons_succ]
      refine wpH_one (i := 1) (fuel := 28) (by kernel_rfl) rfl (by rfl) ?_
      go_simp
      go_at_call 26
      refine (check_any [] g _ _ (Sl.ext0 Ho.out hS0) hl).mono ?_
      rintro e w5 ⟨rfl, hE5⟩
      have hS1 : Ext [] wo w5 := hS0.trans0 hE5
      refine ⟨hS1, ?_⟩
      refine wpH_one (i := 3) (fuel := 27) (by kernel_rfl) rfl (by rfl) ?_
      go_simp
      go_at_call 27
      refine (gramFault_any [] g _ _ (Sl.ext0 Ha.out hS1) hl).mono ?_
      rintro e w6 ⟨rfl, hE6⟩
      have hS2 : Ext [] wo w6 := hS1.trans0 hE6
      refine ⟨hS2, ?_⟩
      generalize gramFault g = gf
      obtain ⟨gf1, gf2⟩ := gf
      simp only
      refine wpH_take (i := 4) (fuel := 26) (v := ?v4) rfl (by kernel_rfl) (fun _ _ _ h => h) (Or.inl ⟨by rfl, ?y4⟩) hS2 ?r4
      case y4 => intro w' hw'; obtain ⟨s0, s1, s2, s3, s4, s5, s6, s7, s8, s9, s10, s11⟩ := HS.out w' hw'; go_simp; try with_reducible rfl
      simp only [Act.put, List.setIfInBounds_toArray, List.set_cons_zero, List.set_cons_succ]
      refine wpH_take (i := 5) (fuel := 25) (v := ?v5) rfl (by kernel_rfl) (fun _ _ _ h => h) (Or.inl ⟨by rfl, ?y5⟩) hS2 ?r5
      case y5 => intro w' hw'; obtain ⟨s0, s1, s2, s3, s4, s5, s6, s7, s8, s9, s10, s11⟩ := HS.out w' hw'; go_simp; try with_reducible rfl
      simp only [Act.put, List.setIfInBounds_toArray, List.set_cons_zero, List.set_cons_succ]
      refine wpH_take (i := 6) (fuel := 24) (v := ?v6) rfl (by kernel_rfl) (fun _ _ _ h => h) (Or.inl ⟨by rfl, ?y6⟩) hS2 ?r6
      case y6 => intro w' hw'; obtain ⟨s0, s1, s2, s3, s4, s5, s6, s7, s8, s9, s10, s11⟩ := HS.out w' hw'; go_simp; try with_reducible rfl
      simp only [Act.put, List.setIfInBounds_toArray, List.set_cons_zero, List.set_cons_succ]
      refine wpH_take (i := 7) (fuel := 23) (v := ?v7) rfl (by kernel_rfl) (fun _ _ _ h => h) (Or.inl ⟨by rfl, ?y7⟩) hS2 ?r7
      case y7 => intro w' hw'; obtain ⟨s0, s1, s2, s3, s4, s5, s6, s7, s8, s9, s10, s11⟩ := HS.out w' hw'; go_simp; try with_reducible rfl
      simp only [Act.put, List.setIfInBounds_toArray, List.set_cons_zero, List.set_cons_succ]
      refine wpH_take (i := 9) (fuel := 22) (v := ?v9) rfl (by kernel_rfl) (fun _ _ _ h => h) (Or.inl ⟨by rfl, ?y9⟩) hS2 ?r9
      case y9 => intro w' hw'; obtain ⟨s0, s1, s2, s3, s4, s5, s6, s7, s8, s9, s10, s11⟩ := HS.out w' hw'; go_simp; try with_reducible rfl
      simp only [Act.put, List.setIfInBounds_toArray, List.set_cons_zero, List.set_cons_succ]
      refine wpH_take (i := 10) (fuel := 21) (v := ?v10) rfl (by kernel_rfl) (fun _ _ _ h => h) (Or.inl ⟨by rfl, ?y10⟩) hS2 ?r10
      case y10 => intro w' hw'; obtain ⟨s0, s1, s2, s3, s4, s5, s6, s7, s8, s9, s10, s11⟩ := HS.out w' hw'; go_simp; try with_reducible rfl
      simp only [Act.put, List.setIfInBounds_toArray, List.set_cons_zero, List.set_cons_succ]
      refine wpH_one (i := 8) (fuel := 20) (by kernel_rfl) rfl (by rfl) ?_
      go_simp
      go_at_call 28
      refine (same_any g h _ _ _ (Sl.ext0 Ho.out hS2) (Sl.ext0 Hb.out hS2) hl hl').mono ?_
      rintro e w7 ⟨rfl, hE7⟩
      have hS3 : Ext [] wo w7 := hS2.trans0 hE7
      refine ⟨hS3, ?_⟩
      refine wpH_one (i := 11) (fuel := 19) (by kernel_rfl) rfl (by rfl) ?_
      go_simp
      go_at_call 29
      refine (sameGram_any [] g h _ _ _ (Sl.ext0 Ha.out hS3) (Sl.ext0 Hb.out hS3) hl hl').mono ?_
      rintro e w8 ⟨rfl, hE8⟩
      have hS4 : Ext [] wo w8 := hS3.trans0 hE8
      refine ⟨hS4, ?_⟩
      generalize decide (g = h) = bd
      refine wpH_take (i := 12) (fuel := 18) (v := ?v12) rfl (by kernel_rfl) (fun _ _ _ h => h) (Or.inl ⟨by rfl, ?y12⟩) hS4 ?r12
      case y12 => intro w' hw'; obtain ⟨s0, s1, s2, s3, s4, s5, s6, s7, s8, s9, s10, s11⟩ := HS.out w' hw'; go_simp; try with_reducible rfl
      simp only [Act.put, List.setIfInBounds_toArray, List.set_cons_zero, List.set_cons_succ]
      refine wpH_take (i := 13) (fuel := 17) (v := ?v13) rfl (by kernel_rfl) (fun _ _ _ h => h) (Or.inl ⟨by rfl, ?y13⟩) hS4 ?r13
      case y13 => intro w' hw'; obtain ⟨s0, s1, s2, s3, s4, s5, s6, s7, s8, s9, s10, s11⟩ := HS.out w' hw'; go_simp; try with_reducible rfl
      simp only [Act.put, List.setIfInBounds_toArray, List.set_cons_zero, List.set_cons_succ]
      refine wpH_take (i := 14) (fuel := 16) (v := ?v14) rfl (by kernel_rfl) (fun _ _ _ h => h) (Or.inl ⟨by rfl, ?y14⟩) hS4 ?r14
      case y14 => intro w' hw'; obtain ⟨s0, s1, s2, s3, s4, s5, s6, s7, s8, s9, s10, s11⟩ := HS.out w' hw'; go_simp; try with_reducible rfl
      simp only [Act.put, List.setIfInBounds_toArray, List.set_cons_zero, List.set_cons_succ]
      refine wpH_take (i := 15) (fuel := 15) (v := ?v15) rfl (by kernel_rfl) (fun _ _ _ h => h) (Or.inl ⟨by rfl, ?y15⟩) hS4 ?r15
      case y15 => intro w' hw'; obtain ⟨s0, s1, s2, s3, s4, s5, s6, s7, s8, s9, s10, s11⟩ := HS.out w' hw'; go_simp; try with_reducible rfl
      simp only [Act.put, List.setIfInBounds_toArray, List.set_cons_zero, List.set_cons_succ]
      refine wpH_take (i := 17) (fuel := 14) (v := ?v17) rfl (by kernel_rfl) (fun _ _ _ h => h) (Or.inl ⟨by rfl, ?y17⟩) hS4 ?r17
      case y17 => intro w' hw'; obtain ⟨s0, s1, s2, s3, s4, s5, s6, s7, s8, s9, s10, s11⟩ := HS.out w' hw'; go_simp; try with_reducible rfl
      simp only [Act.put, List.setIfInBounds_toArray, List.set_cons_zero, List.set_cons_succ]
      refine wpH_one (i := 16) (fuel := 13) (by kernel_rfl) rfl (by rfl) ?_
      go_simp
      go_at_call 30
      refine (own_any [] g _ _ (Sl.ext0 Ho.out hS4) hl (by simp)).mono ?_
      rintro e w9 ⟨ov2, rfl, hO9, hE9⟩
      have hS5 : Ext [] wo w9 := hS4.trans0 hE9
      have Ho9 := Lib.hid hO9.sl
      clear hO9
      refine ⟨hS5, ?_⟩
      refine wpH_one (i := 18) (fuel := 12) (by kernel_rfl) rfl (by rfl) ?_
      go_simp
      go_at_call 29
      refine (sameGram_any [] g g _ _ _ Ho9.out (Sl.ext0 Ha.out hS5) hl hl).mono ?_
      rintro e w10 ⟨rfl, hE10⟩
      have hS6 : Ext [] wo w10 := hS5.trans0 hE10
      refine ⟨hS6, ?_⟩
      simp only [decide_true]
      refine wpH_take (i := 19) (fuel := 11) (v := ?v19) rfl (by kernel_rfl) (fun _ _ _ h => h) (Or.inl ⟨by rfl, ?y19⟩) hS6 ?r19
      case y19 => intro w' hw'; obtain ⟨s0, s1, s2, s3, s4, s5, s6, s7, s8, s9, s10, s11⟩ := HS.out w' hw'; go_simp; try with_reducible rfl
      simp only [Act.put, List.setIfInBounds_toArray, List.set_cons_zero, List.set_cons_succ]
      refine wpH_take (i := 20) (fuel := 10) (v := ?v20) rfl (by kernel_rfl) (fun _ _ _ h => h) (Or.inl ⟨by rfl, ?y20⟩) hS6 ?r20
      case y20 => intro w' hw'; obtain ⟨s0, s1, s2, s3, s4, s5, s6, s7, s8, s9, s10, s11⟩ := HS.out w' hw'; go_simp; try with_reducible rfl
      simp only [Act.put, List.setIfInBounds_toArray, List.set_cons_zero, List.set_cons_succ]
      refine wpH_take (i := 21) (fuel := 9) (v := ?v21) rfl (by kernel_rfl) (fun _ _ _ h => h) (Or.inl ⟨by rfl, ?y21⟩) hS6 ?r21
      case y21 => intro w' hw'; obtain ⟨s0, s1, s2, s3, s4, s5, s6, s7, s8, s9, s10, s11⟩ := HS.out w' hw'; go_simp; try with_reducible rfl
      simp only [Act.put, List.setIfInBounds_toArray, List.set_cons_zero, List.set_cons_succ]
      refine wpH_take (i := 22) (fuel := 8) (v := ?v22) rfl (by kernel_rfl) (fun _ _ _ h => h) (Or.inl ⟨by rfl, ?y22⟩) hS6 ?r22
      case y22 => intro w' hw'; obtain ⟨s0, s1, s2, s3, s4, s5, s6, s7, s8, s9, s10, s11⟩ := HS.out w' hw'; go_simp; try with_reducible rfl
      simp only [Act.put, List.setIfInBounds_toArray, List.set_cons_zero, List.set_cons_succ]
      refine wpH_take (i := 23) (fuel := 7) (v := ?v23) rfl (by kernel_rfl) (fun _ _ _ h => h) (Or.inl ⟨by rfl, ?y23⟩) hS6 ?r23
      case y23 => intro w' hw'; obtain ⟨s0, s1, s2, s3, s4, s5, s6, s7, s8, s9, s10, s11⟩ := HS.out w' hw'; go_simp; try with_reducible rfl
      simp only [Act.put, List.setIfInBounds_toArray, List.set_cons_zero, List.set_cons_succ]
      refine wpH_take (i := 25) (fuel := 6) (v := ?v25) rfl (by kernel_rfl) (fun _ _ _ h => h) (Or.inl ⟨by rfl, ?y25⟩) hS6 ?r25
      case y25 => intro w' hw'; obtain ⟨s0, s1, s2, s3, s4, s5, s6, s7, s8, s9, s10, s11⟩ := HS.out w' hw'; go_simp; try with_reducible rfl
      simp only [Act.put, List.setIfInBounds_toArray, List.set_cons_zero, List.set_cons_succ]
      refine wpH_take (i := 26) (fuel := 5) (v := ?v26) rfl (by kernel_rfl) (fun _ _ _ h => h) (Or.inl ⟨by rfl, ?y26⟩) hS6 ?r26
      case y26 => intro w' hw'; obtain ⟨s0, s1, s2, s3, s4, s5, s6, s7, s8, s9, s10, s11⟩ := HS.out w' hw'; go_simp; try with_reducible rfl
      simp only [Act.put, List.setIfInBounds_toArray, List.set_cons_zero, List.set_cons_succ]
      refine wpH_one (i := 24) (fuel := 4) (by kernel_rfl) rfl (by rfl) ?_
      go_simp
      go_at_call 32
      refine (by_any [] g _ v _ (Sl.ext0 Ho.out hS6) hl.1 (by simp)).mono ?_
      rintro e w11 ⟨v11, rfl, hO11, hE11⟩
      have hS7 : Ext [] wo w11 := hS6.trans0 hE11
      have Ho11 := Lib.hid hO11.sl
      clear hO11
      refine ⟨hS7, ?_⟩
      refine wpH_one (i := 27) (fuel := 3) (by kernel_rfl) rfl (by rfl) ?_
      go_simp
      go_at_call 33
      refine (rulesOf_any [] g _ v _ (Sl.ext0 Ha.out hS7) hl.1 (by simp)).mono ?_
      rintro e w12 ⟨v12, rfl, hO12, hE12⟩
      have hS8 : Ext [] wo w12 := hS7.trans0 hE12
      have Ho12 := Lib.hid hO12.sl
      have Ho11' := Lib.hid (Sl.ext0 Ho11.out hE12)
      clear hO12
      refine ⟨hS8, ?_⟩
      have hrl : (rulesOf g.rules v 0).length ≤ 100000000 := Nat.le_trans (rulesOf_len g.rules v 0) hl.1
      refine wpH_one (i := 28) (fuel := 2) (by kernel_rfl) rfl (by rfl) ?_
      go_simp
      go_at_call 31
      refine (sameInts_any [] _ _ _ _ _ Ho11'.out Ho12.out hrl hrl).mono ?_
      rintro e w13 ⟨rfl, n13, rfl⟩
      have hS9 : Ext [] wo (w12.drewN n13) := drewN_ext hS8 n13
      refine ⟨hS9, ?_⟩
      simp only [decide_true]
      generalize w12.drewN n13 = w13 at hS9 ⊢
      refine wpH_take (i := 29) (fuel := 1) (v := ?v29) rfl (by kernel_rfl) (fun _ _ _ h => h) (Or.inl ⟨by rfl, ?y29⟩) hS9 ?r29
      case y29 => intro w' hw'; obtain ⟨s0, s1, s2, s3, s4, s5, s6, s7, s8, s9, s10, s11⟩ := HS.out w' hw'; go_simp; try with_reducible rfl
      simp only [Act.put, List.setIfInBounds_toArray, List.set_cons_zero, List.set_cons_succ]
      refine wpH_take (i := 30) (fuel := 0) (v := ?v30) rfl (by kernel_rfl) (fun _ _ _ h => h) (Or.inl ⟨by rfl, ?y30⟩) hS9 ?r30
      case y30 => intro w' hw'; obtain ⟨s0, s1, s2, s3, s4, s5, s6, s7, s8, s9, s10, s11⟩ := HS.out w' hw'; go_simp; try with_reducible rfl
      simp only [Act.put, List.setIfInBounds_toArray, List.set_cons_zero, List.set_cons_succ]
      refine wpAnyH_done (by kernel_rfl) ?_ _
      go_simp
      go_wp2_with fail
      go_loopw [8] (fun iv wr => ∃ k : Nat, iv = .int .i64 k ∧ k ≤ g.rules.length ∧ Ext [] wo wr) (fun iv _ => g.rules.length - (intOf iv).toNat)
      case atStart => exact ⟨0, rfl, Nat.zero_le _, hS9⟩
      case round =>
        obtain ⟨k, rfl, hk, hEr⟩ := hrel
        obtain ⟨s0, s1, s2, s3, s4, s5, s6, s7, s8, s9, s10, s11⟩ := HS.out _ hEr
        have HL1 := Lib.hid hl.1
        have HEr := Lib.hid hEr
        by_cases hlt : k < g.rules.length
        · have Hlt := Lib.hid hlt
          obtain ⟨b1, o1, rfl, _, hbs1, hb1⟩ := Rules.at Ho.out (by omega)
          obtain ⟨b2, o2, rfl, _, hbs2, hb2⟩ := Rules.at Ha.out (by omega)
          obtain ⟨ra1, rc1, c0, c1, hr1⟩ := hb1 k hlt
          obtain ⟨ra2, rc2, d0, d1, hr2⟩ := hb2 k hlt
          have HS' : Hid (∀ w', Ext [] wr w' → w'.cell? ⟨w4.heap.size, 3, none⟩ = some (.slice (some ⟨b1, o1, none⟩) g.rules.length oc) ∧ w'.cell? ⟨w.heap.size, 3, none⟩ = some (.slice (some ⟨b2, o2, none⟩) g.rules.length cap) ∧
              w'.cell? ⟨b1, o1 + k * 2, none⟩ = some (.int .i64 g.rules[k].left) ∧ w'.cell? ⟨b1, o1 + k * 2 + 1, none⟩ = some (.slice ra1 g.rules[k].right.length rc1) ∧ w'.cell? ⟨b2, o2 + k * 2 + 1, none⟩ = some (.slice ra2 g.rules[k].right.length rc2)) := Lib.hid (by
            intro w' hw'
            have hw := hEr.trans0 hw'
            obtain ⟨_, _, _, f3, _, _, _, _, _, _, _, f11⟩ := HS.out w' hw
            exact ⟨f11, f3, (hw.cell (p := ⟨b1, o1 + k * 2, none⟩) hbs1 (by simp)).trans c0, (hw.cell (p := ⟨b1, o1 + k * 2 + 1, none⟩) hbs1 (by simp)).trans c1, (hw.cell (p := ⟨b2, o2 + k * 2 + 1, none⟩) hbs2 (by simp)).trans d1⟩)
          have hrl := hl.2 g.rules[k] (List.getElem_mem hlt)
          have Hr1 := Lib.hid (Sl.ext0 hr1 hEr)
          have Hr2 := Lib.hid (Sl.ext0 hr2 hEr)
          clear hb1 hb2 c0 c1 d0 d1 hr1 hr2 hEr
          generalize g.rules[k] = r at HS' Hr1 Hr2 hrl
          have e0 : (0 : Int) ≤ (k : Int) := by omega
          have e1 : (k : Int) < (g.rules.length : Int) := by omega
          have e2 : g.rules.length ≤ 100000000 := hl.1
          have e3 : IntKind.i64.wrap ((k : Int) + 1) = (k : Int) + 1 := IntWalk.i64_in _ (by omega)
          go_wp2_with fail
          have hT0 : Ext [] wr wr.drew := (Ext.refl [] wr).drew
          refine wp_region_held_drew (S := fun w' => Ext [] wr w') (by kernel_rfl) hT0 fun _ => ?_
          refine wpH_take (i := 0) (fuel := 14) (v := ?u0) rfl (by kernel_rfl) (fun _ _ _ h => h) (Or.inl ⟨by rfl, ?z0⟩) hT0 ?q0
          case z0 => intro w' hw'; obtain ⟨s0, s1, s2, s3, s4⟩ := HS'.out w' hw'; go_simp; try with_reducible rfl
          simp only [Act.put, List.setIfInBounds_toArray, List.set_cons_zero, List.set_cons_succ]
          refine wpH_take (i := 1) (fuel := 13) (v := ?u1) rfl (by kernel_rfl) (fun _ _ _ h => h) (Or.inl ⟨by rfl, ?z1⟩) hT0 ?q1
          case z1 => intro w' hw'; obtain ⟨s0, s1, s2, s3, s4⟩ := HS'.out w' hw'; go_simp; try with_reducible rfl
          simp only [Act.put, List.setIfInBounds_toArray, List.set_cons_zero, List.set_cons_succ]
          refine wpH_take (i := 2) (fuel := 12) (v := ?u2) rfl (by kernel_rfl) (fun _ _ _ h => h) (Or.inl ⟨by rfl, ?z2⟩) hT0 ?q2
          case z2 => intro w' hw'; obtain ⟨s0, s1, s2, s3, s4⟩ := HS'.out w' hw'; go_simp; try with_reducible rfl
          simp only [Act.put, List.setIfInBounds_toArray, List.set_cons_zero, List.set_cons_succ]
          refine wpH_take (i := 3) (fuel := 11) (v := ?u3) rfl (by kernel_rfl) (fun _ _ _ h => h) (Or.inl ⟨by rfl, ?z3⟩) hT0 ?q3
          case z3 => intro w' hw'; obtain ⟨s0, s1, s2, s3, s4⟩ := HS'.out w' hw'; go_simp; try with_reducible rfl
          simp only [Act.put, List.setIfInBounds_toArray, List.set_cons_zero, List.set_cons_succ]
          refine wpH_take (i := 4) (fuel := 10) (v := ?u4) rfl (by kernel_rfl) (fun _ _ _ h => h) (Or.inl ⟨by rfl, ?z4⟩) hT0 ?q4
          case z4 => intro w' hw'; obtain ⟨s0, s1, s2, s3, s4⟩ := HS'.out w' hw'; go_simp; try with_reducible rfl
          simp only [Act.put, List.setIfInBounds_toArray, List.set_cons_zero, List.set_cons_succ]
          refine wpH_take (i := 6) (fuel := 9) (v := ?u6) rfl (by kernel_rfl) (fun _ _ _ h => h) (Or.inl ⟨by rfl, ?z6⟩) hT0 ?q6
          case z6 => intro w' hw'; obtain ⟨s0, s1, s2, s3, s4⟩ := HS'.out w' hw'; go_simp; try with_reducible rfl
          simp only [Act.put, List.setIfInBounds_toArray, List.set_cons_zero, List.set_cons_succ]
          refine wpH_take (i := 7) (fuel := 8) (v := ?u7) rfl (by kernel_rfl) (fun _ _ _ h => h) (Or.inl ⟨by rfl, ?z7⟩) hT0 ?q7
          case z7 => intro w' hw'; obtain ⟨s0, s1, s2, s3, s4⟩ := HS'.out w' hw'; go_simp; try with_reducible rfl
          simp only [Act.put, List.setIfInBounds_toArray, List.set_cons_zero, List.set_cons_succ]
          refine wpH_take (i := 8) (fuel := 7) (v := ?u8) rfl (by kernel_rfl) (fun _ _ _ h => h) (Or.inl ⟨by rfl, ?z8⟩) hT0 ?q8
          case z8 => intro w' hw'; obtain ⟨s0, s1, s2, s3, s4⟩ := HS'.out w' hw'; go_simp; try with_reducible rfl
          simp only [Act.put, List.setIfInBounds_toArray, List.set_cons_zero, List.set_cons_succ]
          refine wpH_take (i := 9) (fuel := 6) (v := ?u9) rfl (by kernel_rfl) (fun _ _ _ h => h) (Or.inl ⟨by rfl, ?z9⟩) hT0 ?q9
          case z9 => intro w' hw'; obtain ⟨s0, s1, s2, s3, s4⟩ := HS'.out w' hw'; go_simp; try with_reducible rfl
          simp only [Act.put, List.setIfInBounds_toArray, List.set_cons_zero, List.set_cons_succ]
          refine wpH_take (i := 10) (fuel := 5) (v := ?u10) rfl (by kernel_rfl) (fun _ _ _ h => h) (Or.inl ⟨by rfl, ?z10⟩) hT0 ?q10
          case z10 => intro w' hw'; obtain ⟨s0, s1, s2, s3, s4⟩ := HS'.out w' hw'; go_simp; try with_reducible rfl
          simp only [Act.put, List.setIfInBounds_toArray, List.set_cons_zero, List.set_cons_succ]
          refine wpH_take (i := 11) (fuel := 4) (v := ?u11) rfl (by kernel_rfl) (fun _ _ _ h => h) (Or.inl ⟨by rfl, ?z11⟩) hT0 ?q11
          case z11 => intro w' hw'; obtain ⟨s0, s1, s2, s3, s4⟩ := HS'.out w' hw'; go_simp; try with_reducible rfl
          simp only [Act.put, List.setIfInBounds_toArray, List.set_cons_zero, List.set_cons_succ]
          refine wpH_one (i := 5) (fuel := 3) (by kernel_rfl) rfl (by rfl) ?_
          go_simp
          go_at_call 34
          refine (kids_any [] r.left _ r.right _ (Sl.ext0 Hr1.out hT0) hrl (by simp)).mono ?_
          rintro e x1 ⟨y1, rfl, hX1, hF1⟩
          have hT1 : Ext [] wr x1 := hT0.trans0 hF1
          have HX1 := Lib.hid hX1.sl
          clear hX1
          refine ⟨hT1, ?_⟩
          refine wpH_one (i := 12) (fuel := 2) (by kernel_rfl) rfl (by rfl) ?_
          go_simp
          go_at_call 35
          refine (kidsOf_any [] _ r.right _ (Sl.ext0 Hr2.out hT1) hrl (by simp)).mono ?_
          rintro e x2 ⟨y2, rfl, hX2, hF2⟩
          have hT2 : Ext [] wr x2 := hT1.trans0 hF2
          have HX1' := Lib.hid (Sl.ext0 HX1.out hF2)
          have HX2 := Lib.hid hX2.sl
          clear hX2
          refine ⟨hT2, ?_⟩
          have hkl : (kids r.right).length ≤ 100000000 := Nat.le_trans (List.length_filter_le _ _) hrl
          refine wpH_one (i := 13) (fuel := 1) (by kernel_rfl) rfl (by rfl) ?_
          go_simp
          go_at_call 31
          refine (sameInts_any [] _ _ _ _ _ HX1'.out HX2.out hkl hkl).mono ?_
          rintro e x3 ⟨rfl, n3, rfl⟩
          have hT3 : Ext [] wr (x2.drewN n3) := drewN_ext hT2 n3
          refine ⟨hT3, ?_⟩
          simp only [decide_true]
          generalize x2.drewN n3 = x3 at hT3 ⊢
          refine wpH_take (i := 14) (fuel := 0) (v := ?u14) rfl (by kernel_rfl) (fun _ _ _ h => h) (Or.inl ⟨by rfl, ?z14⟩) hT3 ?q14
          case z14 => intro w' hw'; obtain ⟨s0, s1, s2, s3, s4⟩ := HS'.out w' hw'; go_simp; try with_reducible rfl
          simp only [Act.put, List.setIfInBounds_toArray, List.set_cons_zero, List.set_cons_succ]
          refine wpAnyH_done (by kernel_rfl) ?_ _
          go_simp
          go_wp2_with fail
          go_roundw
          case rel => have h1 := Hlt.out; have h2 : g.rules.length ≤ 100000000 := hl.1; exact ⟨k + 1, by go_num, by omega, HEr.out.trans0 hT3⟩
          case measure => have h1 := Hlt.out; have h2 : g.rules.length ≤ 100000000 := hl.1; simp [intOf]; omega
        · go_wp2_with fail
          go_at_call 29
          refine (sameGram_any [] g g _ _ _ (Sl.ext0 Ho.out HEr.out) (Sl.ext0 Ha.out HEr.out) hl hl).mono ?_
          rintro e wf ⟨rfl, hEf⟩
          simp only [decide_true]
          go_wp2_with fail
          go_ret
          exact ⟨rfl, (HE.out.trans0 HEr.out).trans0 hEf⟩
end Go.Proofs.Ytpaeihifcmohkaa
