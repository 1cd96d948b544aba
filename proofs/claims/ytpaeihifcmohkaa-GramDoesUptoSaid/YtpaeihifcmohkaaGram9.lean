/-
  gramBegun returns true.
-/
import Derived.Test.YtpaeihifcmohkaaGram8
namespace Go.Proofs.Ytpaeihifcmohkaa
open Go.RowKit

/-- A block known whole reads as a slice of all its elements. -/
theorem Sl.blk {M : List Nat} {W : World} {e sz b n : Nat} {xs : List D} {cs : Array Value} (hr : D.Reps M W xs cs.toList) (hs : ∀ x ∈ xs, x.size = sz) (hb : Blk W b cs e) (hM : b ∉ M) (hn : xs.length = n) (hm : n ≤ maxLen) :
    Sl M W sz (.slice (some ⟨b, 0, none⟩) n n) xs := by
  subst hn
  simp only [Sl, D.Rep]
  refine ⟨_, xs.length, cs.toList, rfl, by simp, hm, hs, hr, fun _ => ⟨b, 0, rfl, hM, hb.lt, fun j hj => ?_⟩⟩
  rw [hb.cell]
  simp
theorem nums3 {M : List Nat} {W : World} {b e : Nat} {x y z : Int} (hb : Blk W b #[.int .i64 x, .int .i64 y, .int .i64 z] e) (hn : b ∉ M) : Nums M W (.slice (some ⟨b, 0, none⟩) 3 3) [x, y, z] :=
  Sl.blk (by simp [nums, D.Reps, D.Rep]) (by simp [nums, D.size]) hb hn rfl (by decide)
theorem nums2 {M : List Nat} {W : World} {b e : Nat} {x y : Int} (hb : Blk W b #[.int .i64 x, .int .i64 y] e) (hn : b ∉ M) : Nums M W (.slice (some ⟨b, 0, none⟩) 2 2) [x, y] :=
  Sl.blk (by simp [nums, D.Reps, D.Rep]) (by simp [nums, D.size]) hb hn rfl (by decide)
theorem rules1 {M : List Nat} {W : World} {b e : Nat} {l : Int} {v : Value} {xs : List Int} (hb : Blk W b #[.int .i64 l, v] e) (hv : Nums M W v xs) (hn : b ∉ M) : Rules M W (.slice (some ⟨b, 0, none⟩) 1 1) [⟨l, xs⟩] :=
  Sl.blk (D.Reps.one (Rule.rep.2 ⟨v, rfl, hv⟩)) (by simp [Rule.d, D.size, D.sizes]) hb hn rfl (by decide)

abbrev gOk : Gram := ⟨2, 1, 0, [⟨0, [1, -1, 1]⟩]⟩
abbrev gBad : Gram := ⟨2, 1, 0, [⟨0, [1, -2, 1]⟩]⟩
theorem gOk_le : gOk.le 100000000 := by simp [Gram.le]
theorem gBad_le : gBad.le 100000000 := by simp [Gram.le]
theorem gOk_f : gramFault gOk = (0, 0) := by kernel_rfl
theorem gBad_f : gramFault gBad = (9, 0) := by kernel_rfl
theorem gOk_ne : decide (gOk = gBad) = false := by decide
theorem gOk_kids : kids [1, -1, 1] = [1, 1] := by decide

theorem run_F0 (c a : Int) (w : World) : (Instr.field 25 (.agg #[.int .i64 c, .int .i64 a]) 0).run Try.prog w = .ok (.int .i64 c) w := by kernel_rfl

set_option maxRecDepth 100000 in
set_option maxHeartbeats 1000000 in
theorem gramBegun_any (w : World) : Calls Try.prog 23 #[] w fun e w' => e = .returned (.bool true) ∧ Ext [] w w' := by
  go_enter Try.func23, Try.ntmps23
  go_wp2_with fail
  have h : ∀ W : World, W = (((((w.alloc (.cells #[.int .i64 1, .int .i64 (-1), .int .i64 1] 3)).alloc (.cells #[.int .i64 0, .slice (some ⟨w.heap.size, 0, none⟩) 3 3] 44)).alloc
      (.cells #[.int .i64 2, .int .i64 1, .int .i64 0, .slice (some ⟨w.heap.size + 1, 0, none⟩) 1 1] 34)).alloc (.cells #[.int .i64 2, .int .i64 1, .int .i64 0, .slice (some ⟨w.heap.size + 1 + 1 + 1 + 1 + 1, 0, none⟩) 1 1] 34)).alloc
      (.cells #[.int .i64 1, .int .i64 (-2), .int .i64 1] 3)).alloc (.cells #[.int .i64 0, .slice (some ⟨w.heap.size + 1 + 1 + 1 + 1, 0, none⟩) 3 3] 44) →
      Ext [] w W ∧ Blk W (w.heap.size + 1 + 1) (GramC gOk (.slice (some ⟨w.heap.size + 1, 0, none⟩) 1 1)) 34 ∧ Blk W (w.heap.size + 1 + 1 + 1) (GramC gBad (.slice (some ⟨w.heap.size + 1 + 1 + 1 + 1 + 1, 0, none⟩) 1 1)) 34 ∧
        Blk W w.heap.size #[.int .i64 1, .int .i64 (-1), .int .i64 1] 3 ∧ Blk W (w.heap.size + 1) #[.int .i64 0, .slice (some ⟨w.heap.size, 0, none⟩) 3 3] 44 ∧
        Blk W (w.heap.size + 1 + 1 + 1 + 1) #[.int .i64 1, .int .i64 (-2), .int .i64 1] 3 ∧ Blk W (w.heap.size + 1 + 1 + 1 + 1 + 1) #[.int .i64 0, .slice (some ⟨w.heap.size + 1 + 1 + 1 + 1, 0, none⟩) 3 3] 44 := by
    rintro W rfl
    refine ⟨((((((Ext.refl [] w).alloc _).alloc _).alloc _).alloc _).alloc _).alloc _, ?_, ?_, ?_, ?_, ?_, ?_⟩
    · exact Blk.alloc (Blk.alloc (Blk.alloc (newBlk _ _ _ _ (by simp)) _) _) _
    · exact Blk.alloc (Blk.alloc (newBlk _ _ _ _ (by simp)) _) _
    · exact Blk.alloc (Blk.alloc (Blk.alloc (Blk.alloc (Blk.alloc (newBlk _ _ _ _ (by simp)) _) _) _) _) _
    · exact Blk.alloc (Blk.alloc (Blk.alloc (Blk.alloc (newBlk _ _ _ _ (by simp)) _) _) _) _
    · exact Blk.alloc (newBlk _ _ _ _ (by simp)) _
    · exact newBlk _ _ _ _ (by simp)
  have h' := h _ rfl
  clear h
  generalize (((((w.alloc (.cells #[.int .i64 1, .int .i64 (-1), .int .i64 1] 3)).alloc (.cells #[.int .i64 0, .slice (some ⟨w.heap.size, 0, none⟩) 3 3] 44)).alloc
      (.cells #[.int .i64 2, .int .i64 1, .int .i64 0, .slice (some ⟨w.heap.size + 1, 0, none⟩) 1 1] 34)).alloc (.cells #[.int .i64 2, .int .i64 1, .int .i64 0, .slice (some ⟨w.heap.size + 1 + 1 + 1 + 1 + 1, 0, none⟩) 1 1] 34)).alloc
      (.cells #[.int .i64 1, .int .i64 (-2), .int .i64 1] 3)).alloc (.cells #[.int .i64 0, .slice (some ⟨w.heap.size + 1 + 1 + 1 + 1, 0, none⟩) 3 3] 44) = W at h' ⊢
  obtain ⟨hE, hB1, hB2, n1, r1, n2, r2⟩ := h'
  have R1 := Lib.hid (rules1 (M := []) r1 (nums3 n1 (by simp)) (by simp))
  have R2 := Lib.hid (rules1 (M := []) r2 (nums3 n2 (by simp)) (by simp))
  have N1 := Lib.hid (nums3 (M := []) n1 (by simp))
  have HE := Lib.hid hE
  have HB1 := Lib.hid hB1
  have HB2 := Lib.hid hB2
  have HR1 := Lib.hid r1
  clear hE hB1 hB2 n1 r1 n2 r2
  go_at_call 26
  refine (check_any [] gOk _ W R1.out gOk_le).mono ?_
  rintro e w1 ⟨rfl, hE1⟩
  rw [gOk_f]
  simp only
  obtain ⟨p0, p1, p2, p3⟩ := GramC.cells (HB1.out.ext hE1 (by simp))
  obtain ⟨q0, q1, q2, q3⟩ := GramC.cells (HB2.out.ext hE1 (by simp))
  have HE1 := Lib.hid hE1
  clear hE1
  go_wp2_with fail
  simp only [run_F0]
  go_wp2_with fail
  go_at_call 26
  refine (check_any [] gBad _ w1 (Sl.ext0 R2.out HE1.out) gBad_le).mono ?_
  rintro e w2 ⟨rfl, hE2⟩
  rw [gBad_f]
  simp only
  obtain ⟨p0, p1, p2, p3⟩ := GramC.cells ((HB1.out.ext HE1.out (by simp)).ext hE2 (by simp))
  obtain ⟨q0, q1, q2, q3⟩ := GramC.cells ((HB2.out.ext HE1.out (by simp)).ext hE2 (by simp))
  have HE2 := Lib.hid (HE1.out.trans0 hE2)
  clear hE2
  go_wp2_with fail
  go_at_call 28
  refine (same_any gOk gBad _ _ w2 (Sl.ext0 R1.out HE2.out) (Sl.ext0 R2.out HE2.out) gOk_le gBad_le).mono ?_
  rintro e w3 ⟨rfl, hE3⟩
  rw [gOk_ne]
  simp only
  have HE3 := Lib.hid (HE2.out.trans0 hE3)
  clear hE3 p0 p1 p2 p3 q0 q1 q2 q3
  obtain ⟨p0, p1, p2, p3⟩ := GramC.cells (HB1.out.ext HE3.out (by simp))
  have hr0 : w3.cell? ⟨w.heap.size + 1, 0, none⟩ = some (.int .i64 0) := ((HR1.out.ext HE3.out (by simp)).cell 0).trans (by simp)
  have hr1 : w3.cell? ⟨w.heap.size + 1, 1, none⟩ = some (.slice (some ⟨w.heap.size, 0, none⟩) 3 3) := ((HR1.out.ext HE3.out (by simp)).cell 1).trans (by simp)
  go_wp2_with fail
  go_at_call 34
  refine (kids_any [] 0 _ [1, -1, 1] w3 (Sl.ext0 N1.out HE3.out) (by simp) (by simp)).mono ?_
  rintro e w4 ⟨v4, rfl, hO4, hE4⟩
  rw [gOk_kids] at hO4
  have HO4 := Lib.hid hO4
  have HE4 := Lib.hid (HE3.out.trans0 hE4)
  clear hO4 hE4
  go_wp2_with fail
  go_at_call 31
  refine (sameInts_any [] v4 _ [1, 1] [1, 1] _ (Sl.ext0 HO4.out.sl (Ext.new _ _)) (nums2 (Blk.new _ _ _) (by simp)) (by simp) (by simp)).mono ?_
  rintro e w5 ⟨rfl, n5, rfl⟩
  simp only [decide_true]
  have HE5 : Hid (Ext [] w _) := Lib.hid (drewN_ext (HE.out.trans0 (HE4.out.alloc (.cells #[.int .i64 1, .int .i64 1] 3))) n5)
  go_wp2_with fail
  go_ret
  exact ⟨rfl, HE5.out⟩
end Go.Proofs.Ytpaeihifcmohkaa
