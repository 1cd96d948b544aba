/-
  Tokens: all tokens of a text: token.Scan and the reference's Scan, both are scanR.
-/
import Derived.Test.YtkfeccbahpmadaaTok4
import Derived.RegionTactic
import Derived.ChangeAlike
set_option linter.unusedVariables false
set_option linter.unusedSimpArgs false
set_option linter.unusedSectionVars false
namespace Go.Proofs.Ytkfeccbahpmadaa.Old
open Go.RowKit

/-- All tokens from a place on that is no blank (n: so many rounds at most), behind those that are there. -/
def scanG : Nat → ByteArray → Nat → List Tk → List Tk × Int × Int
  | 0, _, _, _ => ([], 0, 0)
  | n + 1, s, k, acc =>
    if k < s.size then
      match stp s k with
      | .tok t j => scanG n s (skp s j false) (acc ++ [t])
      | .bad c => ([], c, k)
    else (acc, 0, 0)
def scanR (s : ByteArray) : List Tk × Int × Int := if 6000 < s.size then ([], 6, 6000) else scanG (s.size + 1) s (skp s 0 false) []

theorem scanG_tok {n : Nat} {s : ByteArray} {k j : Nat} {t : Tk} {acc : List Tk} (h : k < s.size) (ht : stp s k = .tok t j) : scanG (n + 1) s k acc = scanG n s (skp s j false) (acc ++ [t]) := by
  rw [scanG, if_pos h, ht]
theorem scanG_bad {n : Nat} {s : ByteArray} {k : Nat} {c : Int} {acc : List Tk} (h : k < s.size) (ht : stp s k = .bad c) : scanG (n + 1) s k acc = ([], c, (k : Int)) := by
  rw [scanG, if_pos h, ht]
theorem scanG_end {n : Nat} {s : ByteArray} {k : Nat} {acc : List Tk} (h : ¬ k < s.size) : scanG (n + 1) s k acc = (acc, 0, 0) := by
  rw [scanG, if_neg h]

theorem skp_ge (s : ByteArray) (i : Nat) (r : Bool) : i ≤ skp s i r := by
  fun_induction skp s i r <;> omega
theorem skp_le (s : ByteArray) (i : Nat) (r : Bool) (h : i ≤ s.size) : skp s i r ≤ s.size := by
  fun_induction skp s i r with
  | case1 i r hi hc ih => exact ih (by omega)
  | case2 i r hi hc h2 ih => exact ih (by omega)
  | case3 i r hi hc h2 h3 ih => exact ih (by omega)
  | case4 i r hi hc h2 h3 => exact h
  | case5 i r hi => exact h
theorem stp_gt {s : ByteArray} {k j : Nat} {t : Tk} (h : k < s.size) (ht : stp s k = .tok t j) : k < j ∧ j ≤ s.size := by
  unfold stp at ht
  split at ht
  · rename_i hl
    split at ht
    · simp only [St.tok.injEq] at ht
      have h1 : run wordP s k = run wordP s (k + 1) := run_yes h (by simp [wordP, hl])
      have h2 := run_ge wordP s (k + 1)
      have h3 := run_le wordP s k (by omega)
      omega
    · cases ht
  · split at ht
    · split at ht
      · cases ht
      · rename_i hb
        simp only [St.tok.injEq] at ht
        have h2 := run_ge quoteP s (k + 1)
        have h3 := run_le quoteP s (k + 1) (by omega)
        have h4 : run quoteP s (k + 1) ≠ s.size := fun h => hb (Or.inl h)
        omega
    · split at ht
      · simp only [St.tok.injEq] at ht
        omega
      · cases ht

theorem stp_bad {s : ByteArray} {k : Nat} {c : Int} (ht : stp s k = .bad c) : c = 1 ∨ c = 2 := by
  unfold stp at ht
  repeat' split at ht
  all_goals first | cases ht; done | (simp only [St.bad.injEq] at ht; omega)

def ScanPost (w : World) (s : ByteArray) (e : Ending) (w' : World) : Prop :=
  ∃ v, e = .returned (.tuple #[v, .agg #[.int .i64 (scanR s).2.1, .int .i64 (scanR s).2.2]]) ∧ Own w.heap.size [] w' 217 3 v ((scanR s).1.map Tk.d) ∧ Ext [] w w'

set_option maxRecDepth 100000 in
theorem scanTok_any (s : ByteArray) (w : World) (hs : s.size ≤ maxLen) : Calls Try.prog 101 #[.string s] w (ScanPost w s) := by
  unfold maxLen at hs
  by_cases hbig : 6000 < s.size
  · have Hr : Hid (scanR s = ([], 6, 6000)) := Lib.hid (by unfold scanR; rw [if_pos hbig])
    go_enter Try.func101, Try.ntmps101
    go_wp2_with fail
    refine bodyPost_ret (v := .tuple #[.slice none 0 0, .agg #[.int .i64 6, .int .i64 6000]]) (by simp [results, Try.results101, go_sem]) rfl ?_
    refine ⟨_, by rw [Hr.out], by rw [Hr.out]; exact Own.nil _ _ _ _ _ _, (Ext.refl _ _).alloc _⟩
  · have hR : scanR s = scanG (s.size + 1) s (skp s 0 false) [] := by unfold scanR; rw [if_neg hbig]
    have HR := Lib.hid hR
    have hs6 : s.size ≤ 6000 := by omega
    clear hR hbig
    go_enter Try.func101, Try.ntmps101
    go_wp2_with fail
    have hb0 : Scn ((w.alloc (.cells #[.int .i64 0, .int .i64 0] 33)).alloc (.cells #[.string s, .int .i64 0, .slice none 0 0, .int .i64 0, .int .i64 0] 215)) (w.heap.size + 1) s 0 (.slice none 0 0) 0 0 :=
      newBlk _ _ _ _ (by simp)
    refine (blank_any _ (w.heap.size + 1) s 0 (.slice none 0 0) 0 0 (by exact hb0) (Nat.zero_le _) (by unfold maxLen; omega)).mono ?_
    rintro e w1 ⟨rfl, hS1, hE1⟩
    have hF1 : FltB w1 w.heap.size 0 0 := Blk.ext (Blk.alloc (Blk.new w _ _) _) hE1 (by simp)
    have hE0 : Ext [] w w1 := (((Ext.refl [] w).alloc _).alloc _).trans hE1 (by simp)
    clear hb0 hE1
    go_wp2_with fail
    go_loopw [] (fun wr => ∃ (k : Nat) (v : Value) (acc : List Tk) (n : Nat), k ≤ s.size ∧ Scn wr (w.heap.size + 1) s k v 0 0 ∧ FltB wr w.heap.size 0 0 ∧ Own (w.heap.size + 2) [w.heap.size + 1] wr 217 3 v (acc.map Tk.d) ∧ Ext [] w wr ∧
        acc.length ≤ k ∧ s.size < n + k ∧ scanG n s k acc = scanR s ∧ w.heap.size + 2 ≤ wr.heap.size) (fun wr => s.size - (intOf ((wr.cell? ⟨w.heap.size + 1, 1, none⟩).getD undef)).toNat)
    case atStart => exact ⟨skp s 0 false, _, [], s.size + 1, skp_le s 0 false (Nat.zero_le _), hS1, hF1, Own.nil _ _ _ _ _ _, hE0, Nat.zero_le _, by omega, HR.out.symm, by have := hS1.lt; omega⟩
    case round =>
      obtain ⟨k, v, acc, n, hk, hS, hF, hO, hE, hacc, hn, hG, hsz⟩ := hrel
      obtain ⟨g0, g1, g2, g3, g4, gf⟩ := hS.cells
      obtain ⟨f0, f1, ff⟩ := hF.cells
      have HS := Lib.hid hS
      have HF := Lib.hid hF
      have HO := Lib.hid hO
      have HE := Lib.hid hE
      have HG := Lib.hid hG
      have H1 := Lib.hid g1
      have HFo : Hid (w.heap.size ∉ (w.heap.size + 1) :: ob v) := Lib.hid (by
        intro hx
        rcases List.mem_cons.1 hx with hx | hx
        · omega
        · have := (hO.block _ hx).1; omega)
      have HEx : Hid (∀ x ∈ (w.heap.size + 1) :: ob v, x < w.heap.size → x ∈ ([] : List Nat)) := Lib.hid (by
        intro x hx hl
        rcases List.mem_cons.1 hx with hx | hx
        · omega
        · have := (hO.block _ hx).1; omega)
      clear hS hF hO hE hG hS1 hF1 hE0
      obtain ⟨n, rfl⟩ : ∃ m, n = m + 1 := ⟨n - 1, by omega⟩
      by_cases hlt : k < s.size
      · go_wp2_with fail
        refine (token_any (w.heap.size + 2) wr (w.heap.size + 1) s k v acc HS.out HO.out hsz hlt (by unfold maxLen; omega) (by omega)).mono ?_
        rintro e w2 ⟨rfl, hP⟩
        cases hst : stp s k with
        | tok t j =>
          rw [hst] at hP
          obtain ⟨v2, hS2, hO2, hE2⟩ := hP
          obtain ⟨hj1, hj2⟩ := stp_gt hlt hst
          obtain ⟨p0, p1, p2, p3, p4, pf⟩ := hS2.cells
          have HS2 := Lib.hid hS2
          have HO2 := Lib.hid hO2
          have HE2 := Lib.hid (HE.out.trans hE2 HEx.out)
          have HF2 : Hid (FltB w2 w.heap.size 0 0) := Lib.hid (Blk.ext HF.out hE2 HFo.out)
          have Hsz2 := Lib.hid (Nat.le_trans hsz hE2.size)
          have HG2 := Lib.hid ((scanG_tok hlt hst).symm.trans HG.out)
          clear hst hS2 hO2 hE2 g0 g1 g2 g3 g4 gf f0 f1 ff
          go_wp2_with (go_at_call 159; refine (blank_any _ (w.heap.size + 1) s j v2 0 0 (by exact HS2.out) hj2 (by unfold maxLen; omega)).mono ?_; rintro e w3 ⟨rfl, hS3, hE3⟩)
          have hge := skp_ge s j false
          have hle := skp_le s j false hj2
          go_roundw
          case rel =>
            exact ⟨skp s j false, v2, acc ++ [t], n, hle, hS3, Blk.ext HF2.out hE3 (by simp), HO2.out.ext hE3 (by simp), HE2.out.trans hE3 (by simp), by simp; omega, by omega, HG2.out, Nat.le_trans Hsz2.out hE3.size⟩
          case measure =>
            rw [hS3.cells.2.1, H1.out]
            simp [intOf]
            omega
        | bad c =>
          rw [hst] at hP
          obtain ⟨j, v2, hS2, hE2⟩ := hP
          obtain ⟨p0, p1, p2, p3, p4, pf⟩ := hS2.cells
          have hF2 : FltB w2 w.heap.size 0 0 := Blk.ext HF.out hE2 HFo.out
          obtain ⟨q0, q1, qf⟩ := hF2.cells
          have HE2 := Lib.hid (HE.out.trans hE2 HEx.out)
          have HG2 := Lib.hid ((scanG_bad hlt hst).symm.trans HG.out)
          have hc := stp_bad hst
          have hc0 : (c != 0) = true := by rw [bne_iff_ne]; omega
          clear hst hS2 hF2 hE2 g0 g1 g2 g3 g4 gf f0 f1 ff hc
          go_wp2_with fail
          go_region
          go_wp2_with fail
          refine bodyPost_ret (v := .tuple #[.slice none 0 0, .agg #[.int .i64 c, .int .i64 k]]) (by simp [results, Try.results101, go_sem, q0, q1, qf]) rfl ?_
          refine ⟨_, by rw [← HG2.out], by rw [← HG2.out]; exact Own.nil _ _ _ _ _ _, ?_⟩
          exact ((HE2.out.drew).setCell (Or.inl (Nat.le_refl _)) _).setCell (Or.inl (Nat.le_refl _)) _
      · have HG2 := Lib.hid ((scanG_end hlt).symm.trans HG.out)
        go_wp2_with fail
        refine bodyPost_ret (v := .tuple #[v, .agg #[.int .i64 0, .int .i64 0]]) (by simp [results, Try.results101, go_sem, f0, f1, ff]) rfl ?_
        refine ⟨_, by rw [← HG2.out], ?_, ?_⟩
        · rw [← HG2.out]
          have hO' : Own (w.heap.size + 2) [w.heap.size] wr 217 3 v (acc.map Tk.d) := HO.out.flat (D.flats_map _ (fun t => rfl) _) (fun k hk hx => by have := (HO.out.block _ hx).1; simp at hk; omega)
          exact ((hO'.ext (Ext.store _ w.heap.size 0 _) (by simp)).ext (Ext.store _ w.heap.size 1 _) (by simp)).bar (by simp) (by omega)
        · exact (HE.out.setCell (Or.inl (Nat.le_refl _)) _).setCell (Or.inl (Nat.le_refl _)) _
end Go.Proofs.Ytkfeccbahpmadaa.Old
