/-
  Tokens: SameTokens at one list, and the law's own first look (tokenBegun).
-/
import Derived.Test.YtpaeihifcmohkaaTok6
namespace Go.Proofs.Ytpaeihifcmohkaa
open Go.RowKit

theorem Tk.at {M : List Nat} {w : World} {a : Option Addr} {n cap : Nat} {ts : List Tk} (h : Sl M w 3 (.slice a n cap) (ts.map Tk.d)) (hne : 0 < n) :
    ∃ b off, a = some ⟨b, off, none⟩ ∧ b ∉ M ∧ b < w.heap.size ∧ ∀ i (hi : i < ts.length), w.cell? ⟨b, off + i * 3, none⟩ = some (.int .i64 ts[i].kind) ∧ w.cell? ⟨b, off + i * 3 + 1, none⟩ = some (.int .i64 ts[i].at_) ∧ w.cell? ⟨b, off + i * 3 + 2, none⟩ = some (.string ts[i].text) := by
  obtain ⟨b, off, h1, h2, h3, h4⟩ := h.at hne
  refine ⟨b, off, h1, h2, h3, fun i hi => ?_⟩
  obtain ⟨c, g1, _, g3⟩ := h4 i (by simpa using hi)
  simp only [List.getElem_map] at g1
  have hc : c = [.int .i64 ts[i].kind, .int .i64 ts[i].at_, .string ts[i].text] := by
    simp only [Tk.d, D.Rep, D.Reps] at g1
    obtain ⟨c1, r1, rfl, rfl, c2, r2, rfl, rfl, c3, r3, rfl, rfl, rfl⟩ := g1
    rfl
  subst hc
  exact ⟨by simpa using g3 0 (by omega), by simpa [Nat.add_assoc] using g3 1 (by omega), by simpa [Nat.add_assoc] using g3 2 (by omega)⟩

set_option maxRecDepth 100000 in
theorem sameTokens_same (M : List Nat) (u v : Value) (ts : List Tk) (w : World) (hu : Sl M w 3 u (ts.map Tk.d)) (hv : Sl M w 3 v (ts.map Tk.d)) (hl : ts.length ≤ 1000000) :
    Calls Try.prog 18 #[u, v] w fun e w' => e = .returned (.bool true) ∧ ∃ n, w' = w.drewN n := by
  obtain ⟨a, cap, rfl, hc, hcm⟩ := hu.shape
  obtain ⟨a', cap', rfl, hc', hcm'⟩ := hv.shape
  simp only [List.length_map] at hc hc' ⊢
  go_enter Try.func18, Try.ntmps18
  go_wp2_with fail
  go_loopw [5] (fun iv wr => ∃ (k n : Nat), iv = .int .i64 k ∧ k ≤ ts.length ∧ wr = w.drewN n) (fun iv _ => ts.length - (intOf iv).toNat)
  case atStart => exact ⟨0, 0, rfl, Nat.zero_le _, rfl⟩
  case round =>
    obtain ⟨k, n, rfl, hk, rfl⟩ := hrel
    by_cases hlt : k < ts.length
    · obtain ⟨b, off, rfl, _, _, hb⟩ := Tk.at hu (by simp; omega)
      obtain ⟨b', off', rfl, _, _, hb'⟩ := Tk.at hv (by simp; omega)
      obtain ⟨c0, c1, c2⟩ := hb k hlt
      obtain ⟨d0, d1, d2⟩ := hb' k hlt
      generalize ts[k] = t at *
      obtain ⟨x, y, z⟩ := t
      simp only at c0 c1 c2 d0 d1 d2
      clear hb hb' hu hv
      have e0 : (0 : Int) ≤ (k : Int) := by omega
      have e1 : (k : Int) < (ts.length : Int) := by omega
      go_wp2_with fail
      go_quiet (fail)
      go_wp2_with fail
      go_roundw
      case rel => exact ⟨k + 1, _, by go_num, by omega, rfl⟩
      case measure => simp [intOf]; omega
    · go_wp2_with fail
      go_ret
      exact ⟨rfl, _, rfl⟩

def src0 : ByteArray := ⟨#[83, 32, 61, 32, 34, 97, 34, 32, 35, 32, 120]⟩
theorem scan_src0 : scanR src0 = ([⟨1, 0, ⟨#[83]⟩⟩, ⟨3, 2, ⟨#[61]⟩⟩, ⟨2, 4, ⟨#[97]⟩⟩], 0, 0) := by kernel_rfl

def Scan0Post (w : World) (e : Ending) (w' : World) : Prop :=
  ∃ g cap, e = .returned (.tuple #[.slice (some ⟨g, 0, none⟩) 3 cap, .agg #[.int .i64 0, .int .i64 0]]) ∧ Ext [] w w' ∧ w'.cell? ⟨g, 7, none⟩ = some (.int .i64 4) ∧ w'.cell? ⟨g, 8, none⟩ = some (.string ⟨#[97]⟩) ∧ g < w'.heap.size
theorem scan0_any (w : World) : Calls Try.prog 16 #[.string ⟨#[83, 32, 61, 32, 34, 97, 34, 32, 35, 32, 120]⟩] w (Scan0Post w) := by
  refine (scanTok_any src0 w (by decide)).mono ?_
  rintro e w' ⟨v, he, hO, hE⟩
  rw [scan_src0] at he hO
  obtain ⟨a, cap, rfl, _, _⟩ := hO.shape
  obtain ⟨b, off, rfl, _, hlt, hc⟩ := Tk.at hO.sl (by simp)
  have hoff : off = 0 := by
    obtain ⟨_, ⟨a, h, _⟩ | ⟨g, cap, cur, es, h, _⟩⟩ := hO
    · simp at h
    · simp at h
      exact h.1.2
  subst hoff
  obtain ⟨h0, h1, h2⟩ := hc 2 (by simp)
  exact ⟨b, cap, he, hE, by simpa using h1, by simpa using h2, hlt⟩

set_option maxRecDepth 100000 in
theorem tokenBegun_any (w : World) : Calls Try.prog 15 #[] w fun e w' => e = .returned (.bool true) ∧ Ext [] w w' := by
  have n1 : nameB ⟨#[83, 49]⟩ = true := by kernel_rfl
  have n2 : nameB ⟨#[49]⟩ = false := by kernel_rfl
  have n3 : termB ⟨#[43, 32, 45]⟩ = true := by kernel_rfl
  go_enter Try.func15, Try.ntmps15
  go_wp2_with fail
  refine (scan0_any w).mono ?_
  rintro e w1 ⟨g, cap, rfl, hE, c7, c8, hg⟩
  have HE := Lib.hid hE
  clear hE
  go_wp2_with (first | (go_at_call 19; refine (nameTok_any _ _ (by decide)).mono ?_; rintro e w' ⟨rfl, rfl⟩) | (go_at_call 21; refine (termTok_any _ _ (by decide)).mono ?_; rintro e w' ⟨rfl, rfl⟩))
  go_ret
  exact ⟨rfl, HE.out.alloc _⟩

theorem scanG_len (n : Nat) : ∀ (s : ByteArray) (k : Nat) (acc : List Tk), acc.length ≤ k → k ≤ s.size → (scanG n s k acc).1.length ≤ s.size := by
  induction n with
  | zero => intro s k acc _ _; simp [scanG]
  | succ n ih =>
    intro s k acc h1 h2
    by_cases hk : k < s.size
    · cases hst : stp s k with
      | tok t j =>
        rw [scanG_tok hk hst]
        obtain ⟨g1, g2⟩ := stp_gt hk hst
        have g3 := skp_ge s j false
        exact ih _ _ _ (by simp; omega) (skp_le s j false g2)
      | bad c => rw [scanG_bad hk hst]; simp
    · rw [scanG_end hk]; simp; omega
theorem scanR_len (s : ByteArray) : (scanR s).1.length ≤ 6000 := by
  unfold scanR
  split
  · simp
  · have := scanG_len (s.size + 1) s (skp s 0 false) [] (Nat.zero_le _) (skp_le s 0 false (Nat.zero_le _))
    omega

set_option maxRecDepth 100000 in
theorem tokenScans_any (s : ByteArray) (w : World) (hs : s.size ≤ maxLen) : Calls Try.prog 3 #[.string s] w fun e w' => e = .returned (.bool true) ∧ Ext [] w w' := by
  have Hs := Lib.hid hs
  unfold maxLen at hs
  by_cases hbig : 20000 < s.size
  · go_enter Try.func3, Try.ntmps3
    go_wp2_with (go_at_call 15; refine (tokenBegun_any _).mono ?_; rintro e w1 ⟨rfl, hE1⟩)
    go_ret
    exact ⟨rfl, hE1⟩
  · go_enter Try.func3, Try.ntmps3
    go_wp2_with (go_at_call 15; refine (tokenBegun_any _).mono ?_; rintro e w1 ⟨rfl, hE1⟩)
    obtain ⟨⟨ts, c, a⟩, hR⟩ : ∃ R, scanR s = R := ⟨_, rfl⟩
    have Hl := Lib.hid (show ts.length ≤ 6000 by have := scanR_len s; rw [hR] at this; exact this)
    have HR := Lib.hid hR
    clear hR
    refine (scanTok_any s _ Hs.out).mono ?_
    rintro e w2 ⟨v, he, hO2, hE2⟩
    rw [HR.out] at he hO2
    subst he
    have HSl2 := Lib.hid hO2.sl
    have HE2 := Lib.hid (hE1.trans hE2 (by simp))
    clear hO2 hE2 hE1
    go_wp2_with fail
    refine (scanRef_any s _ Hs.out).mono ?_
    rintro e w3 ⟨v', he, hO3, hE3⟩
    rw [HR.out] at he hO3
    subst he
    have hF3 : FltB w3 w2.heap.size c a := Blk.ext (Blk.new w2 _ _) hE3 (by simp)
    obtain ⟨f0, f1, ff⟩ := hF3.cells
    have hlt3 := hF3.lt
    have HSl3 := Lib.hid hO3.sl
    have HSl2' := Lib.hid (Sl.ext0 HSl2.out ((Ext.new w2 _).trans hE3 (by simp)))
    have HE3 := Lib.hid ((HE2.out.alloc _).trans hE3 (by simp))
    clear hO3 hE3 hF3
    go_wp2_with (first | (go_at_call 18; refine (sameTokens_same [] v v' ts _ (Sl.ext0 HSl2'.out (Ext.new w3 _)) (Sl.ext0 HSl3.out (Ext.new w3 _)) (by have := Hl.out; omega)).mono ?_; rintro e w4 ⟨rfl, n4, rfl⟩) | (go_at_call 19; refine (nameTok_any _ _ Hs.out).mono ?_; rintro e w' ⟨rfl, rfl⟩) | (go_at_call 20; refine (isName_any _ _ Hs.out).mono ?_; rintro e w' ⟨rfl, rfl⟩) | (go_at_call 21; refine (termTok_any _ _ Hs.out).mono ?_; rintro e w' ⟨rfl, rfl⟩) | (go_at_call 22; refine (isTerm_any _ _ Hs.out).mono ?_; rintro e w' ⟨rfl, rfl⟩))
    go_ret
    exact ⟨rfl, drewN_ext (HE3.out.alloc _) _⟩
end Go.Proofs.Ytpaeihifcmohkaa
