/-
  Tokens: the scanner's step over one token (token.token).
-/
import Derived.Test.YtkfeccbahpmadaaTok3
import Derived.Deep.RegionLaw
set_option linter.unusedVariables false
set_option linter.unusedSimpArgs false
set_option linter.unusedSectionVars false
namespace Go.Proofs.Ytkfeccbahpmadaa.Old
open Go.RowKit

/-- A token. -/
structure Tk where
  kind : Int
  at_ : Nat
  text : ByteArray
def Tk.d (t : Tk) : D := .agg [.int .i64 t.kind, .int .i64 t.at_, .str t.text]
theorem Tk.size (t : Tk) : t.d.size = 3 := rfl
theorem Tk.rep (M : List Nat) (w : World) (t : Tk) : t.d.Rep M w [.int .i64 t.kind, .int .i64 t.at_, .string t.text] := by
  simp [Tk.d, D.Rep, D.Reps]

/-- What stands at a place: a token and where it ends, or a fault. -/
inductive St where
  | tok (t : Tk) (j : Nat)
  | bad (code : Int)
def stp (s : ByteArray) (k : Nat) : St :=
  if isLet (bt s k) = true then
    (if nameB (s.extract k (run wordP s k)) = true then .tok ⟨1, k, s.extract k (run wordP s k)⟩ (run wordP s k) else .bad 2)
  else if bt s k = 34 then
    (if run quoteP s (k + 1) = s.size ∨ bt s (run quoteP s (k + 1)) ≠ 34 ∨ termB (s.extract (k + 1) (run quoteP s (k + 1))) = false then .bad 1
     else .tok ⟨2, k, s.extract (k + 1) (run quoteP s (k + 1))⟩ (run quoteP s (k + 1) + 1))
  else if isSgn (bt s k) = true then .tok ⟨3, k, s.extract k (k + 1)⟩ (k + 1)
  else .bad 1

def StPost (B : Nat) (w : World) (b : Nat) (s : ByteArray) (k : Nat) (v : Value) (ts : List Tk) (w' : World) : St → Prop
  | .tok t j => ∃ v', Scn w' b s j v' 0 0 ∧ Own B [b] w' 217 3 v' ((ts ++ [t]).map Tk.d) ∧ Ext (b :: ob v) w w'
  | .bad code => ∃ j v', Scn w' b s j v' code k ∧ Ext (b :: ob v) w w'

theorem Try.infoTok : (Try.prog.info? 217).map (fun i => (i.zero, i.size, i.bytes)) = some (some (.agg #[.int .i64 0, .int .i64 0, .string ⟨#[]⟩]), 3, 32) := by kernel_rfl

theorem wpList_app_tok {w W : World} {ops : Array Oper} {rest : List Oper} {o : Oper} {a : Act} {Q : Exit → Act → World → Prop} (hgd : o.guard = none) (s x : Operand)
    (ho : o.op = .call { callee := .builtin .append, args := #[s, x], argTypes := #[131, 131] })
    (B : Nat) (M : List Nat) (v : Value) (ts : List Tk) (t : Tk) (nb : Nat) (hs : a.eval s = v) (hy : a.eval x = .slice (some ⟨nb, 0, none⟩) 1 1) (hE : Ext [] w W) (hb : Blk W nb #[.int .i64 t.kind, .int .i64 t.at_, .string t.text] 217) (hnb : w.heap.size ≤ nb)
    (hown : Own B M w 217 3 v (ts.map Tk.d)) (hM : ∀ k ∈ M, k < w.heap.size) (hn : ts.length ≤ 1000000000) (hB : B ≤ w.heap.size)
    (h : ∀ a' n' c' w', Own B M w' 217 3 (.slice a' n' c') ((ts ++ [t]).map Tk.d) → Ext (ob v) w w' → wpList Try.prog ops Q rest (a.put o.dst (.slice a' n' c')) w') :
    wpList Try.prog ops Q (o :: rest) a W := by
  refine wpList_append1 hgd s x 131 ho B M 217 3 32 _ Try.underlying131 Try.infoTok rfl (by decide) v (ts.map Tk.d) t.d _ nb hs hy hE hb hnb hown (Tk.rep _ _ t) rfl hM (by simp; omega) (by decide) hB ?_
  intro a' n' c' w' _ h1 h2
  exact h a' n' c' w' (by simpa using h1) h2

theorem step_app_tok {w W : World} {ops : Array Oper} {o : Oper} {a : Act} {K : Act → World → Prop} {Q : Exit → Act → World → Prop} {E : Prop} (hgd : o.guard = none) (s x : Operand)
    (ho : o.op = .call { callee := .builtin .append, args := #[s, x], argTypes := #[131, 131] })
    (B : Nat) (M : List Nat) (v : Value) (ts : List Tk) (t : Tk) (nb : Nat) (hs : a.eval s = v) (hy : a.eval x = .slice (some ⟨nb, 0, none⟩) 1 1) (hE : Ext [] w W) (hb : Blk W nb #[.int .i64 t.kind, .int .i64 t.at_, .string t.text] 217) (hnb : w.heap.size ≤ nb)
    (hown : Own B M w 217 3 v (ts.map Tk.d)) (hM : ∀ k ∈ M, k < w.heap.size) (hn : ts.length ≤ 1000000000) (hB : B ≤ w.heap.size)
    (h : ∀ a' n' c' w', Own B M w' 217 3 (.slice a' n' c') ((ts ++ [t]).map Tk.d) → Ext (ob v) w w' → K (a.put o.dst (.slice a' n' c')) w') :
    if Region.wanted o (yielded ops a.tmps) = true then o.wp Try.prog a W K Q else E := by
  refine step_append1 hgd s x 131 ho B M 217 3 32 _ Try.underlying131 Try.infoTok rfl (by decide) v (ts.map Tk.d) t.d _ nb hs hy hE hb hnb hown (Tk.rep _ _ t) rfl hM (by simp; omega) (by decide) hB ?_
  intro a' n' c' w' _ h1 h2
  exact h a' n' c' w' (by simpa using h1) h2

theorem ext_ob {B : Nat} {b : Nat} {w : World} {e sz : Nat} {v : Value} {xs : List D} (h : Own B [b] w e sz v xs) : b ∉ ob v := fun hx => (h.block b hx).2.2 (by simp)
theorem extract_le (s : ByteArray) (i j : Nat) (hs : s.size ≤ maxLen) : (s.extract i j).size ≤ maxLen := by
  rw [ByteArray.size_extract]; omega

set_option maxRecDepth 100000 in
theorem token_let (B : Nat) (w : World) (b : Nat) (s : ByteArray) (k : Nat) (v : Value) (ts : List Tk) (h : Scn w b s k v 0 0) (hown : Own B [b] w 217 3 v (ts.map Tk.d)) (hB : B ≤ w.heap.size) (hk : k < s.size) (hs : s.size ≤ maxLen) (hn : ts.length ≤ 6000)
    (hl : isLet (bt s k) = true) :
    Calls Try.prog 160 #[.pointer (some ⟨b, 0, none⟩)] w fun e w' => e = .returned (.tuple #[]) ∧ StPost B w b s k v ts w' (stp s k) := by
  have Hx := Lib.hid (extract_le s k (run wordP s k) hs)
  unfold maxLen at hs
  obtain ⟨h0, h1, h2, h3, h4, hf⟩ := h.cells
  have hl' : isLet (s[k].toNat : Int) = true := by rw [← bt_eq s k hk]; exact hl
  have H := Lib.hid h
  have Hown := Lib.hid hown
  have Hb := Lib.hid (ext_ob hown)
  have Hlt := Lib.hid h.lt
  have Hstp : Hid (stp s k = if nameB (s.extract k (run wordP s k)) = true then .tok ⟨1, k, s.extract k (run wordP s k)⟩ (run wordP s k) else .bad 2) := Lib.hid (by unfold stp; rw [if_pos hl])
  clear h hown hl
  go_enter Try.func160, Try.ntmps160
  go_wp2_with (go_at_call 148; refine (letter_any _ _).mono ?_; rintro e w' ⟨rfl, rfl⟩)
  refine (while1_any w b s k v 0 0 H.out (by omega) (by unfold maxLen; omega)).mono ?_
  rintro e w1 ⟨rfl, hS1, hE1⟩
  obtain ⟨g0, g1, g2, g3, g4, gf⟩ := hS1.cells
  have HS1 := Lib.hid hS1
  have HE1 := Lib.hid hE1
  have Hown1 := Lib.hid (Hown.out.ext hE1 (by simp))
  have HB1 := Lib.hid (Nat.le_trans hB hE1.size)
  clear h0 h1 h2 h3 h4 hf hS1 hE1
  go_wp2_with (at_builtin; refine wpList_app_tok rfl _ _ rfl B [b] v ts ⟨1, k, s.extract k (run wordP s k)⟩ _ rfl rfl (Ext.new _ _) (Blk.new _ _ _) (Nat.le_refl _) Hown1.out ?_ ?_ ?_ ?_)
  · intro j hj; obtain rfl := List.mem_singleton.1 hj; exact Nat.lt_of_lt_of_le Hlt.out HE1.out.size
  · omega
  · exact HB1.out
  intro a2 n2 c2 w2 hown2 hE2
  have hS2 : Scn w2 b s (run wordP s k) v 0 0 := Blk.ext HS1.out hE2 Hb.out
  have HS3 : Hid (Scn (w2.setCell ⟨b, 2, none⟩ (.slice a2 n2 c2)) b s (run wordP s k) (.slice a2 n2 c2) 0 0) := Lib.hid (Blk.set hS2 2 _)
  have HE3 := Lib.hid (((HE1.out.mono (T := b :: ob v) (by simp)).trans hE2 (fun x hx _ => by simp [hx])).setCell (p := ⟨b, 2, none⟩) (Or.inr (by simp)) (.slice a2 n2 c2))
  have Hown3 := Lib.hid (hown2.ext (Ext.store w2 b 2 (.slice a2 n2 c2)) (by simp))
  obtain ⟨f0, f1, f2, f3, f4, ff⟩ := hS2.cells
  clear g0 g1 g2 g3 g4 gf hown2 hE2 hS2
  cases hnm : nameB (s.extract k (run wordP s k)) with
  | true =>
    have Hst := Lib.hid (Hstp.out.trans (if_pos hnm))
    go_wp2_with (go_at_call 91; refine (nameTok_any _ _ Hx.out).mono ?_; rintro e w' ⟨rfl, rfl⟩)
    go_end0
    rw [Hst.out]
    exact ⟨rfl, _, HS3.out, by simpa using Hown3.out, HE3.out⟩
  | false =>
    have Hst := Lib.hid (Hstp.out.trans (if_neg (by simp [hnm])))
    go_wp2_with (first | (go_at_call 91; refine (nameTok_any _ _ Hx.out).mono ?_; rintro e w' ⟨rfl, rfl⟩) | (go_at_call 199; refine (fail_any _ b s (run wordP s k) (.slice a2 n2 c2) 0 0 _ _ HS3.out).mono ?_; rintro e w4 ⟨rfl, hS4, hE4⟩))
    go_end0
    rw [Hst.out]
    exact ⟨rfl, _, _, hS4, HE3.out.trans hE4 (fun x hx _ => by simp at hx; simp [hx])⟩

theorem quote_not_let {c : Int} (h : c = 34) : isLet c = false := by subst h; decide
theorem quote_not_sgn {c : Int} (h : c = 34) : isSgn c = false := by subst h; decide

set_option maxRecDepth 100000 in
/-- The way through the code ahead of the test behind a quote. -/
theorem token_quote_bad (B : Nat) (w : World) (b : Nat) (s : ByteArray) (k : Nat) (v : Value) (ts : List Tk) (h : Scn w b s k v 0 0) (hown : Own B [b] w 217 3 v (ts.map Tk.d)) (hB : B ≤ w.heap.size) (hk : k < s.size) (hs : s.size ≤ maxLen)
    (hl : bt s k = 34) (hbad : run quoteP s (k + 1) = s.size ∨ bt s (run quoteP s (k + 1)) ≠ 34 ∨ termB (s.extract (k + 1) (run quoteP s (k + 1))) = false) :
    Calls Try.prog 160 #[.pointer (some ⟨b, 0, none⟩)] w fun e w' => e = .returned (.tuple #[]) ∧ StPost B w b s k v ts w' (stp s k) := by
  have Hst : Hid (stp s k = .bad 1) := Lib.hid (by unfold stp; rw [if_neg (by simp [quote_not_let hl]), if_pos hl, if_pos hbad])
  have Hx := Lib.hid (extract_le s (k + 1) (run quoteP s (k + 1)) hs)
  have hle := run_le quoteP s (k + 1) (by omega)
  have hge := run_ge quoteP s (k + 1)
  unfold maxLen at hs
  obtain ⟨h0, h1, h2, h3, h4, hf⟩ := h.cells
  have hl' : isLet (s[k].toNat : Int) = false := by rw [← bt_eq s k hk]; exact quote_not_let hl
  have hq : ((s[k].toNat : Int) == 34) = true := by rw [← bt_eq s k hk]; simpa using hl
  have HS0 : Hid (Scn (w.setCell ⟨b, 1, none⟩ (.int .i64 (↑k + 1))) b s (k + 1) v 0 0) := Lib.hid (Scn.at h (k + 1))
  have HE0 : Hid (Ext [b] w (w.setCell ⟨b, 1, none⟩ (.int .i64 (↑k + 1)))) := Lib.hid (Ext.store w b 1 _)
  have Hbad := Lib.hid hbad
  clear h hown hl hbad
  go_enter Try.func160, Try.ntmps160
  go_wp2_with (go_at_call 148; refine (letter_any _ _).mono ?_; rintro e w' ⟨rfl, rfl⟩)
  refine (while2_any _ b s (k + 1) v 0 0 HS0.out (by omega) (by unfold maxLen; omega)).mono ?_
  rintro e w1 ⟨rfl, hS1, hE1⟩
  obtain ⟨g0, g1, g2, g3, g4, gf⟩ := hS1.cells
  have HS1 := Lib.hid hS1
  have HE1 := Lib.hid (HE0.out.trans hE1 (by simp))
  clear h0 h1 h2 h3 h4 hf hS1 hE1
  have Hfin : Hid (∀ w4 n, Scn w4 b s (run quoteP s (k + 1)) v 1 k → Ext [b] (w1.drewN n) w4 → StPost B w b s k v ts w4 (stp s k)) := Lib.hid (fun w4 n hS4 hE4 => by
    rw [Hst.out]
    exact ⟨_, _, hS4, ((drewN_ext HE1.out n).trans hE4 (by simp)).mono (by simp)⟩)
  generalize run quoteP s (k + 1) = q at *
  by_cases hqs : q < s.size
  · have hqs1 : ((q : Int) == s.size) = false := by rw [beq_eq_false_iff_ne]; omega
    have hb := bt_eq s q hqs
    cases hq34 : ((s[q].toNat : Int) != 34) with
    | true =>
      clear hb
      go_wp2_with fail
      go_quiet (fail)
      go_wp2_with (go_at_call 199; refine (fail_any _ b s q v 0 0 _ _ (by exact HS1.out)).mono ?_; rintro e w4 ⟨rfl, hS4, hE4⟩)
      refine bodyPost_ret (results_none rfl _ _ _) rfl ⟨rfl, Hfin.out _ _ hS4 hE4⟩
    | false =>
      have hT : termB (s.extract (k + 1) q) = false := by
        rcases Hbad.out with h | h | h
        · omega
        · rw [hb] at h
          simp only [bne_eq_false_iff_eq] at hq34
          exact absurd hq34 h
        · exact h
      clear hb
      go_wp2_with fail
      go_quiet ((go_at_call 151; exact Calls.quiet_of_same ((termTok_any _ _ Hx.out).mono fun _ _ ⟨h1, h2⟩ => ⟨h1, h2.symm⟩)))
      go_wp2_with (go_at_call 199; refine (fail_any _ b s q v 0 0 _ _ (by exact HS1.out)).mono ?_; rintro e w4 ⟨rfl, hS4, hE4⟩)
      refine bodyPost_ret (results_none rfl _ _ _) rfl ⟨rfl, Hfin.out _ _ hS4 hE4⟩
  · have hqs1 : ((q : Int) == s.size) = true := by rw [beq_iff_eq]; omega
    clear hqs
    go_wp2_with fail
    go_quiet (fail)
    go_wp2_with (go_at_call 199; refine (fail_any _ b s q v 0 0 _ _ (by exact HS1.out)).mono ?_; rintro e w4 ⟨rfl, hS4, hE4⟩)
    refine bodyPost_ret (results_none rfl _ _ _) rfl ⟨rfl, Hfin.out _ _ hS4 hE4⟩

set_option maxRecDepth 100000 in
set_option maxHeartbeats 1000000 in
theorem token_quote_ok (B : Nat) (w : World) (b : Nat) (s : ByteArray) (k : Nat) (v : Value) (ts : List Tk) (h : Scn w b s k v 0 0) (hown : Own B [b] w 217 3 v (ts.map Tk.d)) (hB : B ≤ w.heap.size) (hk : k < s.size) (hs : s.size ≤ maxLen) (hn : ts.length ≤ 6000)
    (hl : bt s k = 34) (hbad : ¬ (run quoteP s (k + 1) = s.size ∨ bt s (run quoteP s (k + 1)) ≠ 34 ∨ termB (s.extract (k + 1) (run quoteP s (k + 1))) = false)) :
    Calls Try.prog 160 #[.pointer (some ⟨b, 0, none⟩)] w fun e w' => e = .returned (.tuple #[]) ∧ StPost B w b s k v ts w' (stp s k) := by
  have Hst : Hid (stp s k = .tok ⟨2, k, s.extract (k + 1) (run quoteP s (k + 1))⟩ (run quoteP s (k + 1) + 1)) := Lib.hid (by unfold stp; rw [if_neg (by simp [quote_not_let hl]), if_pos hl, if_neg hbad])
  have Hx := Lib.hid (extract_le s (k + 1) (run quoteP s (k + 1)) hs)
  have hle := run_le quoteP s (k + 1) (by omega)
  have hge := run_ge quoteP s (k + 1)
  have Hb := Lib.hid (ext_ob hown)
  have Hlt := Lib.hid h.lt
  unfold maxLen at hs
  obtain ⟨h0, h1, h2, h3, h4, hf⟩ := h.cells
  have hl' : isLet (s[k].toNat : Int) = false := by rw [← bt_eq s k hk]; exact quote_not_let hl
  have hq : ((s[k].toNat : Int) == 34) = true := by rw [← bt_eq s k hk]; simpa using hl
  have HS0 : Hid (Scn (w.setCell ⟨b, 1, none⟩ (.int .i64 (↑k + 1))) b s (k + 1) v 0 0) := Lib.hid (Scn.at h (k + 1))
  have HE0 : Hid (Ext [b] w (w.setCell ⟨b, 1, none⟩ (.int .i64 (↑k + 1)))) := Lib.hid (Ext.store w b 1 _)
  have Hown0 := Lib.hid (hown.ext HE0.out (by simp))
  obtain ⟨hqs, hq34, hT⟩ : run quoteP s (k + 1) < s.size ∧ bt s (run quoteP s (k + 1)) = 34 ∧ termB (s.extract (k + 1) (run quoteP s (k + 1))) = true := by
    refine ⟨?_, ?_, ?_⟩
    · rcases Nat.lt_or_ge (run quoteP s (k + 1)) s.size with h | h
      · exact h
      · exact absurd (Or.inl (by omega)) hbad
    · exact Classical.byContradiction fun h => hbad (Or.inr (Or.inl h))
    · cases h : termB (s.extract (k + 1) (run quoteP s (k + 1))) with
      | true => rfl
      | false => exact absurd (Or.inr (Or.inr h)) hbad
  clear h hown hl hbad
  go_enter Try.func160, Try.ntmps160
  go_wp2_with (go_at_call 148; refine (letter_any _ _).mono ?_; rintro e w' ⟨rfl, rfl⟩)
  refine (while2_any _ b s (k + 1) v 0 0 HS0.out (by omega) (by unfold maxLen; omega)).mono ?_
  rintro e w1 ⟨rfl, hS1, hE1⟩
  obtain ⟨g0, g1, g2, g3, g4, gf⟩ := hS1.cells
  have Hown1 := Lib.hid (Hown0.out.ext hE1 (by simp))
  generalize run quoteP s (k + 1) = q at *
  have hE01 := HE0.out.trans hE1 (by simp)
  have HB1 := Lib.hid (Nat.le_trans hB hE01.size)
  have Hfin : Hid (∀ n, (∀ j ∈ [b], j < ((w1.drewN n).setCell ⟨b, 1, none⟩ (.int .i64 (↑q + 1))).heap.size) ∧ Own B [b] ((w1.drewN n).setCell ⟨b, 1, none⟩ (.int .i64 (↑q + 1))) 217 3 v (ts.map Tk.d) ∧ Scn ((w1.drewN n).setCell ⟨b, 1, none⟩ (.int .i64 (↑q + 1))) b s (q + 1) v 0 0 ∧
      Ext [b] w ((w1.drewN n).setCell ⟨b, 1, none⟩ (.int .i64 (↑q + 1)))) := Lib.hid (fun n => by
    have e1 : Ext [b] w ((w1.drewN n).setCell ⟨b, 1, none⟩ (.int .i64 (↑q + 1))) := (drewN_ext hE01 n).setCell (Or.inr (by simp)) _
    refine ⟨fun j hj => ?_, ?_, Scn.at (w := w1.drewN n) hS1 (q + 1), e1⟩
    · obtain rfl := List.mem_singleton.1 hj
      exact Nat.lt_of_lt_of_le Hlt.out e1.size
    · exact (Hown1.out.ext (drewN_ext (Ext.refl [b] w1) n) (by simp)).ext (Ext.store (w1.drewN n) b 1 _) (by simp))
  clear h0 h1 h2 h3 h4 hf hS1 hE1 hE01
  have hqs1 : ((q : Int) == s.size) = false := by rw [beq_eq_false_iff_ne]; omega
  have hb := bt_eq s q hqs
  have hq34' : ((s[q].toNat : Int) != 34) = false := by rw [← hb, hq34]; rfl
  clear hb hq34
  go_wp2_with fail
  go_quiet ((go_at_call 151; exact Calls.quiet_of_same ((termTok_any _ _ Hx.out).mono fun _ _ ⟨h1, h2⟩ => ⟨h1, h2.symm⟩)))
  rename_i nq
  obtain ⟨F1, F2, F3, F4⟩ := Hfin.out nq
  have G1 := Lib.hid F1; have G2 := Lib.hid F2; have G3 := Lib.hid F3; have G4 := Lib.hid F4; have HBs := Lib.hid (Nat.le_trans hB F4.size)
  clear F1 F2 F3 F4
  go_wp2_with (at_builtin; go_loud (refine wpList_app_tok rfl _ _ rfl B [b] v ts ⟨2, k, s.extract (k + 1) q⟩ _ rfl rfl (Ext.new _ _) (by exact newBlk _ _ _ _ (by simp)) (by simp) (by exact G2.out) (by exact G1.out) (by omega) (by exact HBs.out) ?_))
  intro a2 n2 c2 w2 hown2 hE2
  have hS2 : Scn w2 b s (q + 1) v 0 0 := Blk.ext G3.out hE2 Hb.out
  have HS3 : Hid (Scn (w2.setCell ⟨b, 2, none⟩ (.slice a2 n2 c2)) b s (q + 1) (.slice a2 n2 c2) 0 0) := Lib.hid (Blk.set hS2 2 _)
  have HE3 := Lib.hid (((G4.out.mono (T := b :: ob v) (by simp)).trans hE2 (fun x hx _ => by simp [hx])).setCell (p := ⟨b, 2, none⟩) (Or.inr (by simp)) (.slice a2 n2 c2))
  have Hown3 := Lib.hid (hown2.ext (Ext.store w2 b 2 (.slice a2 n2 c2)) (by simp))
  obtain ⟨f0, f1, f2, f3, f4, ff⟩ := hS2.cells
  clear g0 g1 g2 g3 g4 gf hown2 hE2 hS2
  go_wp2_with fail
  go_end0
  rw [Hst.out]
  exact ⟨rfl, _, HS3.out, by simpa using Hown3.out, HE3.out⟩

set_option maxRecDepth 100000 in
set_option maxHeartbeats 4000000 in
theorem token_sign (B : Nat) (w : World) (b : Nat) (s : ByteArray) (k : Nat) (v : Value) (ts : List Tk) (h : Scn w b s k v 0 0) (hown : Own B [b] w 217 3 v (ts.map Tk.d)) (hB : B ≤ w.heap.size) (hk : k < s.size) (hs : s.size ≤ maxLen) (hn : ts.length ≤ 6000)
    (hl : isLet (bt s k) = false) (h34 : bt s k ≠ 34) :
    Calls Try.prog 160 #[.pointer (some ⟨b, 0, none⟩)] w fun e w' => e = .returned (.tuple #[]) ∧ StPost B w b s k v ts w' (stp s k) := by
  have hbe := bt_eq s k hk
  have hr := bt_range s k
  have Hstp : Hid (stp s k = if isSgn (bt s k) = true then .tok ⟨3, k, s.extract k (k + 1)⟩ (k + 1) else .bad 1) := Lib.hid (by unfold stp; rw [if_neg (by simp [hl]), if_neg h34])
  have Hb := Lib.hid (ext_ob hown)
  have Hlt := Lib.hid h.lt
  unfold maxLen at hs
  obtain ⟨h0, h1, h2, h3, h4, hf⟩ := h.cells
  rw [hbe] at hl hr
  have hq : ((s[k].toNat : Int) == 34) = false := by rw [← hbe, beq_eq_false_iff_ne]; exact h34
  have HI := Lib.hid (indexByte_any (s[k].toNat : Int) w hr.1 hr.2)
  have Hbe := Lib.hid hbe
  have HS0 := Lib.hid h
  have HS1 : Hid (Scn (w.setCell ⟨b, 1, none⟩ (.int .i64 (↑k + 1))) b s (k + 1) v 0 0) := Lib.hid (Scn.at h (k + 1))
  have HE1 : Hid (Ext [b] w (w.setCell ⟨b, 1, none⟩ (.int .i64 (↑k + 1)))) := Lib.hid (Ext.store w b 1 _)
  have Hown1 := Lib.hid (hown.ext HE1.out (by simp))
  clear h hown h34 hbe
  go_enter Try.func160, Try.ntmps160
  go_wp2_with (go_at_call 148; refine (letter_any _ _).mono ?_; rintro e w' ⟨rfl, rfl⟩)
  refine HI.out.mono ?_
  rintro e w' ⟨⟨n, rfl, hn0⟩, rfl⟩
  cases hsg : isSgn (s[k].toNat : Int) with
  | false =>
    rw [hsg] at hn0
    have Hst := Lib.hid (Hstp.out.trans (if_neg (by rw [Hbe.out, hsg]; simp)))
    go_wp2_with (go_at_call 199; refine (fail_any _ b s k v 0 0 _ _ HS0.out).mono ?_; rintro e w4 ⟨rfl, hS4, hE4⟩)
    go_end0
    rw [Hst.out]
    exact ⟨rfl, _, _, hS4, hE4.mono (by simp)⟩
  | true =>
    rw [hsg] at hn0
    have Hst := Lib.hid (Hstp.out.trans (if_pos (by rw [Hbe.out, hsg])))
    go_wp2_with fail
    have hS1 := HS1.out
    have hE1 := HE1.out
    have hO1 := Hown1.out
    generalize w.setCell ⟨b, 1, none⟩ (.int .i64 (↑k + 1)) = w1 at *
    obtain ⟨g0, g1, g2, g3, g4, gf⟩ := Scn.cells hS1
    clear h0 h1 h2 h3 h4 hf
    have G1 := Lib.hid hS1
    have G2 := Lib.hid hE1
    have G3 := Lib.hid hO1
    have HB1 := Lib.hid (Nat.le_trans hB hE1.size)
    have HM1 : Hid (∀ j ∈ [b], j < w1.heap.size) := Lib.hid (fun j hj => by obtain rfl := List.mem_singleton.1 hj; exact Nat.lt_of_lt_of_le Hlt.out hE1.size)
    clear hS1 hE1 hO1
    have e1 : IntKind.i64.wrap ((k : Int) + 1) = (k : Int) + 1 := IntWalk.i64_in _ (by omega)
    have e2 : (0 : Int) ≤ (k : Int) + 1 := by omega
    have e3 : ((k : Int) + 1).toNat = k + 1 := by omega
    have e4 : (k : Int) + 1 ≤ s.size := by omega
    have e5 : (k : Int) ≤ (k : Int) + 1 := by omega
    have e6 : (0 : Int) ≤ (k : Int) := by omega
    have hbl := G1.out.lt
    go_region_law (first | (refine step_app_tok (by rfl) _ _ (by rfl) B [b] v ts ⟨3, k, s.extract k (k + 1)⟩ _ (by rfl) (by rfl) (by exact Ext.new_drew w1 _) (by exact Blk.new_drew w1 _ _) (Nat.le_refl _) (by exact G3.out) (by exact HM1.out) (by omega) (by exact HB1.out) ?_; intro a2 n2 c2 w2 hown2 hE2; have hS2 : Scn w2 b s (k + 1) v 0 0 := Blk.ext G1.out hE2 Hb.out; obtain ⟨f0, f1, f2, f3, f4, ff⟩ := Scn.cells hS2))
    all_goals
      go_wp2_with fail
      go_end0
      rw [Hst.out]
      exact ⟨rfl, _, Blk.set hS2 2 _, by simpa using hown2.ext (Ext.store w2 b 2 _) (by simp), ((G2.out.mono (T := b :: ob v) (by simp)).trans hE2 (fun x hx _ => by simp [hx])).setCell (p := ⟨b, 2, none⟩) (Or.inr (by simp)) _⟩

theorem token_any (B : Nat) (w : World) (b : Nat) (s : ByteArray) (k : Nat) (v : Value) (ts : List Tk) (h : Scn w b s k v 0 0) (hown : Own B [b] w 217 3 v (ts.map Tk.d)) (hB : B ≤ w.heap.size) (hk : k < s.size) (hs : s.size ≤ maxLen) (hn : ts.length ≤ 6000) :
    Calls Try.prog 160 #[.pointer (some ⟨b, 0, none⟩)] w fun e w' => e = .returned (.tuple #[]) ∧ StPost B w b s k v ts w' (stp s k) := by
  by_cases h1 : isLet (bt s k) = true
  · exact token_let B w b s k v ts h hown hB hk hs hn h1
  · by_cases h2 : bt s k = 34
    · by_cases h3 : run quoteP s (k + 1) = s.size ∨ bt s (run quoteP s (k + 1)) ≠ 34 ∨ termB (s.extract (k + 1) (run quoteP s (k + 1))) = false
      · exact token_quote_bad B w b s k v ts h hown hB hk hs h2 h3
      · exact token_quote_ok B w b s k v ts h hown hB hk hs hn h2 h3
    · exact token_sign B w b s k v ts h hown hB hk hs hn (by simpa using h1) h2
end Go.Proofs.Ytkfeccbahpmadaa.Old
