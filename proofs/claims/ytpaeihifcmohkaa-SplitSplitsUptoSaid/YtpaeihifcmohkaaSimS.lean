/-
  Sim: a contract that is handed a row of the caller's own serves where nil is handed in.
-/
import Derived.Test.YtpaeihifcmohkaaSimR
set_option linter.unusedVariables false
set_option linter.unusedSimpArgs false
namespace Go.Proofs.Ytpaeihifcmohkaa
open Go.RowKit

theorem live_nil {E : Env} {b : Nat} : ¬ Live E [] b := by rintro ⟨k, hk⟩; simp [blkOf, hget] at hk
theorem reps_dsm {E E' : Env} {h h' : Hp} {M : Bars} {w : World} : ∀ {ds : List D} {us : List Value}, V.Reps E h M w (ds.map V.d) us → V.Reps E' h' M w (ds.map V.d) us
  | [], us, r => by simpa [V.Reps] using r
  | d :: ds, us, r => by
    simp only [List.map_cons, V.Reps, V.Rep] at r ⊢
    obtain ⟨x, y, rfl, h1, h2⟩ := r
    exact ⟨x, y, rfl, h1, reps_dsm h2⟩
theorem reps_split {E : Env} {h : Hp} {M : Bars} {w : World} : ∀ {a b : List V} {us : List Value}, V.Reps E h M w (a ++ b) us → ∃ u1 u2, us = u1 ++ u2 ∧ V.Reps E h M w a u1 ∧ V.Reps E h M w b u2
  | [], b, us, r => ⟨[], us, rfl, by simp [V.Reps], r⟩
  | v :: a, b, us, r => by
    simp only [List.cons_append, V.Reps] at r
    obtain ⟨x, y, rfl, h1, h2⟩ := r
    obtain ⟨u1, u2, rfl, k1, k2⟩ := reps_split h2
    exact ⟨x :: u1, u2, rfl, by simp only [V.Reps]; exact ⟨x, u1, rfl, h1, k1⟩, k2⟩
theorem keyss_append : ∀ (a b : List V), V.keyss (a ++ b) = V.keyss a ++ V.keyss b
  | [], b => rfl
  | v :: a, b => by simp [V.keyss, keyss_append a b]
theorem keyss_ds : ∀ (ds : List D), V.keyss (ds.map V.d) = []
  | [] => rfl
  | d :: ds => by simp [V.keyss, V.keys, keyss_ds ds]
theorem ACalls.nilArg {P : Program} {f : FuncId} {pre post : List D} {e sz n : Nat} {ys : List D} (hA : ACalls P f (pre.map V.d ++ .own 1000 0 :: post.map V.d) [(1000, .row e sz [])] (.own 1000 n) [(1000, .row e sz ys)]) :
    ACalls P f (pre.map V.d ++ .d (.raw (.slice none 0 0)) :: post.map V.d) [] (.own 900 n) [(900, .row e sz ys)] := by
  refine ⟨hA.ok, fun E w us o H hr hk ho hs => ?_⟩
  let E1 : Env := ⟨E.blk, fun j => if j = 1000 then .slice none 0 0 else E.row j⟩
  have hl1 : ∀ b, ¬ Live E1 [(1000, .row e sz [])] b := by
    rintro b ⟨k, hk⟩
    unfold blkOf at hk
    by_cases e : k = 1000
    · subst e; rw [hget_same] at hk; simp [E1, obOf] at hk
    · rw [hget_other _ _ (Ne.symm e)] at hk; simp [hget] at hk
  have hb0 : bars E [] o = o := by funext t b; simp [bars, live_nil]
  have hb1 : bars E1 [(1000, .row e sz [])] o = o := by funext t b; simp [bars, hl1]
  have H1 : HRep E1 [(1000, .row e sz [])] o w := by
    refine ⟨fun k ob hk => ?_, fun k k' b h1 => absurd ⟨k, h1⟩ (hl1 b), fun k ob hk => ?_⟩
    · by_cases e : k = 1000
      · subst e; rw [hget_same] at hk; cases hk
        simp only [ObRep, RowAt]
        exact ⟨by simp, .inl ⟨none, by simp [E1]⟩⟩
      · rw [hget_other _ _ (Ne.symm e)] at hk; simp [hget] at hk
    · by_cases e : k = 1000
      · subst e; rw [hget_same] at hk; cases hk; simp [Ob.keys]
      · rw [hget_other _ _ (Ne.symm e)] at hk; simp [hget] at hk
  obtain ⟨u1, u2, rfl, r1, r2⟩ := reps_split hr
  simp only [V.Reps, V.Rep, D.RepV, D.Rep, List.cons.injEq, and_true] at r2
  obtain ⟨x, y, rfl, ⟨rfl, _⟩, r3⟩ := r2
  rw [hb0] at r1 r3
  have hr1 : V.Reps E1 [(1000, .row e sz [])] (bars E1 [(1000, .row e sz [])] o) w (pre.map V.d ++ .own 1000 0 :: post.map V.d) (u1 ++ .slice none 0 0 :: y) := by
    rw [hb1]
    refine V.Reps.append (reps_dsm r1) ?_
    simp only [V.Reps, V.Rep]
    exact ⟨_, _, rfl, ⟨0, .inl ⟨e, sz, [], hget_same _ _ _, rfl⟩, Nat.le_refl _, rfl, fun _ => by simp [E1]⟩, reps_dsm r3⟩
  refine (hA.run E1 w _ o H1 hr1 (fun k hk => ?_) (fun t b hb => ⟨(ho t b hb).1, hl1 b⟩) hs).mono ?_
  · rw [keyss_append, V.keyss, keyss_ds, keyss_ds] at hk
    simp only [V.keys, List.nil_append, List.append_nil, List.mem_singleton] at hk
    subst hk; rw [hget_same]; rfl
  rintro en w' ⟨E', u, rfl, H', hu, _, hX, hH, hF⟩
  let E2 : Env := ⟨E'.blk, fun j => if j = 900 then E'.row 1000 else E'.row j⟩
  have hblk : ∀ b, blkOf E2 [(900, Ob.row e sz ys)] 900 = some b ↔ blkOf E' [(1000, Ob.row e sz ys)] 1000 = some b := fun b => by
    unfold blkOf; rw [hget_same, hget_same]; simp [E2]
  have hno : ∀ {E : Env} {j i : Nat} {ob : Ob} {b : Nat}, blkOf E [(j, ob)] i = some b → i = j := fun {E j i ob b} hb => by
    by_cases e : i = j
    · exact e
    · unfold blkOf at hb; rw [hget_other _ _ (Ne.symm e)] at hb; simp [hget] at hb
  have hlive : ∀ b, Live E2 [(900, Ob.row e sz ys)] b ↔ Live E' [(1000, Ob.row e sz ys)] b := fun b =>
    ⟨fun ⟨k, hk⟩ => by obtain rfl := hno hk; exact ⟨1000, (hblk b).1 hk⟩, fun ⟨k, hk⟩ => by obtain rfl := hno hk; exact ⟨900, (hblk b).2 hk⟩⟩
  have hbars : bars E2 [(900, Ob.row e sz ys)] o = bars E' [(1000, Ob.row e sz ys)] o := by
    funext t b; simp only [bars, hlive b]
  refine ⟨E2, u, rfl, ⟨fun k ob hk => ?_, fun k k' b h1 h2 => (hno h1).trans (hno h2).symm, fun k ob hk => ?_⟩, ?_, ?_, hX.mono (fun b hb => absurd hb (hl1 b)), fun k hk hs => ?_, fun k b hb => ?_⟩
  · by_cases e : k = 900
    · subst e; rw [hget_same] at hk; cases hk
      have := H'.obs 1000 _ (hget_same _ _ _)
      simp only [ObRep] at this ⊢
      rw [hbars]
      simpa [E2] using this
    · rw [hget_other _ _ (Ne.symm e)] at hk; simp [hget] at hk
  · by_cases e : k = 900
    · subst e; rw [hget_same] at hk; cases hk; simp [Ob.keys]
    · rw [hget_other _ _ (Ne.symm e)] at hk; simp [hget] at hk
  · simp only [V.Rep] at hu ⊢
    obtain ⟨m, h1, h2, h3, h4⟩ := hu
    have h5 := verAny_one h1 (.inl ⟨e, sz, ys, hget_same _ _ _, rfl⟩)
    exact ⟨m, .inl ⟨e, sz, ys, hget_same _ _ _, h5.symm⟩, h2, h3, fun hm => by simpa [E2] using h4 hm⟩
  · intro k hk
    simp [V.keys] at hk; subst hk; rw [hget_same]; rfl
  · by_cases e : k = 900
    · omega
    · rw [hget_other _ _ (Ne.symm e)] at hs; simp [hget] at hs
  · obtain rfl := hno hb
    rcases hF 1000 b ((hblk b).1 hb) with h1 | h1
    · exact absurd h1 (hl1 b)
    · exact .inr h1
end Go.Proofs.Ytpaeihifcmohkaa
