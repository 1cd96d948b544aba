/-
  Sim: what the document says of templates applied: laid, made, makes, BackOf. Sim: OwnFrag, OwnStep, GreatStep. Sim: makes, BackOf.
-/
import Derived.Test.YtgcagjamjdnglaaFrG
import Derived.Test.YtgcagjamjdnglaaFrC
set_option linter.unusedVariables false
set_option linter.unusedSimpArgs false
set_option linter.unusedSectionVars false
namespace Go.Proofs.Ytgcagjamjdnglaa
open Go.RowKit
set_option maxRecDepth 100000
-- SimX

theorem laid_gen : ∀ (N : Nat) {l w : List Tree}, cnts l < N → cnts l * (1 + cnts w) ≤ 100000000 → cnts w ≤ 100000000 → ACalls Try.prog 216 [.d (treesD false l), .d (treesD false w)] [] (.d (treesD false (fillL w l))) [] := by
  intro N
  induction N with
  | zero => intro l w h; omega
  | succ N ih =>
  intro l w hn hN hwN
  have hcl : cnts l ≤ cnts l * (1 + cnts w) := Nat.le_mul_of_pos_right _ (by omega)
  have hl := Nat.le_trans (cnts_len l) (Nat.le_trans hcl hN)
  have hwl := Nat.le_trans (cnts_len w) hwN
  refine ACalls.intro (n := 50) Try.func216 rfl rfl (by simp) (by rfl) ?_
  simp only [argFr]
  repeat (first | refine wk ?_ | refine s_field (hr := ?_))
  refine aw_nil 5 900 46 2 rfl rfl rfl ?_
  refine t_loop (X := Nat) (fun i => i ≤ l.length) (fun i => [(6, I i), (5, .own 900 (fillL w (l.take i)).length), (0, .d (treesD false l)), (1, .d (treesD false w))]) (fun i => [(900, .row 46 2 ((fillL w (l.take i)).map (treeD false)))]) (fun i => l.length - i) 0 (Nat.zero_le _) ?_
  intro i h1
  by_cases hlt : i < l.length
  · have e1 := fillL_take (w := w) hlt
    have e2 := fillT_eq w l[i]
    have e3 := cnts_mem (List.getElem_mem hlt)
    have e4 := cnt_eq l[i]
    have e5 := Nat.le_trans (cnts_len _) (fillL_cnt w (l.take (i + 1)))
    have e6 : cnts (l.take (i + 1)) ≤ cnts l := by have := cnts_append (l.take (i + 1)) (l.drop (i + 1)); rw [List.take_append_drop] at this; omega
    have e7 := Nat.le_trans e5 (Nat.mul_le_mul_right (1 + cnts w) e6)
    have e8 := congrArg List.length e1
    rw [List.length_append] at e8
    by_cases hr : l[i].rule = -1
    · rw [if_pos hr] at e2
      rw [e2] at e1 e8
      generalize fillL w (l.take i) = A at *
      repeat (first | refine wk ?_ | refine s_field (hr := ?_))
      refine t_loop (X := Nat) (fun k => k ≤ w.length) (fun k => [(7, I k), (6, I i), (5, .own 900 (A ++ w.take k).length), (0, .d (treesD false l)), (1, .d (treesD false w))]) (fun k => [(900, .row 46 2 ((A ++ w.take k).map (treeD false)))]) (fun k => w.length - k) 0 (Nat.zero_le _) ?_
      intro k hk
      by_cases hkt : k < w.length
      · have e : (A ++ w.take k).map (treeD false) ++ [treeA false w[k]] = (A ++ w.take (k + 1)).map (treeD false) := by
          rw [List.take_succ_eq_append_getElem hkt, ← List.append_assoc, List.map_append (l₂ := [w[k]])]; simp [treeA_eq]
        have hwt : (w.take k).length ≤ w.length := by simp; omega
        repeat (first | refine wk ?_ | refine s_field (hr := ?_))
        rw [e, List.length_map]
        exact t_next (k + 1)
      · rw [List.take_of_length_le (by omega), ← e1]
        repeat (first | refine wk ?_ | refine s_field (hr := ?_))
        exact t_next (i + 1)
    · rw [if_neg hr] at e2
      rw [e2] at e1 e8
      have e : (fillL w (l.take i)).map (treeD false) ++ [D.agg [iD l[i].rule, treesD false (fillL w l[i].kids)]] = (fillL w (l.take (i + 1))).map (treeD false) := by rw [e1, List.map_append]; simp only [List.map_cons, List.map_nil, treeA_eq]; rfl
      have hk := Nat.mul_le_mul_right (1 + cnts w) (show cnts l[i].kids ≤ cnts l by omega)
      repeat (first | refine wk ?_ | refine s_field (hr := ?_))
      refine s_call [] (hA := ih (l := l[i].kids) (w := w) (by omega) (by omega) hwN) (hr := ?_)
      repeat (first | refine wk ?_ | refine s_field (hr := ?_))
      rw [e, List.length_map]
      exact t_next (i + 1)
  · rw [show l.take i = l from List.take_of_length_le (by omega)]
    refine aw_froz 900 rfl ?_
    repeat (first | refine wk ?_ | refine s_field (hr := ?_))
    exact fin
theorem laid_sim {l w : List Tree} (h1 : cnts l ≤ 400) (h2 : cnts w ≤ 400) : ACalls Try.prog 216 [.d (treesD false l), .d (treesD false w)] [] (.d (treesD false (fillL w l))) [] :=
  laid_gen _ (Nat.lt_succ_self _) (Nat.le_trans (Nat.mul_le_mul h1 (show 1 + cnts w ≤ 401 by omega)) (by decide)) (by omega)
def madeR (kids : List (List Tree)) (l : List Frag) : List Tree × Bool := match mkA kids l with
  | none => ([], false)
  | some a => (a, decide (cnts a ≤ 400))
theorem madeR_of {kids : List (List Tree)} {l : List Frag} : (mkL kids l = none ∧ (madeR kids l).2 = false) ∨ ∃ a, mkL kids l = some a ∧ madeR kids l = (a, true) ∧ cnts a ≤ 400 := by
  unfold madeR mkL
  cases mkA kids l with
  | none => exact .inl ⟨rfl, rfl⟩
  | some a =>
    by_cases h : cnts a ≤ 400
    · exact .inr ⟨a, by show fits4 a = _; unfold fits4; rw [if_pos h], (by show (a, decide (cnts a ≤ 400)) = (a, true); rw [decide_eq_true h]), h⟩
    · exact .inl ⟨by show fits4 a = _; unfold fits4; rw [if_neg h], decide_eq_false h⟩
theorem madeR_none {kids : List (List Tree)} {l : List Frag} (h : mkA kids l = none) : madeR kids l = ([], false) := by unfold madeR; rw [h]
set_option maxHeartbeats 4000000 in
theorem made_gen : ∀ (N : Nat) {t : Bool} {l : List Frag} {kids : List (List Tree)} {m : Int} {u : List Int}, cpL l < N → cpL l ≤ 60 → (usL m l u).1 = true → u.length = kids.length → (∀ k ∈ kids, cnts k ≤ 400) → kids.length ≤ 100000000 →
    ACalls Try.prog 172 [.d (fragsD t l), .d (kidsD kids)] [] (.tup [.d (treesD false (madeR kids l).1), B (madeR kids l).2]) [] := by
  intro N
  induction N with
  | zero => intro t l kids m u h; omega
  | succ N ih =>
  intro t l kids m u hn h60 hus hk hk4 hkN
  have hl : l.length ≤ cpL l := cpL_len l
  refine ACalls.intro (n := 87) Try.func172 rfl rfl (by simp) (by rfl) ?_
  simp only [argFr]
  repeat (first | refine wk ?_ | refine s_field (hr := ?_))
  refine aw_nil 6 900 46 2 rfl rfl rfl ?_
  refine t_loop (X := Nat × List Tree × List Int) (fun x => x.1 ≤ l.length ∧ mkA kids (l.take x.1) = some x.2.1 ∧ (usL m (l.drop x.1) x.2.2).1 = true ∧ x.2.2.length = kids.length) (fun x => [(7, I x.1), (6, .own 900 x.2.1.length), (0, .d (fragsD t l)), (1, .d (kidsD kids))]) (fun x => [(900, .row 46 2 (x.2.1.map (treeD false)))]) (fun x => l.length - x.1) (0, [], u) ⟨Nat.zero_le _, rfl, hus, hk⟩ ?_
  rintro ⟨i, A, v⟩ ⟨h1, h2, h3, h4⟩
  dsimp only at h1 h2 h3 h4 ⊢
  by_cases hlt : i < l.length
  · have e1 := mkA_take (kids := kids) hlt
    have e2 := mkF_eq kids l[i]
    have e3 := cpL_take hlt
    have e4 := cpF_eq l[i]
    have e5 : cpL l = cpL (l.take (i + 1)) + cpL (l.drop (i + 1)) := by rw [← cpL_append, List.take_append_drop]
    obtain ⟨g1, g2⟩ := usL_good hlt h3
    have g3 := usF_eq m l[i] v
    have g4 := usF_len m l[i] v
    have hA := Nat.le_trans (cnts_len A) (mkA_cnt hk4 h2)
    have hti : (l.take i).length ≤ 60 := by rw [List.length_take]; omega
    rw [h2] at e1
    have hmany : mkA kids (l.take (i + 1)) = none → madeR kids l = ([], false) := fun h => madeR_none (mkA_none h)
    by_cases o1 : l[i].op = 1
    · rw [if_pos (Or.inl o1)] at e4
      rw [if_pos o1] at e2 g3
      have g5 : (usL m l[i].l v).1 = true := by
        rw [g3] at g1
        split at g1
        · cases g1
        · exact g1
      have hih := ih (t := t) (l := l[i].l) (kids := kids) (m := m) (u := v) (by omega) (by omega) g5 h4 hk4 hkN
      rcases madeR_of (kids := kids) (l := l[i].l) with ⟨c1, c2⟩ | ⟨a, c1, c2, c3⟩
      · rw [c2] at hih
        rw [c1] at e2
        rw [e2] at e1
        rw [hmany e1]
        repeat (first | refine wk ?_ | refine s_field (hr := ?_))
        refine s_call [] (hA := hih) (hr := ?_)
        repeat (first | refine wk ?_ | refine s_field (hr := ?_))
        exact Fin.r2 rfl (.of_tmp rfl) (.of_tmp rfl) (Co.tup (by repeat' (first | exact trivial | (refine ⟨?_, ?_⟩) | exact Co.refl _ | exact Co.froz rfl rfl | exact Co.froz rfl (by simp) | exact Co.nil _ _))) (by repeat' (first | exact trivial | exact HElt.of rfl)) rfl
      · rw [c2] at hih
        rw [c1] at e2
        rw [e2] at e1
        have e : A.map (treeD false) ++ [D.agg [iD l[i].n, treesD false a]] = (A ++ [Tree.mk l[i].n a]).map (treeD false) := by rw [List.map_append]; simp only [List.map_cons, List.map_nil, treeA_eq]; rfl
        repeat (first | refine wk ?_ | refine s_field (hr := ?_))
        refine s_call [] (hA := hih) (hr := ?_)
        repeat (first | refine wk ?_ | refine s_field (hr := ?_))
        rw [e, List.length_map]
        exact t_next (i + 1, A ++ [Tree.mk l[i].n a], (usF m l[i] v).2) (a := ⟨by omega, e1, g2, g4.trans h4⟩) (b := by dsimp only; omega)
    · rw [if_neg o1] at e2 g3
      by_cases o2 : l[i].op = 2
      · rw [if_pos o2] at e2 g3
        have hn0 : ¬ (l[i].n < 0 ∨ (v.length : Int) ≤ l[i].n) := fun h => by rw [g3, if_pos h] at g1; cases g1
        have hnk : l[i].n = ((l[i].n.toNat : Nat) : Int) := by omega
        have hnl : l[i].n.toNat < kids.length := by omega
        have hget : kids.getD l[i].n.toNat [] = kids[l[i].n.toNat] := by rw [List.getD_eq_getElem?_getD, List.getElem?_eq_getElem hnl]; rfl
        have hkc := hk4 _ (List.getElem_mem hnl)
        rw [hget] at e2
        have hkl := cnts_len kids[l[i].n.toNat]
        rw [e2] at e1
        have e : A.map (treeD false) ++ kids[l[i].n.toNat].map (treeD false) = (A ++ kids[l[i].n.toNat]).map (treeD false) := by rw [List.map_append]
        repeat (first | refine wk ?_ | refine s_field (hr := ?_))
        rw [e, List.length_map]
        exact t_next (i + 1, A ++ kids[l[i].n.toNat], (usF m l[i] v).2) (a := ⟨by omega, e1, g2, g4.trans h4⟩) (b := by dsimp only; omega)
      · rw [if_neg o2] at e2 g3
        by_cases o3 : l[i].op = 3
        · rw [if_pos o3] at e2
          rw [e2] at e1
          have e : (A ++ [Tree.mk (-1) []]).map (treeD false) = A.map (treeD false) ++ [D.agg [iD (-1), treesD false []]] := by rw [List.map_append]; simp only [List.map_cons, List.map_nil, treeA_eq]; rfl
          repeat (first | refine wk ?_ | refine s_field (hr := ?_))
          exact t_next (i + 1, A ++ [Tree.mk (-1) []], (usF m l[i] v).2) (a := ⟨by omega, e1, g2, g4.trans h4⟩) (b := by dsimp only; omega)
        · rw [if_neg o3] at e2
          by_cases o4 : l[i].op = 4
          · rw [if_pos o4] at e2 g3
            rw [if_pos (Or.inr o4)] at e4
            have hn0 : ¬ (l[i].n < 0 ∨ (v.length : Int) ≤ l[i].n) := fun h => by rw [g3, if_pos h] at g1; cases g1
            have hnk : l[i].n = ((l[i].n.toNat : Nat) : Int) := by omega
            have hnl : l[i].n.toNat < kids.length := by omega
            have hget : kids.getD l[i].n.toNat [] = kids[l[i].n.toNat] := by rw [List.getD_eq_getElem?_getD, List.getElem?_eq_getElem hnl]; rfl
            have hkc := hk4 _ (List.getElem_mem hnl)
            rw [hget] at e2
            have g5 : (usL m l[i].l (bump v l[i].n)).1 = true := by rw [g3, if_neg hn0] at g1; exact g1
            have hih := ih (t := t) (l := l[i].l) (kids := kids) (m := m) (u := bump v l[i].n) (by omega) (by omega) g5 (by rw [bump_length]; exact h4) hk4 hkN
            rcases madeR_of (kids := kids) (l := l[i].l) with ⟨c1, c2⟩ | ⟨a, c1, c2, c3⟩
            · rw [c2] at hih
              rw [c1] at e2
              rw [e2] at e1
              rw [hmany e1]
              repeat (first | refine wk ?_ | refine s_field (hr := ?_))
              refine s_call [] (hA := hih) (hr := ?_)
              repeat (first | refine wk ?_ | refine s_field (hr := ?_))
              exact Fin.r2 rfl (.of_tmp rfl) (.of_tmp rfl) (Co.tup (by repeat' (first | exact trivial | (refine ⟨?_, ?_⟩) | exact Co.refl _ | exact Co.froz rfl rfl | exact Co.froz rfl (by simp) | exact Co.nil _ _))) (by repeat' (first | exact trivial | exact HElt.of rfl)) rfl
            · rw [c2] at hih
              rw [c1] at e2
              have hf := laid_sim (l := kids[l[i].n.toNat]) (w := a) hkc c3
              have hfc := fill_cnts (l := kids[l[i].n.toNat]) (w := a) hkc c3
              have hfl := cnts_len (fillL a kids[l[i].n.toNat])
              have hbind : (some a).bind (fun a => fits4 (fillL a kids[l[i].n.toNat])) = fits4 (fillL a kids[l[i].n.toNat]) := rfl
              rw [hbind] at e2
              generalize fillL a kids[l[i].n.toNat] = z at *
              by_cases hbig : cnts z ≤ 400
              · have e3' : fits4 z = some z := by unfold fits4; rw [if_pos hbig]
                rw [e3'] at e2
                rw [e2] at e1
                have hcap : capN 400 (cnts z) = cnts z := if_pos hbig
                have e : A.map (treeD false) ++ z.map (treeD false) = (A ++ z).map (treeD false) := by rw [List.map_append]
                repeat (first | refine wk ?_ | refine s_field (hr := ?_))
                refine s_call [] (hA := hih) (hr := ?_)
                repeat (first | refine wk ?_ | refine s_field (hr := ?_))
                refine s_call [] (hA := hf) (hr := ?_)
                repeat (first | refine wk ?_ | refine s_field (hr := ?_))
                refine s_call [] (hA := nodesOf_sim (m := 400)) (hr := ?_)
                rw [hcap]
                repeat (first | refine wk ?_ | refine s_field (hr := ?_))
                rw [e, List.length_map]
                exact t_next (i + 1, A ++ z, (usF m l[i] v).2) (a := ⟨by omega, e1, g2, g4.trans h4⟩) (b := by dsimp only; omega)
              · have e3' : fits4 z = none := by unfold fits4; rw [if_neg hbig]
                rw [e3'] at e2
                rw [e2] at e1
                have hcap : capN 400 (cnts z) = 401 := if_neg hbig
                rw [hmany e1]
                repeat (first | refine wk ?_ | refine s_field (hr := ?_))
                refine s_call [] (hA := hih) (hr := ?_)
                repeat (first | refine wk ?_ | refine s_field (hr := ?_))
                refine s_call [] (hA := hf) (hr := ?_)
                repeat (first | refine wk ?_ | refine s_field (hr := ?_))
                refine s_call [] (hA := nodesOf_sim (m := 400)) (hr := ?_)
                rw [hcap]
                repeat (first | refine wk ?_ | refine s_field (hr := ?_))
                exact Fin.r2 rfl (.of_tmp rfl) (.of_tmp rfl) (Co.tup (by repeat' (first | exact trivial | (refine ⟨?_, ?_⟩) | exact Co.refl _ | exact Co.froz rfl rfl | exact Co.froz rfl (by simp) | exact Co.nil _ _))) (by repeat' (first | exact trivial | exact HElt.of rfl)) rfl
          · rw [if_neg o4] at e2
            rw [e2] at e1
            have e1' : mkA kids (l.take (i + 1)) = some A := by rw [e1]; show some (A ++ []) = some A; rw [List.append_nil]
            repeat (first | refine wk ?_ | refine s_field (hr := ?_))
            exact t_next (i + 1, A, (usF m l[i] v).2) (a := ⟨by omega, e1', g2, g4.trans h4⟩) (b := by dsimp only; omega)
  · have e0 : l.take i = l := List.take_of_length_le (by omega)
    rw [e0] at h2
    have hA := Nat.le_trans (cnts_len A) (mkA_cnt hk4 h2)
    have hAc := mkA_cnt hk4 h2
    have hm : madeR kids l = (A, decide (cnts A ≤ 400)) := by unfold madeR; rw [h2]
    have hcap : decide (((capN 400 (cnts A) : Nat) : Int) ≤ 400) = decide (cnts A ≤ 400) := by
      unfold capN; split
      · rw [decide_eq_true (by omega), decide_eq_true (by omega)]
      · rw [decide_eq_false (by omega), decide_eq_false (by omega)]
    rw [hm, ← hcap]
    refine aw_froz 900 rfl ?_
    repeat (first | refine wk ?_ | refine s_field (hr := ?_))
    refine s_callf [] (hA := nodesOf_sim (l := A) (m := 400)) (hr := ?_)
    repeat (first | refine wk ?_ | refine s_field (hr := ?_))
    exact Fin.r2 rfl (.of_tmp rfl) (.of_tmp rfl) (Co.tup (by repeat' (first | exact trivial | (refine ⟨?_, ?_⟩) | exact Co.refl _ | exact Co.froz rfl rfl | exact Co.froz rfl (by simp) | exact Co.nil _ _))) (by repeat' (first | exact trivial | exact HElt.of rfl)) rfl
end Go.Proofs.Ytgcagjamjdnglaa
namespace Go.Proofs.Ytgcagjamjdnglaa
open Go.RowKit
set_option maxRecDepth 100000
-- SimX

theorem ownFrag_gen : ∀ (n : Nat) {t : Bool} {l : List Frag}, fszs l < n → fszs l ≤ 100000000 → ACalls Try.prog 73 [.d (fragsD t l)] [] (.d (fragsD false l)) [] := by
  intro n
  induction n with
  | zero => intro t l h; omega
  | succ n ih =>
  intro t l hn hN
  have hl := Nat.le_trans (fszs_len l) hN
  refine ACalls.intro (n := 32) Try.func73 rfl rfl (by simp) (by rfl) ?_
  simp only [argFr]
  repeat (first | refine wk ?_ | refine s_field (hr := ?_))
  refine aw_nil 3 900 114 3 rfl rfl rfl ?_
  refine t_loop (X := Nat) (fun i => i ≤ l.length) (fun i => [(4, I i), (3, .own 900 (l.take i).length), (0, .d (fragsD t l))]) (fun i => [(900, .row 114 3 ((l.take i).map (fragD false)))]) (fun i => l.length - i) 0 (Nat.zero_le _) ?_
  intro i h1
  have htk : (l.take i).length = i := by simp; omega
  by_cases hlt : i < l.length
  · have e3 := fszs_mem (List.getElem_mem hlt)
    have e4 := fsz_eq l[i]
    have e : (l.take i).map (fragD false) ++ [D.agg [iD l[i].op, iD l[i].n, fragsD false l[i].l]] = (l.take (i + 1)).map (fragD false) := by
      rw [List.take_succ_eq_append_getElem hlt, List.map_append]; simp only [List.map_cons, List.map_nil, fragA_eq]
    repeat (first | refine wk ?_ | refine s_field (hr := ?_))
    refine s_call [] (hA := ih (t := t) (l := l[i].l) (by omega) (by omega)) (hr := ?_)
    repeat (first | refine wk ?_ | refine s_field (hr := ?_))
    rw [e, List.length_map]
    exact t_next (i + 1)
  · rw [show l.take i = l from List.take_of_length_le (by omega)]
    refine aw_froz 900 rfl ?_
    repeat (first | refine wk ?_ | refine s_field (hr := ?_))
    exact fin
theorem ownFrag_sim {t : Bool} {l : List Frag} (h : fszs l ≤ 100000000 := by ((try simp only [List.length_map, List.length_append, List.length_cons, List.length_nil, List.length_replicate, List.length_set, List.length_take, List.length_drop]); first | omega | assumption)) : ACalls Try.prog 73 [.d (fragsD t l)] [] (.d (fragsD false l)) [] := ownFrag_gen _ (Nat.lt_succ_self _) h
set_option maxHeartbeats 2000000 in
theorem ownStep_sim {t : Bool} {s : Step} (hs : s.fit) : ACalls Try.prog 28 [.d (stepD t s)] [] (.d (stepD false s)) [] := by
  refine ACalls.intro (n := 47) Try.func28 rfl rfl (by simp) (by rfl) ?_
  simp only [argFr]
  have hf := hs.frags
  have he := hs.empty
  repeat (first | refine wk ?_ | refine s_field (hr := ?_))
  refine s_call [] (hA := ownGram_sim hs.g) (hr := ?_)
  repeat (first | refine wk ?_ | refine s_field (hr := ?_))
  refine aw_nilCell 3 4 910 86 1 rfl rfl rfl rfl ?_
  refine t_loop (X := Nat) (fun i => i ≤ s.frags.length) (fun i => [(4, I i), (3, .ptr 3 0), (2, .ptr 2 0), (1, .ptr 1 0)])
    (fun i => [(1, stepBox t s), (2, .box 31 [.d (iD 0), .d (iD 0), .d (iD 0), .d (.raw (.slice none 0 0)), .d (.raw (.slice none 0 0)), .d (.raw (.slice none 0 0))]), (3, .box 31 [.d (iD s.g.vars), .d (iD s.g.terms), .d (iD s.g.start), .own 900 s.g.rules.length, .own 910 (s.frags.take i).length, .d (.raw (.slice none 0 0))]), (900, .row 41 2 (s.g.rules.map (ruleD false))), (910, .row 86 1 ((s.frags.take i).map (fragsD false)))]) (fun i => s.frags.length - i) 0 (Nat.zero_le _) ?_
  intro i hi
  have htk : (s.frags.take i).length = i := by simp; omega
  by_cases hlt : i < s.frags.length
  · have hfi := hs.frag _ (List.getElem_mem hlt)
    have e : (s.frags.take i).map (fragsD false) ++ [fragsD false s.frags[i]] = (s.frags.take (i + 1)).map (fragsD false) := by
      rw [List.take_succ_eq_append_getElem hlt, List.map_append]; rfl
    repeat (first | refine wk ?_ | refine s_field (hr := ?_))
    refine s_call [] (hA := ownFrag_sim hfi) (hr := ?_)
    repeat (first | refine wk ?_ | refine s_field (hr := ?_))
    rw [e, List.length_map]
    exact t_next (i + 1)
  · rw [show s.frags.take i = s.frags from List.take_of_length_le (by omega)]
    repeat (first | refine wk ?_ | refine s_field (hr := ?_))
    refine aw_nilCell 3 5 911 46 2 rfl rfl rfl rfl ?_
    refine t_loop (X := Nat) (fun i => i ≤ s.empty.length) (fun i => [(5, I i), (3, .ptr 3 0), (2, .ptr 2 0), (1, .ptr 1 0)])
      (fun i => [(1, stepBox t s), (2, .box 31 [.d (iD 0), .d (iD 0), .d (iD 0), .d (.raw (.slice none 0 0)), .d (.raw (.slice none 0 0)), .d (.raw (.slice none 0 0))]), (3, .box 31 [.d (iD s.g.vars), .d (iD s.g.terms), .d (iD s.g.start), .own 900 s.g.rules.length, .own 910 s.frags.length, .own 911 (s.empty.take i).length]), (900, .row 41 2 (s.g.rules.map (ruleD false))), (910, .row 86 1 (s.frags.map (fragsD false))), (911, .row 46 2 ((s.empty.take i).map (treeD false)))]) (fun i => s.empty.length - i) 0 (Nat.zero_le _) ?_
    intro i hi
    have htk : (s.empty.take i).length = i := by simp; omega
    by_cases hlt : i < s.empty.length
    · have hc := hs.trees _ (List.getElem_mem hlt)
      have e : (s.empty.take i).map (treeD false) ++ [treeA false s.empty[i]] = (s.empty.take (i + 1)).map (treeD false) := by
        rw [List.take_succ_eq_append_getElem hlt, List.map_append]; simp [treeA_eq]
      repeat (first | refine wk ?_ | refine s_field (hr := ?_))
      refine s_call [] (hA := ownTree_sim s.empty[i] hc) (hr := ?_)
      repeat (first | refine wk ?_ | refine s_field (hr := ?_))
      rw [e, List.length_map]
      exact t_next (i + 1)
    · rw [show s.empty.take i = s.empty from List.take_of_length_le (by omega)]
      refine aw_froz 900 rfl ?_
      refine aw_froz 910 rfl ?_
      refine aw_froz 911 rfl ?_
      repeat (first | refine wk ?_ | refine s_field (hr := ?_))
      exact fin
theorem capN_le (m n : Nat) : capN m n ≤ m + 1 := by unfold capN; split <;> omega
theorem fragSize_gen : ∀ (N : Nat) {t : Bool} {l : List Frag} {m : Nat}, fszs l < N → fszs l ≤ 100000000 → m ≤ 10000 → ACalls Try.prog 101 [.d (fragsD t l), I m] [] (I (capN m (fszs l))) [] := by
  intro N
  induction N with
  | zero => intro t l m h; omega
  | succ N ih =>
  intro t l m hn hN hm
  have hl := Nat.le_trans (fszs_len l) hN
  refine ACalls.intro (n := 34) Try.func101 rfl rfl (by simp) (by rfl) ?_
  simp only [argFr]
  repeat (first | refine wk ?_ | refine s_field (hr := ?_))
  refine t_loop (X := Nat × Nat) (fun x => x.1 ≤ l.length ∧ (x.2 ≤ m → x.2 = fszs (l.take x.1)) ∧ (m < x.2 → m < fszs (l.take x.1)) ∧ x.2 ≤ 30000) (fun x => [(6, I x.1), (5, I x.2), (0, .d (fragsD t l)), (1, I m)]) (fun _ => []) (fun x => l.length - x.1) (0, 0) ⟨Nat.zero_le _, fun _ => by simp [fszs], fun h => by omega, by omega⟩ ?_
  rintro ⟨i, v⟩ ⟨h1, h2, h3, h4⟩
  dsimp only at h1 h2 h3 h4 ⊢
  have e4 := fszs_split l i
  by_cases hv : v ≤ m
  · have h2' := h2 hv
    by_cases hlt : i < l.length
    · have e1 := fszs_take hlt
      have e2 := fsz_eq l[i]
      have e3 := fszs_mem (List.getElem_mem hlt)
      have hc := capN_le m (fszs l[i].l)
      have hc2 : capN m (fszs l[i].l) = fszs l[i].l ∨ (capN m (fszs l[i].l) = m + 1 ∧ m < fszs l[i].l) := by unfold capN; split <;> omega
      have hih := ih (t := t) (l := l[i].l) (m := m) (by omega) (by omega) hm
      generalize capN m (fszs l[i].l) = c at *
      repeat (first | refine wk ?_ | refine s_field (hr := ?_))
      refine s_call [] (hA := hih) (hr := ?_)
      repeat (first | refine wk ?_ | refine s_field (hr := ?_))
      exact t_next (i + 1, v + (1 + c)) (a := ⟨by omega, fun h => by dsimp only at h ⊢; omega, fun h => by dsimp only at h ⊢; omega, by dsimp only; omega⟩) (b := by dsimp only; omega)
    · have e5 : fszs (l.drop i) = 0 := by rw [List.drop_of_length_le (by omega)]; rfl
      rw [show capN m (fszs l) = v by unfold capN; rw [if_pos (by omega)]; omega]
      repeat (first | refine wk ?_ | refine s_field (hr := ?_))
      exact fin
  · have h3' := h3 (by omega)
    rw [show capN m (fszs l) = m + 1 by unfold capN; rw [if_neg (by omega)]]
    by_cases hlt : i < l.length
    · repeat (first | refine wk ?_ | refine s_field (hr := ?_))
      exact fin
    · repeat (first | refine wk ?_ | refine s_field (hr := ?_))
      exact fin
theorem fragSize_sim {t : Bool} {l : List Frag} {m : Nat} (h : fszs l ≤ 100000000 := by ((try simp only [List.length_map, List.length_append, List.length_cons, List.length_nil, List.length_replicate, List.length_set, List.length_take, List.length_drop]); first | omega | assumption)) (hm : m ≤ 10000 := by ((try simp only [List.length_map, List.length_append, List.length_cons, List.length_nil, List.length_replicate, List.length_set, List.length_take, List.length_drop]); first | omega | assumption)) : ACalls Try.prog 101 [.d (fragsD t l), I m] [] (I (capN m (fszs l))) [] := fragSize_gen _ (Nat.lt_succ_self _) h hm
def gsum : List (List Frag) → Nat
  | [] => 0
  | x :: r => capN 2000 (fszs x) + gsum r
theorem gsum_append : ∀ (a b : List (List Frag)), gsum (a ++ b) = gsum a + gsum b
  | [], b => by simp [gsum]
  | x :: a, b => by simp only [List.cons_append, gsum, gsum_append a b]; omega
theorem gsum_take {l : List (List Frag)} {i : Nat} (h : i < l.length) : gsum (l.take (i + 1)) = gsum (l.take i) + capN 2000 (fszs l[i]) := by
  rw [List.take_succ_eq_append_getElem h, gsum_append]; simp [gsum]
theorem gsum_split (l : List (List Frag)) (i : Nat) : gsum l = gsum (l.take i) + gsum (l.drop i) := by rw [← gsum_append, List.take_append_drop]
def greatS (s : Step) : Bool := (greatG s.g || decide (400 < s.frags.length) || decide (300 < s.empty.length)) || (decide (20000 < gsum s.frags) || s.empty.any great3)
set_option maxHeartbeats 1000000 in
theorem greatStep_sim {t : Bool} {s : Step} (hs : s.fit) : ACalls Try.prog 27 [.d (stepD t s)] [] (B (greatS s)) [] := by
  refine ACalls.intro (n := 51) Try.func27 rfl rfl (by simp) (by rfl) ?_
  simp only [argFr]
  have hf := hs.frags
  have he := hs.empty
  have hgl := hs.g.rules
  have hgr := hs.g.right
  cases hA : (greatG s.g || decide (400 < s.frags.length) || decide (300 < s.empty.length)) with
  | true =>
    rw [show greatS s = true by unfold greatS; rw [hA]; rfl]
    simp only [Bool.or_eq_true, decide_eq_true_eq] at hA
    repeat (first | refine wk ?_ | refine s_field (hr := ?_))
    refine s_call [] (hA := greatGram_sim hgl hgr) (hr := ?_)
    cases hgg : greatG s.g with
    | true =>
      repeat (first | refine wk ?_ | refine s_field (hr := ?_))
      exact fin
    | false =>
      by_cases h4 : 400 < s.frags.length
      · repeat (first | refine wk ?_ | refine s_field (hr := ?_))
        exact fin
      · have h5 : 300 < s.empty.length := by rcases hA with (h | h) | h; · rw [hgg] at h; cases h
                                             · omega
                                             · exact h
        repeat (first | refine wk ?_ | refine s_field (hr := ?_))
        exact fin
  | false =>
    have hB : greatS s = (decide (20000 < gsum s.frags) || s.empty.any great3) := by unfold greatS; rw [hA]; rfl
    simp only [Bool.or_eq_false_iff, decide_eq_false_iff_not] at hA
    obtain ⟨⟨a1, a2⟩, a3⟩ := hA
    rw [hB]
    repeat (first | refine wk ?_ | refine s_field (hr := ?_))
    refine s_call [] (hA := greatGram_sim hgl hgr) (hr := ?_)
    rw [a1]
    repeat (first | refine wk ?_ | refine s_field (hr := ?_))
    refine t_loop (X := Nat × Nat) (fun x => x.1 ≤ s.frags.length ∧ x.2 = gsum (s.frags.take x.1) ∧ x.2 ≤ 20000) (fun x => [(4, I x.1), (3, I x.2), (1, .ptr 1 0)]) (fun _ => [(1, stepBox t s)]) (fun x => s.frags.length - x.1) (0, 0) ⟨Nat.zero_le _, by simp [gsum], by omega⟩ ?_
    rintro ⟨i, v⟩ ⟨h1, h2, h3⟩
    dsimp only at h1 h2 h3 ⊢
    by_cases hlt : i < s.frags.length
    · have hfi := hs.frag _ (List.getElem_mem hlt)
      have e1 := gsum_take hlt
      have e2 := gsum_split s.frags (i + 1)
      have hc := capN_le 2000 (fszs s.frags[i])
      have hfs := fragSize_sim (t := t) (l := s.frags[i]) (m := 2000) hfi
      generalize capN 2000 (fszs s.frags[i]) = c at *
      by_cases hbig : 20000 < v + c
      · rw [decide_eq_true (show 20000 < gsum s.frags by omega), Bool.true_or]
        repeat (first | refine wk ?_ | refine s_field (hr := ?_))
        refine s_call [] (hA := hfs) (hr := ?_)
        repeat (first | refine wk ?_ | refine s_field (hr := ?_))
        exact fin
      · repeat (first | refine wk ?_ | refine s_field (hr := ?_))
        refine s_call [] (hA := hfs) (hr := ?_)
        repeat (first | refine wk ?_ | refine s_field (hr := ?_))
        exact t_next (i + 1, v + c) (a := ⟨by omega, by dsimp only; omega, by dsimp only; omega⟩) (b := by dsimp only; omega)
    · rw [List.take_of_length_le (by omega)] at h2
      rw [decide_eq_false (show ¬ 20000 < gsum s.frags by omega), Bool.false_or]
      repeat (first | refine wk ?_ | refine s_field (hr := ?_))
      refine t_loop (X := Nat) (fun i => i ≤ s.empty.length ∧ ∀ j, j < i → ∀ (hj : j < s.empty.length), great3 s.empty[j] = false) (fun i => [(5, I i), (1, .ptr 1 0)]) (fun _ => [(1, stepBox t s)]) (fun i => s.empty.length - i) 0 ⟨Nat.zero_le _, fun _ h => by omega⟩ ?_
      rintro i ⟨hi, hp⟩
      by_cases hlt : i < s.empty.length
      · have hc := hs.trees _ (List.getElem_mem hlt)
        cases hg3 : great3 s.empty[i] with
        | true =>
          rw [any_at hlt hg3]
          repeat (first | refine wk ?_ | refine s_field (hr := ?_))
          refine s_call [] (hA := greatTree_sim hc) (hr := ?_)
          repeat (first | refine wk ?_ | refine s_field (hr := ?_))
          exact fin
        | false =>
          repeat (first | refine wk ?_ | refine s_field (hr := ?_))
          refine s_call [] (hA := greatTree_sim hc) (hr := ?_)
          repeat (first | refine wk ?_ | refine s_field (hr := ?_))
          exact t_next (i + 1) (a := ⟨by omega, upto_succ hp (fun _ => hg3)⟩)
      · rw [any_none (fun j hj => hp j (by omega) hj)]
        repeat (first | refine wk ?_ | refine s_field (hr := ?_))
        exact fin
end Go.Proofs.Ytgcagjamjdnglaa
namespace Go.Proofs.Ytgcagjamjdnglaa
open Go.RowKit
set_option maxRecDepth 100000
-- SimX

def makesR (s : Step) (x : Tree) : List Tree × Bool := match valL s x.kids with
  | none => ([], false)
  | some ks => madeR ks (s.frags.getD x.rule.toNat [])
theorem makesR_of {s : Step} {x : Tree} : (valT s x = none ∧ (makesR s x).2 = false) ∨ ∃ a, valT s x = some a ∧ makesR s x = (a, true) ∧ cnts a ≤ 400 := by
  rw [valT_eq]; unfold makesR
  cases valL s x.kids with
  | none => exact .inl ⟨rfl, rfl⟩
  | some ks => exact madeR_of
theorem makesR_none {s : Step} {x : Tree} (h : valL s x.kids = none) : makesR s x = ([], false) := by unfold makesR; rw [h]
set_option maxHeartbeats 4000000 in
theorem makes_sim {t u : Bool} {m : Int} {s : Step} (hs : s.fit) (hok : StepOk m s) : ∀ (x : Tree) (v : Int), fits s.g x v = true → cnt x ≤ 400 →
    ACalls Try.prog 111 [.d (stepD t s), .d (treeA u x)] [] (.tup [.d (treesD false (makesR s x).1), B (makesR s x).2]) [] := by
  refine Tree.ind fun x ih v hf hx => ?_
  refine ACalls.intro (n := 43) Try.func111 rfl rfl (by simp) (by rfl) ?_
  simp only [argFr]
  obtain ⟨r, hr, e1, e2, e3, e4, e5⟩ := fits_parts hf
  have hkl := kids_len (Nat.le_trans hx (show 400 ≤ 100000000 by decide))
  have hfl := hs.frags
  have hgl := hs.g.rules
  repeat (first | refine wk ?_ | refine s_field (hr := ?_))
  refine aw_nil 6 900 29 1 rfl rfl rfl ?_
  refine t_loop (X := Nat × List (List Tree)) (fun y => y.1 ≤ x.kids.length ∧ y.2.length = y.1 ∧ valL s (x.kids.take y.1) = some y.2) (fun y => [(7, I y.1), (6, .own 900 y.2.length), (2, .ptr 2 0), (3, .ptr 3 0)])
    (fun y => [(900, .row 29 1 (y.2.map (treesD false))), (2, stepBox t s), (3, .box 46 [.d (iD x.rule), .d (treesD u x.kids)])]) (fun y => x.kids.length - y.1) (0, []) ⟨Nat.zero_le _, rfl, by simp [valL]⟩ ?_
  rintro ⟨i, K⟩ ⟨h1, h2, h3⟩
  dsimp only at h1 h2 h3 ⊢
  by_cases hlt : i < x.kids.length
  · have hki := fitss_at e4 hlt (show i < (kids s.g.rules[r].right).length by omega)
    have hih := ih x.kids[i] (List.getElem_mem hlt) _ hki (kid_le hx hlt).1
    have hvl := valL_take (s := s) hlt
    rw [h3] at hvl
    rcases makesR_of (s := s) (x := x.kids[i]) with ⟨c1, c2⟩ | ⟨a, c1, c2, c3⟩
    · rw [c2] at hih
      rw [c1] at hvl
      rw [makesR_none (valL_none hvl)]
      repeat (first | refine wk ?_ | refine s_field (hr := ?_))
      refine s_call [] (hA := hih) (hr := ?_)
      repeat (first | refine wk ?_ | refine s_field (hr := ?_))
      exact Fin.r2 rfl (.of_tmp rfl) (.of_tmp rfl) (Co.tup (by repeat' (first | exact trivial | (refine ⟨?_, ?_⟩) | exact Co.refl _ | exact Co.froz rfl rfl | exact Co.froz rfl (by simp) | exact Co.nil _ _))) (by repeat' (first | exact trivial | exact HElt.of rfl)) rfl
    · rw [c2] at hih
      rw [c1] at hvl
      have e : K.map (treesD false) ++ [treesD false a] = (K ++ [a]).map (treesD false) := by rw [List.map_append]; rfl
      repeat (first | refine wk ?_ | refine s_field (hr := ?_))
      refine s_call [] (hA := hih) (hr := ?_)
      repeat (first | refine wk ?_ | refine s_field (hr := ?_))
      rw [e, List.length_map]
      exact t_next (i + 1, K ++ [a]) (a := ⟨by omega, by simp [h2], hvl⟩) (b := by dsimp only; omega)
  · have e0 : x.kids.take i = x.kids := List.take_of_length_le (by omega)
    rw [e0] at h3
    have hrf : r < s.frags.length := by rw [hok.1]; exact hr
    have hgd : s.frags.getD x.rule.toNat [] = s.frags[r] := by rw [e1, Int.toNat_natCast, List.getD_eq_getElem?_getD, List.getElem?_eq_getElem hrf]; rfl
    obtain ⟨k1, k2⟩ := hok.2 r hrf hr
    have hap := made_gen _ (t := t) (l := s.frags[r]) (kids := K) (m := m) (u := List.replicate (kids s.g.rules[r].right).length 0) (Nat.lt_succ_self _) k1 k2 (by rw [List.length_replicate]; omega) (valL_len h3).2 (by omega)
    rw [show makesR s x = madeR K s.frags[r] by unfold makesR; rw [h3, hgd]]
    repeat (first | refine wk ?_ | refine s_field (hr := ?_))
    refine s_callf [] (hA := hap) (hr := ?_)
    repeat (first | refine wk ?_ | refine s_field (hr := ?_))
    exact Fin.r2 rfl (.of_tmp rfl) (.of_tmp rfl) (Co.tup (by repeat' (first | exact trivial | (refine ⟨?_, ?_⟩) | exact Co.refl _ | exact Co.froz rfl rfl | exact Co.froz rfl (by simp) | exact Co.nil _ _))) (by repeat' (first | exact trivial | exact HElt.of rfl)) rfl
set_option maxHeartbeats 4000000 in
theorem backOf_sim {t1 t2 t3 : Bool} {old : Gram} {s : Step} {x : Tree} (ho : old.fit) (hs : s.fit) (hx : cnt x ≤ 100000000) :
    ∃ u : Bool, ACalls Try.prog 33 [.d (gramD t1 old), .d (stepD t2 s), .d (treeA t3 x)] [] (.tup [.d (treeA u (backS old s x).1), .d (faultD (backS old s x).2)]) [] := by
  refine ⟨false, ?_⟩
  refine ACalls.intro (n := 62) Try.func33 rfl rfl (by simp) (by rfl) ?_
  simp only [argFr]
  have hol := ho.rules
  have hgl := hs.g.rules
  have hor := ho.right
  have hgr := hs.g.right
  repeat (first | refine wk ?_ | refine s_field (hr := ?_))
  refine s_call [] (hA := stepFault_sim ho hs) (hr := ?_)
  by_cases h0 : (stepFault old s).code = 0
  rotate_left
  · rw [show backS old s x = (zeroTree, stepFault old s) by unfold backS; rw [if_neg h0]]
    repeat (first | refine wk ?_ | refine s_field (hr := ?_))
    exact fin2
  obtain ⟨hg, hsg, hok⟩ := stepFault_zero h0
  repeat (first | refine wk ?_ | refine s_field (hr := ?_))
  refine s_call [] (hA := treeFault_sim hgl hgr hx) (hr := ?_)
  by_cases h1 : (treeFault s.g x s.g.start).code = 0
  rotate_left
  · rw [show backS old s x = (zeroTree, treeFault s.g x s.g.start) by unfold backS; rw [if_pos h0, if_neg h1]]
    repeat (first | refine wk ?_ | refine s_field (hr := ?_))
    exact fin2
  obtain ⟨_, k1, k2, k3⟩ := treeFault_zero h1
  have hv := makes_sim (t := t2) (u := t3) hs hok x _ k2 k1
  rcases makesR_of (s := s) (x := x) with ⟨c1, c2⟩ | ⟨l, c1, c2, c3⟩
  · rw [c2] at hv
    rw [show backS old s x = (zeroTree, ⟨6, -1⟩) by unfold backS; rw [if_pos h0, if_pos h1, c1]]
    repeat (first | refine wk ?_ | refine s_field (hr := ?_))
    refine s_call [] (hA := hv) (hr := ?_)
    repeat (first | refine wk ?_ | refine s_field (hr := ?_))
    refine s_call [] (hA := f_sim) (hr := ?_)
    repeat (first | refine wk ?_ | refine s_field (hr := ?_))
    exact fin2
  · rw [c2] at hv
    have hll := cnts_len l
    match l, c1, c3, hll, hv with
    | [], c1, c3, hll, hv =>
      rw [show backS old s x = (zeroTree, ⟨18, -1⟩) by unfold backS; rw [if_pos h0, if_pos h1, c1]]
      repeat (first | refine wk ?_ | refine s_field (hr := ?_))
      refine s_call [] (hA := hv) (hr := ?_)
      repeat (first | refine wk ?_ | refine s_field (hr := ?_))
      refine s_call [] (hA := f_sim) (hr := ?_)
      repeat (first | refine wk ?_ | refine s_field (hr := ?_))
      exact fin2
    | [y], c1, c3, hll, hv =>
      have hyc : cnt y ≤ 400 := by simp only [cnts] at c3; omega
      have hv : ACalls Try.prog 111 [.d (stepD t2 s), .d (treeA t3 x)] [] (.tup [.d (.sl false 2 [treeA false y]), B true]) [] := by
        have e : [treeA false y] = [y].map (treeD false) := by simp [treeA_eq]
        rw [e]; exact hv
      repeat (first | refine wk ?_ | refine s_field (hr := ?_))
      refine s_call [] (hA := hv) (hr := ?_)
      repeat (first | refine wk ?_ | refine s_field (hr := ?_))
      refine s_call [] (hA := treeFault_sim (t := t1) (u := false) (x := y) hol hor (Nat.le_trans hyc (by decide))) (hr := ?_)
      by_cases h2 : (treeFault old y old.start).code = 0
      · rw [show backS old s x = (y, ⟨0, 0⟩) by unfold backS; rw [if_pos h0, if_pos h1, c1]; show (if _ then _ else _) = _; rw [if_pos h2]]
        repeat (first | refine wk ?_ | refine s_field (hr := ?_))
        exact fin2
      · rw [show backS old s x = (zeroTree, ⟨18, -1⟩) by unfold backS; rw [if_pos h0, if_pos h1, c1]; show (if _ then _ else _) = _; rw [if_neg h2]]
        repeat (first | refine wk ?_ | refine s_field (hr := ?_))
        refine s_call [] (hA := f_sim) (hr := ?_)
        repeat (first | refine wk ?_ | refine s_field (hr := ?_))
        exact fin2
    | y :: y2 :: l, c1, c3, hll, hv =>
      rw [show backS old s x = (zeroTree, ⟨18, -1⟩) by unfold backS; rw [if_pos h0, if_pos h1, c1]]
      repeat (first | refine wk ?_ | refine s_field (hr := ?_))
      refine s_call [] (hA := hv) (hr := ?_)
      repeat (first | refine wk ?_ | refine s_field (hr := ?_))
      refine s_call [] (hA := f_sim) (hr := ?_)
      repeat (first | refine wk ?_ | refine s_field (hr := ?_))
      exact fin2
end Go.Proofs.Ytgcagjamjdnglaa
