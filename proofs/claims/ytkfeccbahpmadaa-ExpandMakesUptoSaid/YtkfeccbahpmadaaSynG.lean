/-
  Sim: syntax.Parse.
-/
import Derived.Test.YtkfeccbahpmadaaSynF
set_option linter.unusedVariables false
set_option linter.unusedSimpArgs false
set_option linter.unusedSectionVars false
namespace Go.Proofs.Ytkfeccbahpmadaa
open Go.RowKit
set_option maxRecDepth 100000
-- SimX

abbrev bxT (c : V) : Ob := .box 44 [c]
abbrev bxF (a b : V) : Ob := .box 33 [a, b]
/-- The deferred call, where nothing went wrong: nothing changes. -/
theorem closN {b c : D} {m sz : Nat} {xs : List D} : ADefer Try.prog 102 (ptrs [1002, 1003]) [(1002, bxT (.own 900 m)), (1003, bxF (.d b) (.d c)), (900, .froz sz xs)] .returning .returning [(1002, bxT (.own 900 m)), (1003, bxF (.d b) (.d c)), (900, .froz sz xs)] := by
  refine ADefer.intro (v := .nilIface) (n := 18) (d1 := 5) (d2 := 2) Try.func102 rfl rfl (by simp [ptrs]) (fun ρ w => rfl) (fun ρ w => rfl) rfl rfl .nil rfl rfl ?_
  simp only [ptrs, List.map_cons, List.map_nil, argFr]
  repeat (first | refine wk ?_ | refine s_field (hr := ?_))
  refine d_neNil (u := .nilIface) (b := true) rfl gOk_none rfl rfl Try.underlying20 ?_
  repeat (first | refine wk ?_ | refine s_field (hr := ?_))
  exact fin
theorem closP {f : Fault} {a b : D} {m sz : Nat} {e : TypeId} {xs : List D} : ADefer Try.prog 102 (ptrs [1002, 1003]) [(1002, bxT (.own 900 m)), (1003, bxF (.d a) (.d b)), (900, .row e sz xs)] (.panicking [{ v := goneV f, recovered := false }]) (.panicking [{ v := goneV f, recovered := true }]) [(1002, bxT (.d (.raw (.slice none 0 0)))), (1003, bxF (I f.code) (I f.at_)), (900, .row e sz xs)] := by
  refine ADefer.intro (v := goneV f) (n := 18) (d1 := 5) (d2 := 2) Try.func102 rfl rfl (by simp [ptrs]) (fun ρ w => rfl) (fun ρ w => rfl) rfl rfl (.pan _) rfl rfl ?_
  simp only [ptrs, List.map_cons, List.map_nil, argFr]
  repeat (first | refine wk ?_ | refine s_field (hr := ?_))
  refine d_neNil (u := goneV f) (b := false) rfl gOk_none rfl rfl Try.underlying20 ?_
  repeat (first | refine wk ?_ | refine s_field (hr := ?_))
  refine d_assert (us := [.int .i64 f.code, .int .i64 f.at_]) rfl gOk_none rfl Try.underlying134 rfl rfl rfl ?_
  repeat (first | refine wk ?_ | refine s_field (hr := ?_))
  exact fin
theorem scanG_len (n : Nat) : ∀ (s : ByteArray) (k : Nat) (acc : List Tk), acc.length ≤ k → k ≤ s.size → (Old.scanG n s k acc).1.length ≤ s.size := by
  induction n with
  | zero => intro s k acc _ _; simp [Old.scanG]
  | succ n ih =>
    intro s k acc h1 h2
    by_cases hk : k < s.size
    · cases hst : Old.stp s k with
      | tok t j =>
        rw [Old.scanG_tok hk hst]
        obtain ⟨g1, g2⟩ := Old.stp_gt hk hst
        have g3 := Old.skp_ge s j false
        exact ih _ _ _ (by simp; omega) (Old.skp_le s j false g2)
      | bad c => rw [Old.scanG_bad hk hst]; simp
    · rw [Old.scanG_end hk]; simp; omega
theorem scanR_len (s : ByteArray) : (Old.scanR s).1.length ≤ 6000 := by
  unfold Old.scanR
  split
  · simp
  · have := scanG_len (s.size + 1) s (Old.skp s 0 false) [] (Nat.zero_le _) (Old.skp_le s 0 false (Nat.zero_le _))
    omega
/-- The definitions so far, where it ends. -/
def lastAcc (fin : Int) : Nat → PS → List Dfn → List Dfn
  | 0, _, acc => acc
  | n + 1, s, acc => if 0 < s.l.length ∨ acc.length = 0 then
      if acc.length = 16 then acc else
        match pDef fin (5 * s.l.length + 8) s with
        | .error _ => acc
        | .ok (d, s') => lastAcc fin n s' (acc ++ [d])
    else acc
abbrev prR (s : ByteArray) : V := .tup [.d (textD false (parseS s).1), .d (faultD (parseS s).2)]
set_option maxHeartbeats 16000000 in
theorem parse_sim (s : ByteArray) (hs : s.size ≤ maxLen) : ACalls Try.prog 43 [Str s] [] (prR s) [] := by
  have hsc := scan_sim s hs
  refine ACalls.introD (n := 49) Try.func43 rfl rfl (by simp) (by rfl) rfl ?_
  rintro ⟨n, w0, S, E0, h0, o, df⟩ hn hd
  dsimp only at hn hd
  subst hn
  subst hd
  simp only [argFr]
  by_cases hf : (Old.scanR s).2.1 = 0
  rotate_left
  · rw [show prR s = .tup [.d (textD false []), .d (faultD ⟨(Old.scanR s).2.1, (Old.scanR s).2.2⟩)] by unfold prR parseS; rw [if_neg hf]]
    refine awT_seq rfl rfl ?_
    repeat (first | refine wk ?_ | refine s_field (hr := ?_))
    refine awT_seq rfl rfl ?_
    repeat (first | refine wk ?_ | refine s_field (hr := ?_))
    refine s_call [] (hA := hsc) (hr := ?_)
    repeat (first | refine wk ?_ | refine s_field (hr := ?_))
    refine awT_seq rfl rfl ?_
    repeat (first | refine wk ?_ | refine s_field (hr := ?_))
    exact fin2
  · have hlen := scanR_len s
    have hsz : (s.size : Int) ≤ 9223372036854775807 := by unfold maxLen at hs; omega
    cases hpt : parseToks s.size (Old.scanR s).1 with
    | ok defs =>
      rw [show prR s = .tup [.d (textD false defs), .d (faultD ⟨0, 0⟩)] by unfold prR parseS; rw [if_pos hf, hpt]]
      generalize (Old.scanR s).1 = toks at *
      generalize (Old.scanR s).2.2 = fat at *
      refine awT_seq rfl rfl ?_
      repeat (first | refine wk ?_ | refine s_field (hr := ?_))
      refine awT_seq rfl rfl ?_
      repeat (first | refine wk ?_ | refine s_field (hr := ?_))
      refine s_call [] (hA := hsc) (hr := ?_)
      repeat (first | refine wk ?_ | refine s_field (hr := ?_))
      refine awT_seq rfl rfl ?_
      repeat (first | refine wk ?_ | refine s_field (hr := ?_))
      refine awT_defer (d1 := 16) (fd := 102) (xs := [.tmp 2, .tmp 3]) [(1002, 2), (1003, 3)] [(1002, bxT (.d (.raw (.slice none 0 0)))), (1003, bxF (.d (iD (Old.scanR s).2.1)) (.d (iD fat)))] [(2, .ptr 1002 0), (3, .ptr 1003 0), (4, .d (tksD toks)), (0, Str s)] [1002, 1003] .returning .returning [(2, 1002), (3, 1003)] [(1002, bxT (.own 900 defs.length)), (1003, bxF (.d (iD 0)) (.d (iD 0))), (900, .froz 5 (defs.map (dfnD false)))] [(1002, bxT (.own 900 defs.length)), (1003, bxF (.d (iD 0)) (.d (iD 0))), (900, .froz 5 (defs.map (dfnD false)))]
        rfl rfl rfl ⟨rfl, rfl, trivial⟩ rfl rfl rfl (fun ρ cs w h => by simp [execOp, resolve, Deferred.ofValue, h]) ⟨_, Try.func102, rfl, rfl⟩ ⟨rfl, rfl, trivial⟩ rfl rfl rfl ⟨⟨rfl, rfl⟩, ⟨rfl, rfl⟩, ⟨rfl, rfl⟩, ⟨rfl, rfl⟩, trivial⟩ rfl rfl rfl rfl rfl rfl rfl (by intro h; cases h) closN
        (vs := [.agg [.own 900 defs.length], .agg [.d (iD 0), .d (iD 0)]]) ⟨.aggT TY rfl rfl rfl rfl rfl, .aggT TY rfl rfl rfl rfl rfl, trivial⟩ (Co.tup ⟨Co.agg ⟨Co.froz rfl (by simp), trivial⟩, Co.agg (Cos.refl _), trivial⟩) rfl ?_
      repeat (first | refine wk ?_ | refine s_field (hr := ?_))
      refine aw_nilCell 1002 0 900 87 5 rfl rfl rfl rfl ?_
      refine t_loop (X := Nat × PS × List Dfn) (fun y => pDefs s.size y.1 y.2.1 y.2.2 = .ok defs ∧ y.2.1.Good ∧ y.2.1.l.length ≤ 6000 ∧ y.2.1.l.length + 1 ≤ y.1 ∧ y.2.2.length ≤ 16) (fun y => [(5, .ptr 21 0), (2, .ptr 1002 0), (3, .ptr 1003 0)])
        (fun y => [(900, .row 87 5 (y.2.2.map (dfnD false))), (21, prB s.size y.2.1.l y.2.1.opn y.2.1.parts), (1002, bxT (.own 900 y.2.2.length)), (1003, bxF (.d (iD (Old.scanR s).2.1)) (.d (iD fat)))]) (fun y => y.2.1.l.length) (toks.length + 2, ⟨toks, 0, 0⟩, []) ⟨hpt, ⟨Int.le_refl 0, by show (0 : Int) ≤ 40; omega, Int.le_refl 0, by show (0 : Int) ≤ 60; omega⟩, hlen, by dsimp only; omega, Nat.zero_le _⟩ ?_
      rintro ⟨q, st, acc⟩ ⟨j1, j2, j3, j4, j5⟩
      dsimp only at j1 j2 j3 j4 j5 ⊢
      obtain ⟨q, rfl⟩ : ∃ q', q = q' + 1 := ⟨q - 1, by omega⟩
      rw [pDefs] at j1
      by_cases hgo : 0 < st.l.length ∨ acc.length = 0
      · rw [if_pos hgo] at j1
        by_cases h16 : acc.length = 16
        · rw [if_pos h16] at j1; cases j1
        rw [if_neg h16] at j1
        have hdf := def_sim (en := s.size) (n := 5 * st.l.length + 8) j2 (by omega) (Nat.le_refl _)
        cases hp : pDef s.size (5 * st.l.length + 8) st with
        | error f => rw [hp] at j1; cases j1
        | ok p =>
          obtain ⟨d, st2⟩ := p
          rw [hp] at j1 hdf
          dsimp only at j1
          replace hdf : ACalls Try.prog 104 [.ptr 1000 0] (prG s.size st.l st.opn st.parts) (.d (dfnD false d)) (prG s.size st2.l st2.opn st2.parts) := hdf
          obtain ⟨b1, b2⟩ := pDef_ok j2 hp
          have e : acc.map (dfnD false) ++ [dfnD false d] = (acc ++ [d]).map (dfnD false) := by rw [List.map_append]; rfl
          by_cases h0 : 0 < st.l.length
          · repeat (first | refine wk ?_ | refine s_field (hr := ?_))
            refine s_call [(1000, 21)] (hA := hdf) (hr := ?_)
            repeat (first | refine wk ?_ | refine s_field (hr := ?_))
            rw [e, List.length_map]
            exact t_next (q, st2, acc ++ [d]) (a := ⟨j1, b1, by dsimp only; omega, by dsimp only; omega, by simp only [List.length_append, List.length_singleton]; omega⟩) (b := by dsimp only; omega)
          · omega
      · rw [if_neg hgo] at j1
        obtain rfl : acc = defs := by injection j1
        refine aw_froz 900 rfl ?_
        repeat (first | refine wk ?_ | refine s_field (hr := ?_))
        exact Or.inr ⟨rfl, ⟨VLe.refl _, VLe.refl _, trivial⟩, ⟨HElt.of rfl, HElt.of rfl, HElt.of rfl, trivial⟩⟩
    | error f =>
      rw [show prR s = .tup [.d (textD false []), .d (faultD f)] by unfold prR parseS; rw [if_pos hf, hpt]]
      generalize (Old.scanR s).1 = toks at *
      obtain ⟨A, hA⟩ : ∃ A, lastAcc s.size (toks.length + 2) ⟨toks, 0, 0⟩ [] = A := ⟨_, rfl⟩
      generalize (Old.scanR s).2.2 = fat at *
      refine awT_seq rfl rfl ?_
      repeat (first | refine wk ?_ | refine s_field (hr := ?_))
      refine awT_seq rfl rfl ?_
      repeat (first | refine wk ?_ | refine s_field (hr := ?_))
      refine s_call [] (hA := hsc) (hr := ?_)
      repeat (first | refine wk ?_ | refine s_field (hr := ?_))
      refine awT_seq rfl rfl ?_
      repeat (first | refine wk ?_ | refine s_field (hr := ?_))
      refine awT_defer (d1 := 16) (fd := 102) (xs := [.tmp 2, .tmp 3]) [(1002, 2), (1003, 3)] [(1002, bxT (.d (.raw (.slice none 0 0)))), (1003, bxF (.d (iD (Old.scanR s).2.1)) (.d (iD fat)))] [(2, .ptr 1002 0), (3, .ptr 1003 0), (4, .d (tksD toks)), (0, Str s)] [1002, 1003] (.panicking [{ v := goneV f, recovered := false }]) (.panicking [{ v := goneV f, recovered := true }]) [(2, 1002), (3, 1003)] [(1002, bxT (.own 900 A.length)), (1003, bxF (.d (iD (Old.scanR s).2.1)) (.d (iD fat))), (900, .row 87 5 (A.map (dfnD false)))] [(1002, bxT (.d (.raw (.slice none 0 0)))), (1003, bxF (I f.code) (I f.at_)), (900, .row 87 5 (A.map (dfnD false)))]
        rfl rfl rfl ⟨rfl, rfl, trivial⟩ rfl rfl rfl (fun ρ cs w h => by simp [execOp, resolve, Deferred.ofValue, h]) ⟨_, Try.func102, rfl, rfl⟩ ⟨rfl, rfl, trivial⟩ rfl rfl rfl ⟨⟨rfl, rfl⟩, ⟨rfl, rfl⟩, ⟨rfl, rfl⟩, ⟨rfl, rfl⟩, trivial⟩ rfl rfl rfl rfl rfl rfl rfl (by intro h; cases h) closP
        (vs := [.agg [.d (.raw (.slice none 0 0))], .agg [I f.code, I f.at_]]) ⟨.aggT TY rfl rfl rfl rfl rfl, .aggT TY rfl rfl rfl rfl rfl, trivial⟩ (Co.tup ⟨Co.agg ⟨Co.nil false 5, trivial⟩, Co.agg (Cos.refl _), trivial⟩) rfl ?_
      repeat (first | refine wk ?_ | refine s_field (hr := ?_))
      refine aw_nilCell 1002 0 900 87 5 rfl rfl rfl rfl ?_
      refine t_loop (X := Nat × PS × List Dfn) (fun y => pDefs s.size y.1 y.2.1 y.2.2 = .error f ∧ lastAcc s.size y.1 y.2.1 y.2.2 = A ∧ y.2.1.Good ∧ y.2.1.l.length ≤ 6000 ∧ y.2.1.l.length + 1 ≤ y.1 ∧ y.2.2.length ≤ 16) (fun y => [(5, .ptr 21 0), (2, .ptr 1002 0), (3, .ptr 1003 0)])
        (fun y => [(900, .row 87 5 (y.2.2.map (dfnD false))), (21, prB s.size y.2.1.l y.2.1.opn y.2.1.parts), (1002, bxT (.own 900 y.2.2.length)), (1003, bxF (.d (iD (Old.scanR s).2.1)) (.d (iD fat)))]) (fun y => y.2.1.l.length) (toks.length + 2, ⟨toks, 0, 0⟩, []) ⟨hpt, hA, ⟨Int.le_refl 0, by show (0 : Int) ≤ 40; omega, Int.le_refl 0, by show (0 : Int) ≤ 60; omega⟩, hlen, by dsimp only; omega, Nat.zero_le _⟩ ?_
      rintro ⟨q, st, acc⟩ ⟨j1, j0, j2, j3, j4, j5⟩
      dsimp only at j0 j1 j2 j3 j4 j5 ⊢
      obtain ⟨q, rfl⟩ : ∃ q', q = q' + 1 := ⟨q - 1, by omega⟩
      rw [pDefs] at j1
      rw [lastAcc] at j0
      by_cases hgo : 0 < st.l.length ∨ acc.length = 0
      · rw [if_pos hgo] at j1 j0
        by_cases h16 : acc.length = 16
        · rw [if_pos h16] at j1 j0
          subst j0
          have hfl := fail_pan (en := s.size) (s := st) (code := 6) (by omega)
          rw [show st.gone s.size 6 = f by injection j1] at hfl
          have h0 : 0 < st.l.length := by omega
          repeat (first | refine wk ?_ | refine s_field (hr := ?_))
          --@
          refine s_panCall [(1000, 21)] [(2, .ptr 1002 0), (3, .ptr 1003 0)] [(1002, some (bxT (.own 900 acc.length))), (1003, some (bxF (.d (iD (Old.scanR s).2.1)) (.d (iD fat)))), (900, some (.row 87 5 (acc.map (dfnD false))))] (hex := by exact (fun p hp => by rcases List.mem_cons.1 hp with rfl | hp; exact rfl; rcases List.mem_cons.1 hp with rfl | hp; exact rfl; rw [List.mem_singleton.1 hp]; rfl)) (hpn := by exact (fun fr' h' h1 h2 => ⟨rfl, ⟨VLe.of (h1 _ List.mem_cons_self), VLe.of (h1 _ (List.mem_cons_of_mem _ List.mem_cons_self)), trivial⟩, ⟨HElt.of (h2 _ List.mem_cons_self), HElt.of (h2 _ (List.mem_cons_of_mem _ List.mem_cons_self)), HElt.of (h2 _ (List.mem_cons_of_mem _ (List.mem_cons_of_mem _ List.mem_cons_self))), trivial⟩⟩)) (hA := hfl)
        rw [if_neg h16] at j1 j0
        have hdf := def_sim (en := s.size) (n := 5 * st.l.length + 8) j2 (by omega) (Nat.le_refl _)
        cases hp : pDef s.size (5 * st.l.length + 8) st with
        | error f2 =>
          rw [hp] at j1 j0 hdf
          obtain rfl : f2 = f := by injection j1
          replace j0 : acc = A := j0
          subst j0
          replace hdf : APan Try.prog 104 [.ptr 1000 0] (prG s.size st.l st.opn st.parts) (goneV f2) jkH := hdf
          have hN : (0 < st.l.length ∧ True) ∨ (st.l = [] ∧ acc.length = 0) := by
            rcases hgo with h | h
            · exact .inl ⟨h, trivial⟩
            · by_cases h0 : 0 < st.l.length
              · exact .inl ⟨h0, trivial⟩
              · exact .inr ⟨List.length_eq_zero_iff.1 (by omega), h⟩
          rcases hN with ⟨h0, _⟩ | ⟨h0, h0'⟩
          · refine aw_orN ?_
            repeat (first | refine wk ?_ | refine s_field (hr := ?_))
            refine s_panCallR [(1000, 21)] [(2, .ptr 1002 0), (3, .ptr 1003 0)] [(1002, some (bxT (.own 900 acc.length))), (1003, some (bxF (.d (iD (Old.scanR s).2.1)) (.d (iD fat)))), (900, some (.row 87 5 (acc.map (dfnD false))))] (hex := by exact (fun p hp => by rcases List.mem_cons.1 hp with rfl | hp; exact rfl; rcases List.mem_cons.1 hp with rfl | hp; exact rfl; rw [List.mem_singleton.1 hp]; rfl)) (hpn := by exact (fun fr' h' h1 h2 => Or.inl ⟨rfl, ⟨VLe.of (h1 _ List.mem_cons_self), VLe.of (h1 _ (List.mem_cons_of_mem _ List.mem_cons_self)), trivial⟩, ⟨HElt.of (h2 _ List.mem_cons_self), HElt.of (h2 _ (List.mem_cons_of_mem _ List.mem_cons_self)), HElt.of (h2 _ (List.mem_cons_of_mem _ (List.mem_cons_of_mem _ List.mem_cons_self))), trivial⟩⟩)) (hA := hdf) (hr := ?_)
            refine d_nev1 43 rfl ?_
            refine d_nev1 43 rfl ?_
            refine wk1 ?_
            refine d_nev1 43 rfl ?_
            refine t_drawn ?_
            exact Or.inr (Nev.slot 43 rfl)
          · have h00 : ¬ 0 < st.l.length := by rw [h0]; simp
            refine aw_orN ?_
            repeat (first | refine wk ?_ | refine s_field (hr := ?_))
            refine s_panCallR [(1000, 21)] [(2, .ptr 1002 0), (3, .ptr 1003 0)] [(1002, some (bxT (.own 900 acc.length))), (1003, some (bxF (.d (iD (Old.scanR s).2.1)) (.d (iD fat)))), (900, some (.row 87 5 (acc.map (dfnD false))))] (hex := by exact (fun p hp => by rcases List.mem_cons.1 hp with rfl | hp; exact rfl; rcases List.mem_cons.1 hp with rfl | hp; exact rfl; rw [List.mem_singleton.1 hp]; rfl)) (hpn := by exact (fun fr' h' h1 h2 => Or.inl ⟨rfl, ⟨VLe.of (h1 _ List.mem_cons_self), VLe.of (h1 _ (List.mem_cons_of_mem _ List.mem_cons_self)), trivial⟩, ⟨HElt.of (h2 _ List.mem_cons_self), HElt.of (h2 _ (List.mem_cons_of_mem _ List.mem_cons_self)), HElt.of (h2 _ (List.mem_cons_of_mem _ (List.mem_cons_of_mem _ List.mem_cons_self))), trivial⟩⟩)) (hA := hdf) (hr := ?_)
            refine d_nev1 43 rfl ?_
            refine d_nev1 43 rfl ?_
            refine wk1 ?_
            refine d_nev1 43 rfl ?_
            refine t_drawn ?_
            exact Or.inr (Nev.slot 43 rfl)
        | ok p =>
          obtain ⟨d, st2⟩ := p
          rw [hp] at j1 j0 hdf
          dsimp only at j1 j0
          replace hdf : ACalls Try.prog 104 [.ptr 1000 0] (prG s.size st.l st.opn st.parts) (.d (dfnD false d)) (prG s.size st2.l st2.opn st2.parts) := hdf
          obtain ⟨b1, b2⟩ := pDef_ok j2 hp
          have e : acc.map (dfnD false) ++ [dfnD false d] = (acc ++ [d]).map (dfnD false) := by rw [List.map_append]; rfl
          have h0 : 0 < st.l.length := by omega
          repeat (first | refine wk ?_ | refine s_field (hr := ?_))
          refine s_call [(1000, 21)] (hA := hdf) (hr := ?_)
          repeat (first | refine wk ?_ | refine s_field (hr := ?_))
          rw [e, List.length_map]
          exact t_next (q, st2, acc ++ [d]) (a := ⟨j1, j0, b1, by dsimp only; omega, by dsimp only; omega, by simp only [List.length_append, List.length_singleton]; omega⟩) (b := by dsimp only; omega)
      · rw [if_neg hgo] at j1; cases j1
end Go.Proofs.Ytkfeccbahpmadaa
