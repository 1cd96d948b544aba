/-
  Sim: (*strings.Builder).WriteString and String; render.whole, the reference's TextOf.
-/
import Derived.Test.YtkfeccbahpmadaaBlA
import Derived.Test.YtkfeccbahpmadaaRnE
import Derived.Test.YtkfeccbahpmadaaSyN
set_option linter.unusedVariables false
set_option linter.unusedSimpArgs false
set_option linter.unusedSectionVars false
namespace Go.Proofs.Ytkfeccbahpmadaa
open Go.RowKit
set_option maxRecDepth 100000
-- SimX

theorem writeS_sim {c0 : V} (hc : c0 = nilP ∨ c0 = .ptr 1000 0) {xs : List D} {s : ByteArray} (h0 : 0 < s.size) (hb : xs.length + s.size ≤ 140737488355328) :
    ACalls Try.prog 152 [.ptr 1000 0, Str s] (bldG c0 xs) (.tup [I s.size, .d (.raw .nilIface)]) (bldG (.ptr 1000 0) (xs ++ byD s)) := by
  refine ACalls.intro (n := 19) Try.func152 rfl rfl (by simp) (by rfl) ?_
  simp only [argFr]
  have hcp := copy_sim hc (xs := xs)
  rcases hc with rfl | rfl <;>
  · simp only [bldG, bldB, nilP] at hcp ⊢
    repeat (first | refine wk ?_ | refine s_field (hr := ?_))
    refine s_call [] (hA := hcp) (hr := ?_)
    repeat (first | refine wk ?_ | refine s_field (hr := ?_))
    refine d_appS TY (s := s) rfl gOk_none rfl rfl rfl rfl rfl rfl rfl rfl rfl rfl rfl rfl h0 hb ?_
    repeat (first | refine wk ?_ | refine s_field (hr := ?_))
    exact Fin.norm (Fin.r2 rfl (.of_tmp rfl) (.of_tmp rfl) (Co.refl _) ⟨.of rfl, .of rfl, trivial⟩ rfl)
theorem bldStr_sim {s : ByteArray} (h0 : 0 < s.size) (hb : s.size ≤ 140737488355328) :
    ACalls Try.prog 154 [.ptr 1000 0] (bldG (.ptr 1000 0) (byD s)) (Str s) [(1000, bldB (.ptr 1000 0) (byD s).length), (1001, .dead (byD s).length)] := by
  refine ACalls.intro (n := 14) Try.func154 rfl rfl (by simp) (by rfl) ?_
  simp only [argFr]
  have hl := byD_len s
  simp only [bldG, bldB]
  repeat (first | refine wk ?_ | refine s_field (hr := ?_))
  refine d_uSlice rfl gOk_none rfl rfl rfl (by omega) ?_
  repeat (first | refine wk ?_ | refine s_field (hr := ?_))
  refine d_uString (s := s) rfl gOk_none rfl rfl rfl hl.symm (by omega) Try.underlying244 (by kernel_rfl) ?_
  repeat (first | refine wk ?_ | refine s_field (hr := ?_))
  exact fin
structure TxFit (l : List Dfn) : Prop where
  len : l.length ≤ 100
  ex : ∀ d ∈ l, esz d.e ≤ 10000000
  nm : ∀ d ∈ l, d.name.size ≤ 5000
  ok : ∀ d ∈ l, xF d.e = 0
theorem dfnT_size {l : List Dfn} (h : TxFit l) {d : Dfn} (hd : d ∈ l) : (dfnT d).size ≤ 200010000 ∧ 0 < (dfnT d).size := by
  have h1 := h.ex d hd
  have h2 := h.nm d hd
  have h3 := txE_size d.e (h.ok d hd)
  simp only [dfnT, ByteArray.size_append, bs_sz, List.length_cons, List.length_nil]; omega
theorem txT_le {l : List Dfn} (h : TxFit l) : ∀ {i : Nat}, i ≤ l.length → (txT (l.take i)).size ≤ i * 200010000
  | 0, _ => by simp [txT, bs_sz]
  | i + 1, hi => by
    have ih := txT_le h (i := i) (by omega)
    have h1 := (dfnT_size h (List.getElem_mem (show i < l.length by omega))).1
    rw [txT_take (by omega), ByteArray.size_append, Nat.add_mul]; omega
set_option maxHeartbeats 4000000 in
theorem whole_sim {t : Bool} {l : List Dfn} (hf : TxFit l) (h0 : 0 < l.length) : ACalls Try.prog 95 [.d (textD t l)] [] (Str (txT l)) [] := by
  refine ACalls.intro (n := 24) Try.func95 rfl rfl (by simp) (by rfl) ?_
  simp only [argFr]
  have hl := hf.len
  repeat (first | refine wk ?_ | refine s_field (hr := ?_))
  refine aw_nilCell 3 1 900 5 1 rfl rfl rfl rfl ?_
  refine t_loop (X := Nat × Bool) (fun s => s.1 ≤ l.length ∧ (s.2 = true ∨ s.1 = 0)) (fun s => [(9, I s.1), (8, I l.length), (7, .d (dfnsD t l)), (3, .ptr 3 0)]) (fun s => [(3, .box 207 [bif s.2 then .ptr 3 0 else nilP, .own 900 (byD (txT (l.take s.1))).length]), (900, .row 5 1 (byD (txT (l.take s.1))))]) (fun s => l.length - s.1) (0, false) ⟨Nat.zero_le _, .inr rfl⟩ ?_
  rintro ⟨i, b⟩ ⟨h1, h2⟩
  dsimp only at h1 h2 ⊢
  have hsz : (txT (l.take i)).size ≤ 20001000000 := by
    have h := txT_le hf h1
    omega
  have hbl := byD_len (txT (l.take i))
  by_cases hlt : i < l.length
  · have hd := List.getElem_mem hlt
    have h3 := hf.ex _ hd
    have h4 := hf.nm _ hd
    have h5 := hf.ok _ hd
    have h6 := txE_size l[i].e h5
    obtain ⟨h7, h8⟩ := dfnT_size hf hd
    have hex := rexpr_gen _ (t := t) (x := l[i].e) (Nat.lt_succ_self _) h3 h5
    have e1 : byD (txT (l.take i)) ++ byD (((l[i].name ++ bs [32, 61, 32]) ++ txE l[i].e) ++ bs [59, 10]) = byD (txT (l.take (i + 1))) := by rw [txT_take hlt, byD_append (txT (l.take i)) (dfnT l[i])]; rfl
    have e2 := congrArg List.length e1
    have hsw : (((l[i].name ++ bs [32, 61, 32]) ++ txE l[i].e) ++ bs [59, 10]).size ≤ 200010000 := h7
    have hs0 : 0 < (((l[i].name ++ bs [32, 61, 32]) ++ txE l[i].e) ++ bs [59, 10]).size := h8
    have hwr := fun c0 hc => writeS_sim (c0 := c0) hc (xs := byD (txT (l.take i))) (s := ((l[i].name ++ bs [32, 61, 32]) ++ txE l[i].e) ++ bs [59, 10]) hs0 (by rw [hbl]; omega)
    simp only [bldG, bldB, nilP] at hwr
    cases b with
    | false =>
      have hw := hwr nilP (.inl rfl)
      simp only [cond_false]
      repeat (first | refine wk ?_ | refine s_field (hr := ?_))
      refine s_call [] (hA := hex) (hr := ?_)
      repeat (first | refine wk ?_ | refine s_field (hr := ?_))
      refine s_call [(1000, 3), (1001, 900)] (hA := hw) (hr := ?_)
      repeat (first | refine wk ?_ | refine s_field (hr := ?_))
      exact t_next (i + 1, true) (a := ⟨by dsimp only; omega, .inl rfl⟩) (b := by dsimp only; omega) (d := ⟨box_eq rfl (by rw [e2]; rfl), row_eq rfl e1, trivial⟩)
    | true =>
      have hw := hwr (.ptr 1000 0) (.inr rfl)
      simp only [cond_true]
      repeat (first | refine wk ?_ | refine s_field (hr := ?_))
      refine s_call [] (hA := hex) (hr := ?_)
      repeat (first | refine wk ?_ | refine s_field (hr := ?_))
      refine s_call [(1000, 3), (1001, 900)] (hA := hw) (hr := ?_)
      repeat (first | refine wk ?_ | refine s_field (hr := ?_))
      exact t_next (i + 1, true) (a := ⟨by dsimp only; omega, .inl rfl⟩) (b := by dsimp only; omega) (d := ⟨box_eq rfl (by rw [e2]; rfl), row_eq rfl e1, trivial⟩)
  · obtain rfl : i = l.length := by omega
    obtain rfl : b = true := by rcases h2 with h | h; exact h; omega
    rw [List.take_length] at hsz ⊢
    have hpos : 0 < (txT l).size := by
      have h9 := (dfnT_size hf (List.getElem_mem h0)).2
      match l, h0, h9 with
      | d :: r, _, h9 => simp only [txT, ByteArray.size_append]; simp only [List.getElem_cons_zero] at h9; omega
    have hst := bldStr_sim (s := txT l) hpos (by omega)
    simp only [bldG, bldB] at hst
    simp only [cond_true]
    repeat (first | refine wk ?_ | refine s_field (hr := ?_))
    refine s_call [(1000, 3), (1001, 900)] (hA := hst) (hr := ?_)
    repeat (first | refine wk ?_ | refine s_field (hr := ?_))
    exact fin
set_option maxHeartbeats 4000000 in
theorem textOf_sim {t : Bool} {l : List Dfn} (hf : TxFit l) : ACalls Try.prog 42 [.d (textD t l)] [] (Str (txT l)) [] := by
  refine ACalls.intro (n := 31) Try.func42 rfl rfl (by simp) (by rfl) ?_
  simp only [argFr]
  have hl := hf.len
  repeat (first | refine wk ?_ | refine s_field (hr := ?_))
  refine t_loop (X := Nat) (fun i => i ≤ l.length) (fun i => [(4, I i), (3, Str (txT (l.take i))), (1, .ptr 1 0)]) (fun _ => [(1, .box 44 [.d (dfnsD t l)])]) (fun i => l.length - i) 0 (Nat.zero_le _) ?_
  intro i hi
  have hsz : (txT (l.take i)).size ≤ 20001000000 := by
    have h := txT_le hf hi
    omega
  by_cases hlt : i < l.length
  · have hd := List.getElem_mem hlt
    have h3 := hf.ex _ hd
    have h4 := hf.nm _ hd
    have h5 := hf.ok _ hd
    have h6 := txE_size l[i].e h5
    have hex := exprText_gen _ (t := t) (x := l[i].e) (Nat.lt_succ_self _) h3 h5
    have e1 := txT_take hlt
    repeat (first | refine wk ?_ | refine s_field (hr := ?_))
    refine d_loadEP TY rfl gOk_none rfl (IsElt.dfnP hlt) rfl rfl rfl rfl ?_
    repeat (first | refine wk ?_ | refine s_field (hr := ?_))
    refine s_call [] (hA := hex) (hr := ?_)
    repeat (first | refine wk ?_ | refine s_field (hr := ?_))
    exact t_next (i + 1) (c := ⟨.of rfl, VLe.of (by rw [e1]; rfl), .of rfl, trivial⟩)
  · rw [show l.take i = l from List.take_of_length_le (by omega)]
    repeat (first | refine wk ?_ | refine s_field (hr := ?_))
    exact fin
end Go.Proofs.Ytkfeccbahpmadaa
