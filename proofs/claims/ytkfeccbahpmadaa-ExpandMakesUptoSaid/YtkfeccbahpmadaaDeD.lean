/-
  Sim: defs.Check, the reference's DefsFault. Sim: defsBegun, DefsDoes, DefsTurns return true.
-/
import Derived.Test.YtkfeccbahpmadaaDeA
set_option linter.unusedVariables false
set_option linter.unusedSimpArgs false
set_option linter.unusedSectionVars false
namespace Go.Proofs.Ytkfeccbahpmadaa
open Go.RowKit
set_option maxRecDepth 100000
-- SimX

def ukL (names : List ByteArray) (b : Bool) (l : List ByteArray) : Bool := b || l.any fun s => !decide (s ∈ names)
theorem ukL_append (names : List ByteArray) (b : Bool) (l m : List ByteArray) : ukL names b (l ++ m) = ukL names (ukL names b l) m := by unfold ukL; rw [List.any_append, Bool.or_assoc]
theorem uk_x (names : List ByteArray) (b : Bool) (x : Expr) : ukL names b (nmd 2 x) = ukL names (if x.op = 1 ∨ x.op = 2 then ukS names b x else b) (nmds 2 x.l) := by
  rw [nmd_eq (.inr rfl), ukL_append]
  congr 1
  unfold ukS ukL
  by_cases h : x.op = 2
  · rw [if_pos h, if_pos (.inr h), decide_eq_true h]; simp
  · rw [if_neg h, decide_eq_false h]
    split <;> simp
set_option maxHeartbeats 2000000 in
theorem eachU_gen {names : List ByteArray} (hnm : names.length ≤ 50000000) : ∀ (N : Nat) {t : Bool} {x : Expr} {b : Bool}, esz x < N → esz x ≤ 10000000 →
    ACalls Try.prog 85 [.d (exprA t x), .fn (.func 86) [] [.ptr 1001 0, .ptr 1002 0]] (ukH names b) (.tup []) (ukH names (ukL names b (nmd 2 x))) := by
  intro N
  induction N with
  | zero => intro t x b h; omega
  | succ N ih =>
  intro t x b hn hN
  refine ACalls.intro (n := 28) Try.func85 rfl rfl (by simp) (by rfl) ?_
  simp only [argFr]
  have hx := esz_eq x
  have hl := eszs_len x.l
  rw [uk_x]
  have hcl := ukF_sim (t := t) (x := x) (b := b) hnm
  generalize hO : (if x.op = 1 ∨ x.op = 2 then ukS names b x else b) = b1
  simp only [ukH] at hcl ⊢
  iterate 5 (refine wk1 ?_)
  refine aw_cut1 [(2, .ptr 2 0), (1, .fn (.func 86) [] [.ptr 1001 0, .ptr 1002 0])] [(2, exprBox t x), (1001, .box 4 [B b1]), (1002, .box 49 [.d (strs false names)])] rfl ?_ ?_
  · by_cases h1 : x.op = 1
    · rw [if_pos (.inl h1)] at hO
      subst hO
      (repeat (first | refine wkz ?_ | refine s_field (hr := ?_)))
      refine s_call [] (hA := hcl) (hr := ?_)
      (repeat (first | refine wkz ?_ | refine s_field (hr := ?_)))
      exact meet
    · by_cases h2 : x.op = 2
      · rw [if_pos (.inr h2)] at hO
        subst hO
        (repeat (first | refine wkz ?_ | refine s_field (hr := ?_)))
        refine s_call [] (hA := hcl) (hr := ?_)
        (repeat (first | refine wkz ?_ | refine s_field (hr := ?_)))
        exact meet
      · rw [if_neg (by omega)] at hO
        subst hO
        (repeat (first | refine wkz ?_ | refine s_field (hr := ?_)))
        exact meet
  repeat (first | refine wk ?_ | refine s_field (hr := ?_))
  refine t_loop (X := Nat) (fun i => i ≤ x.l.length) (fun i => [(20, I i), (19, I x.l.length), (18, .d (exprsD t x.l)), (2, .ptr 2 0), (1, .fn (.func 86) [] [.ptr 1001 0, .ptr 1002 0])]) (fun i => [(2, exprBox t x), (1001, .box 4 [B (ukL names b1 (nmds 2 (x.l.take i)))]), (1002, .box 49 [.d (strs false names)])]) (fun i => x.l.length - i) 0 (Nat.zero_le _) ?_ (hh := ?_)
  rotate_left
  · exact ⟨.of rfl, box_eq rfl (by simp [nmds, atL, ukL]), .of rfl, trivial⟩
  intro i hi
  by_cases hlt : i < x.l.length
  · have hm := eszs_mem (List.getElem_mem hlt)
    have hih := ih (t := t) (x := x.l[i]) (b := ukL names b1 (nmds 2 (x.l.take i))) (by omega) (by omega)
    rw [← ukL_append, ← nmds_take hlt] at hih
    simp only [ukH] at hih
    generalize ukL names b1 (nmds 2 (x.l.take i)) = W at *
    repeat (first | refine wk ?_ | refine s_field (hr := ?_))
    refine s_call [] (hA := hih) (hr := ?_)
    repeat (first | refine wk ?_ | refine s_field (hr := ?_))
    exact t_next (i + 1)
  · rw [show x.l.take i = x.l from List.take_of_length_le (by omega)]
    repeat (first | refine wk ?_ | refine s_field (hr := ?_))
    exact fin
theorem ukL_false (names : List ByteArray) (d : Dfn) : ukL names false (nmd 2 d.e) = unkn names d := by unfold ukL unkn; rw [Bool.false_or]
theorem twice_at {l : List ByteArray} {i : Nat} (h : i < l.length) : twiceAt l i = decide (l[i] ∈ l.take i) := by unfold twiceAt; rw [getD_at h]
section
variable {l : List Dfn} (h0 : (renF l).code = 0)
include h0
theorem defsF_2 {i : Nat} (h1 : i < l.length) (h2 : ∀ j, j < i → ∀ (h : j < (nms l).length), twiceAt (nms l) j = false) (h3 : twiceAt (nms l) i = true) : defsF l = ⟨7, i⟩ := by
  unfold defsF
  rw [if_pos h0, find_first h1 (fun u hu => h2 u hu (by unfold nms; rw [List.length_map]; omega)) h3]
theorem defsF_3 {i : Nat} (h1 : i < l.length) (h2 : ∀ j, j < l.length → twiceAt (nms l) j = false) (h3 : ∀ j, j < i → ∀ (h : j < l.length), unkn (nms l) l[j] = false) (h4 : unkn (nms l) l[i] = true) : defsF l = ⟨8, i⟩ := by
  unfold defsF
  rw [if_pos h0, find_not h2, find_first h1 (fun u hu => by rw [getD_at (by omega)]; exact h3 u hu (by omega)) (by rw [getD_at h1]; exact h4)]
theorem defsF_4 (h2 : ∀ j, j < l.length → twiceAt (nms l) j = false) (h3 : ∀ j, (h : j < l.length) → unkn (nms l) l[j] = false) : defsF l = if 16 < (trms l).length then ⟨6, -1⟩ else ⟨0, 0⟩ := by
  unfold defsF
  rw [if_pos h0, find_not h2, find_not (fun u hu => by rw [getD_at hu]; exact h3 u hu)]
end
structure DefFit (l : List Dfn) : Prop extends ChkFit l where
  l100 : l.length ≤ 100
  e5 : ∀ d ∈ l, esz d.e ≤ 100000
theorem trms_small {l : List Dfn} (hf : DefFit l) : (trms l).length ≤ 10000000 := by
  have hl := hf.l100
  have h1 : (trms (l.take l.length)).length ≤ l.length * 100000 := by
      have : ∀ i, i ≤ l.length → (trms (l.take i)).length ≤ i * 100000 := by
        intro i
        induction i with
        | zero => intro _; simp [trms, addTs]
        | succ i ih =>
          intro hi
          have h1 := addTs_len (nmd 1 l[i].e) (trms (l.take i))
          have h2 := nmd_len 1 l[i].e
          have h3 := hf.e5 _ (List.getElem_mem (show i < l.length by omega))
          have h4 := ih (by omega)
          rw [trms_take (by omega), Nat.add_mul]; omega
      exact this _ (Nat.le_refl _)
  rw [List.take_length] at h1
  omega
set_option maxHeartbeats 8000000 in
theorem defsCheck_sim {t : Bool} {l : List Dfn} (hf : DefFit l) : ACalls Try.prog 29 [.d (textD t l)] [] (.d (faultD (defsF l))) [] := by
  refine ACalls.intro (n := 55) Try.func29 rfl rfl (by simp) (by rfl) ?_
  simp only [argFr]
  have hl := hf.l100
  have hck := check_sim (t := t) hf.toChkFit
  by_cases h0 : (renF l).code = 0
  rotate_left
  · rw [show defsF l = renF l by unfold defsF; rw [if_neg h0]]
    generalize renF l = rf at *
    obtain ⟨c, ca⟩ := rf
    dsimp only at h0
    repeat (first | refine wk ?_ | refine s_field (hr := ?_))
    refine s_call [] (hA := hck) (hr := ?_)
    repeat (first | refine wk ?_ | refine s_field (hr := ?_))
    exact fin
  have d2 := @defsF_2 l h0
  have d3 := @defsF_3 l h0
  have d4 := @defsF_4 l h0
  have hns := names_sim (t := t) (l := l) (by omega)
  have htm := terms_sim (t := t) hl hf.e5
  have hnl : (nms l).length = l.length := by unfold nms; rw [List.length_map]
  rw [(renF_good h0).1] at hck
  have htl2 : (trms l).length ≤ 10000000 := trms_small hf
  generalize hNM : nms l = NM at *
  generalize trms l = TM at *
  repeat (first | refine wk ?_ | refine s_field (hr := ?_))
  refine s_call [] (hA := hck) (hr := ?_)
  repeat (first | refine wk ?_ | refine s_field (hr := ?_))
  refine s_call [] (hA := hns) (hr := ?_)
  repeat (first | refine wk ?_ | refine s_field (hr := ?_))
  refine t_loop (X := Nat) (fun i => i ≤ NM.length ∧ ∀ j, j < i → ∀ (h : j < NM.length), twiceAt NM j = false) (fun i => [(20, I i), (19, I NM.length), (18, .d (strs false NM)), (4, .ptr 4 0), (2, .ptr 2 0), (1, .ptr 1 0)]) (fun _ => [(1, .box 44 [.d (dfnsD t l)]), (2, .box 33 [.d (iD 0), .d (iD 0)]), (4, .box 49 [.d (strs false NM)])]) (fun i => NM.length - i) 0 ⟨Nat.zero_le _, fun _ h => by omega⟩ ?_
  rintro i ⟨hi, hp⟩
  by_cases hlt : i < NM.length
  · have htw := twice_at hlt
    have hcn := containsS_sim (t := false) (l := NM.take i) (s := NM[i]) (by rw [List.length_take]; omega)
    simp only [strs, List.map_take] at hcn
    cases hb : decide (NM[i] ∈ NM.take i) with
    | true =>
      rw [hb] at hcn htw
      rw [d2 (by omega) hp htw]
      repeat (first | refine wk ?_ | refine s_field (hr := ?_))
      refine s_call [] (hA := hcn) (hr := ?_)
      repeat (first | refine wk ?_ | refine s_field (hr := ?_))
      exact fin
    | false =>
      rw [hb] at hcn htw
      repeat (first | refine wk ?_ | refine s_field (hr := ?_))
      refine s_call [] (hA := hcn) (hr := ?_)
      repeat (first | refine wk ?_ | refine s_field (hr := ?_))
      exact t_next (i + 1) (a := ⟨by omega, upto_succ hp (fun _ => htw)⟩)
  have hall : ∀ j, j < l.length → twiceAt NM j = false := fun j h => hp j (by omega) (by omega)
  repeat (first | refine wk ?_ | refine s_field (hr := ?_))
  refine t_loop (X := Nat) (fun i => i ≤ l.length ∧ ∀ j, j < i → ∀ (h : j < l.length), unkn NM l[j] = false) (fun i => [(36, I i), (35, I l.length), (34, .d (dfnsD t l)), (4, .ptr 4 0), (2, .ptr 2 0), (1, .ptr 1 0)]) (fun _ => [(1, .box 44 [.d (dfnsD t l)]), (2, .box 33 [.d (iD 0), .d (iD 0)]), (4, .box 49 [.d (strs false NM)])]) (fun i => l.length - i) 0 ⟨Nat.zero_le _, fun _ h => by omega⟩ ?_
  rintro i2 ⟨hi2, hp2⟩
  by_cases hlt2 : i2 < l.length
  · have hex := hf.ex _ (List.getElem_mem hlt2)
    have hea := eachU_gen (names := NM) (by omega) _ (t := t) (x := l[i2].e) (b := false) (Nat.lt_succ_self _) hex
    rw [ukL_false] at hea
    simp only [ukH] at hea
    cases hb : unkn NM l[i2] with
    | true =>
      rw [hb] at hea
      rw [d3 hlt2 hall hp2 hb]
      repeat (first | refine wk ?_ | refine s_field (hr := ?_))
      refine s_call [(1001, 9), (1002, 4)] (hA := hea) (hr := ?_)
      repeat (first | refine wk ?_ | refine s_field (hr := ?_))
      exact fin
    | false =>
      rw [hb] at hea
      repeat (first | refine wk ?_ | refine s_field (hr := ?_))
      refine s_call [(1001, 9), (1002, 4)] (hA := hea) (hr := ?_)
      repeat (first | refine wk ?_ | refine s_field (hr := ?_))
      exact t_next (i2 + 1) (a := ⟨by omega, upto_succ hp2 (fun _ => hb)⟩)
  have hall2 : ∀ j, (h : j < l.length) → unkn NM l[j] = false := fun j h => hp2 j (by omega) h
  rw [d4 hall hall2]
  by_cases h16 : 16 < TM.length
  · rw [if_pos h16]
    repeat (first | refine wk ?_ | refine s_field (hr := ?_))
    refine s_call [] (hA := htm) (hr := ?_)
    repeat (first | refine wk ?_ | refine s_field (hr := ?_))
    exact fin
  · rw [if_neg h16]
    repeat (first | refine wk ?_ | refine s_field (hr := ?_))
    refine s_call [] (hA := htm) (hr := ?_)
    repeat (first | refine wk ?_ | refine s_field (hr := ?_))
    exact fin
theorem unkn_step {NM W : List ByteArray} {k : Nat} (h : k < W.length) : ((W.drop k).any fun s => !decide (s ∈ NM)) = (!decide (W[k] ∈ NM) || (W.drop (k + 1)).any fun s => !decide (s ∈ NM)) := by
  rw [List.drop_eq_getElem_cons h, List.any_cons]
set_option maxHeartbeats 8000000 in
theorem defsFault_sim {t : Bool} {l : List Dfn} (hf : DefFit l) : ACalls Try.prog 30 [.d (textD t l)] [] (.d (faultD (defsF l))) [] := by
  refine ACalls.intro (n := 69) Try.func30 rfl rfl (by simp) (by rfl) ?_
  simp only [argFr]
  have hl := hf.l100
  have hck := renderFault_sim (t := t) hf.toChkFit
  by_cases h0 : (renF l).code = 0
  rotate_left
  · rw [show defsF l = renF l by unfold defsF; rw [if_neg h0]]
    generalize renF l = rf at *
    obtain ⟨c, ca⟩ := rf
    dsimp only at h0
    repeat (first | refine wk ?_ | refine s_field (hr := ?_))
    refine s_call [] (hA := hck) (hr := ?_)
    repeat (first | refine wk ?_ | refine s_field (hr := ?_))
    exact fin
  have d2 := @defsF_2 l h0
  have d3 := @defsF_3 l h0
  have d4 := @defsF_4 l h0
  have hns := namesOf_sim (t := t) (l := l) (by omega)
  have htm := termsOf_sim (t := t) hl hf.e5
  have hnl : (nms l).length = l.length := by unfold nms; rw [List.length_map]
  rw [(renF_good h0).1] at hck
  have htl2 : (trms l).length ≤ 10000000 := trms_small hf
  generalize hNM : nms l = NM at *
  generalize trms l = TM at *
  repeat (first | refine wk ?_ | refine s_field (hr := ?_))
  refine s_call [] (hA := hck) (hr := ?_)
  repeat (first | refine wk ?_ | refine s_field (hr := ?_))
  refine s_call [] (hA := hns) (hr := ?_)
  repeat (first | refine wk ?_ | refine s_field (hr := ?_))
  refine t_loop (X := Nat) (fun i => i ≤ NM.length ∧ ∀ j, j < i → ∀ (h : j < NM.length), twiceAt NM j = false) (fun i => [(5, I i), (4, .d (strs false NM)), (2, .ptr 2 0), (1, .ptr 1 0)]) (fun _ => [(1, .box 44 [.d (dfnsD t l)]), (2, .box 33 [.d (iD 0), .d (iD 0)])]) (fun i => NM.length - i) 0 ⟨Nat.zero_le _, fun _ h => by omega⟩ ?_
  rintro i ⟨hi, hp⟩
  by_cases hlt : i < NM.length
  · have htw := twice_at hlt
    have hcn := placeOf_sim (t := false) (l := NM.take i) (s := NM[i]) (by rw [List.length_take]; omega)
    have hcm := plc_mem (l := NM.take i) (s := NM[i])
    simp only [strs, List.map_take] at hcn
    generalize plc (NM.take i) NM[i] = pc at *
    cases hb : decide (NM[i] ∈ NM.take i) with
    | true =>
      rw [hb] at hcm htw
      have hpc : 0 ≤ pc := of_decide_eq_true hcm
      rw [d2 (by omega) hp htw]
      repeat (first | refine wk ?_ | refine s_field (hr := ?_))
      refine s_call [] (hA := hcn) (hr := ?_)
      repeat (first | refine wk ?_ | refine s_field (hr := ?_))
      refine s_call [] (hA := f_sim (a := 7) (b := (i : Int))) (hr := ?_)
      repeat (first | refine wk ?_ | refine s_field (hr := ?_))
      exact fin
    | false =>
      rw [hb] at hcm htw
      have hpc : ¬ 0 ≤ pc := of_decide_eq_false hcm
      repeat (first | refine wk ?_ | refine s_field (hr := ?_))
      refine s_call [] (hA := hcn) (hr := ?_)
      repeat (first | refine wk ?_ | refine s_field (hr := ?_))
      exact t_next (i + 1) (a := ⟨by omega, upto_succ hp (fun _ => htw)⟩)
  have hall : ∀ j, j < l.length → twiceAt NM j = false := fun j h => hp j (by omega) (by omega)
  repeat (first | refine wk ?_ | refine s_field (hr := ?_))
  refine t_loop (X := Nat) (fun i => i ≤ l.length ∧ ∀ j, j < i → ∀ (h : j < l.length), unkn NM l[j] = false) (fun i => [(6, I i), (4, .d (strs false NM)), (2, .ptr 2 0), (1, .ptr 1 0)]) (fun _ => [(1, .box 44 [.d (dfnsD t l)]), (2, .box 33 [.d (iD 0), .d (iD 0)])]) (fun i => l.length - i) 0 ⟨Nat.zero_le _, fun _ h => by omega⟩ ?_
  rintro i2 ⟨hi2, hp2⟩
  by_cases hlt2 : i2 < l.length
  · have hex := hf.ex _ (List.getElem_mem hlt2)
    have hnd := named_gen _ (t := t) (x := l[i2].e) (op := 2) (Nat.lt_succ_self _) hex (.inr rfl)
    have hnl2 := nmd_len 2 l[i2].e
    have huk : unkn NM l[i2] = (nmd 2 l[i2].e).any fun s => !decide (s ∈ NM) := rfl
    generalize nmd 2 l[i2].e = W at *
    repeat (first | refine wk ?_ | refine s_field (hr := ?_))
    refine d_loadEP TY rfl gOk_none rfl (IsElt.dfnP hlt2) rfl rfl rfl rfl ?_
    repeat (first | refine wk ?_ | refine s_field (hr := ?_))
    refine s_call [] (hA := hnd) (hr := ?_)
    repeat (first | refine wk ?_ | refine s_field (hr := ?_))
    refine t_loop (X := Nat) (fun k => k ≤ W.length ∧ unkn NM l[i2] = (W.drop k).any fun s => !decide (s ∈ NM)) (fun k => [(8, I k), (7, .d (strs false W)), (6, I i2), (4, .d (strs false NM)), (2, .ptr 2 0), (1, .ptr 1 0)]) (fun _ => [(1, .box 44 [.d (dfnsD t l)]), (2, .box 33 [.d (iD 0), .d (iD 0)])]) (fun k => W.length - k) 0 ⟨Nat.zero_le _, huk⟩ ?_
    rintro k ⟨hk, hk2⟩
    by_cases hlk : k < W.length
    · rw [unkn_step hlk] at hk2
      have hcn := placeOf_sim (t := false) (l := NM) (s := W[k]) (by omega)
      have hcm := plc_lt (l := NM) (s := W[k])
      generalize plc NM W[k] = pc at *
      cases hb : decide (W[k] ∈ NM) with
      | true =>
        rw [hb] at hcm hk2
        have hpc : ¬ pc < 0 := of_decide_eq_false hcm
        repeat (first | refine wk ?_ | refine s_field (hr := ?_))
        refine s_call [] (hA := hcn) (hr := ?_)
        repeat (first | refine wk ?_ | refine s_field (hr := ?_))
        exact t_next (k + 1) (a := ⟨by omega, by simpa using hk2⟩)
      | false =>
        rw [hb] at hcm hk2
        have hpc : pc < 0 := of_decide_eq_true hcm
        rw [d3 hlt2 hall hp2 (by simpa using hk2)]
        repeat (first | refine wk ?_ | refine s_field (hr := ?_))
        refine s_call [] (hA := hcn) (hr := ?_)
        repeat (first | refine wk ?_ | refine s_field (hr := ?_))
        refine s_call [] (hA := f_sim (a := 8) (b := (i2 : Int))) (hr := ?_)
        repeat (first | refine wk ?_ | refine s_field (hr := ?_))
        exact fin
    · rw [List.drop_of_length_le (by omega), List.any_nil] at hk2
      repeat (first | refine wk ?_ | refine s_field (hr := ?_))
      exact t_next (i2 + 1) (a := ⟨by omega, upto_succ hp2 (fun _ => hk2)⟩)
  have hall2 : ∀ j, (h : j < l.length) → unkn NM l[j] = false := fun j h => hp2 j (by omega) h
  rw [d4 hall hall2]
  by_cases h16 : 16 < TM.length
  · rw [if_pos h16]
    repeat (first | refine wk ?_ | refine s_field (hr := ?_))
    refine s_call [] (hA := htm) (hr := ?_)
    repeat (first | refine wk ?_ | refine s_field (hr := ?_))
    refine s_call [] (hA := f_sim (a := 6) (b := -1)) (hr := ?_)
    repeat (first | refine wk ?_ | refine s_field (hr := ?_))
    exact fin
  · rw [if_neg h16]
    repeat (first | refine wk ?_ | refine s_field (hr := ?_))
    refine s_call [] (hA := htm) (hr := ?_)
    repeat (first | refine wk ?_ | refine s_field (hr := ?_))
    exact fin
end Go.Proofs.Ytkfeccbahpmadaa
namespace Go.Proofs.Ytkfeccbahpmadaa
open Go.RowKit
set_option maxRecDepth 100000
-- SimX

def dfsD : List Dfn := [⟨⟨#[83]⟩, 0, .mk 3 ⟨#[]⟩ [.mk 1 ⟨#[98]⟩ [], .mk 2 ⟨#[83]⟩ [], .mk 1 ⟨#[98]⟩ []]⟩]
theorem dszs_mem {d : Dfn} : ∀ {l : List Dfn}, d ∈ l → esz d.e ≤ dszs l
  | x :: l, hd => by
    have ih := fun h => dszs_mem (d := d) (l := l) h
    unfold dszs at *
    rw [List.map_cons, List.sum_cons]
    rcases List.mem_cons.1 hd with rfl | hd
    · omega
    · have := ih hd; omega
theorem great_def {l : List Dfn} (h : greatT l = false) : DefFit l ∧ TextFit l := by
  obtain ⟨h1, h2⟩ := great_fit h
  unfold greatT at h
  simp only [Bool.or_eq_false_iff, decide_eq_false_iff_not] at h
  obtain ⟨g1, ⟨g2, _⟩, _⟩ := h
  have hd := fun d (hd : d ∈ l) => dszs_mem hd
  exact ⟨⟨h1, by omega, fun d h => by have := hd d h; omega⟩, h2⟩
theorem dfsD_fit : DefFit dfsD := (great_def (by kernel_rfl)).1
theorem defsD_eq : defsF dfsD = ⟨0, 0⟩ := by kernel_rfl
theorem trmsD_eq : trms dfsD = [⟨#[98]⟩] := by kernel_rfl
theorem nmsD_eq : nms dfsD = [⟨#[83]⟩] := by kernel_rfl
abbrev nilL : D := .raw (.slice none 0 0)
abbrev litD : D := .agg [.sl false 5 [.agg [sD ⟨#[83]⟩, iD 0, iD 3, sD ⟨#[]⟩, .sl false 3 [.agg [iD 1, sD ⟨#[98]⟩, nilL], .agg [iD 2, sD ⟨#[83]⟩, nilL], .agg [iD 1, sD ⟨#[98]⟩, nilL]]]]]
theorem lit_le {f : FuncId} {r : V} {h' : Hp} (h : ACalls Try.prog f [.d (textD false dfsD)] [] r h') : ACalls Try.prog f [.d litD] [] r h' :=
  h.le ⟨.agg (.cons (.sl (.cons (.agg (.cons (.refl _) (.cons (.refl _) (.cons (.refl _) (.cons (.refl _) (.cons (.sl (.cons (.agg (.cons (.refl _) (.cons (.refl _) (.cons (.nil _ _) .nil)))) (.cons (.agg (.cons (.refl _) (.cons (.refl _) (.cons (.nil _ _) .nil)))) (.cons (.agg (.cons (.refl _) (.cons (.refl _) (.cons (.nil _ _) .nil)))) .nil)))) .nil)))))) .nil)) .nil), trivial⟩
set_option maxHeartbeats 2000000 in
theorem defsBegun_sim : ACalls Try.prog 26 [] [] (B true) [] := by
  refine ACalls.intro (n := 26) Try.func26 rfl rfl (by simp) (by rfl) ?_
  simp only [argFr]
  have h1 := defsCheck_sim (t := false) dfsD_fit
  have h2 := terms_sim (t := false) dfsD_fit.l100 dfsD_fit.e5
  have h3 := names_sim (t := false) (l := dfsD) (by decide)
  rw [defsD_eq] at h1
  rw [trmsD_eq] at h2
  rw [nmsD_eq] at h3
  have k1 := lit_le h1
  have k2 := lit_le h2
  have k3 := lit_le h3
  have s1 := sameStrings_sim (t := false) (u := false) (a := [⟨#[98]⟩]) (b := [⟨#[98]⟩]) (by decide) (by decide)
  have s2 := sameStrings_sim (t := false) (u := false) (a := [⟨#[83]⟩]) (b := [⟨#[83]⟩]) (by decide) (by decide)
  rw [decide_eq_true rfl] at s1 s2
  repeat (first | refine wk ?_ | refine s_field (hr := ?_))
  refine s_callf [] (hA := k1) (hr := ?_)
  repeat (first | refine wk ?_ | refine s_field (hr := ?_))
  refine s_callf [] (hA := k2) (hr := ?_)
  repeat (first | refine wk ?_ | refine s_field (hr := ?_))
  refine s_callf [] (hA := s1) (hr := ?_)
  repeat (first | refine wk ?_ | refine s_field (hr := ?_))
  refine s_callf [] (hA := k3) (hr := ?_)
  repeat (first | refine wk ?_ | refine s_field (hr := ?_))
  refine s_callf [] (hA := s2) (hr := ?_)
  repeat (first | refine wk ?_ | refine s_field (hr := ?_))
  exact fin
set_option maxHeartbeats 4000000 in
theorem defsDoes_sim {t : Bool} {l : List Dfn} (hf : TextFit l) : ACalls Try.prog 5 [.d (textD t l)] [] (B true) [] := by
  refine ACalls.intro (n := 34) Try.func5 rfl rfl (by simp) (by rfl) ?_
  simp only [argFr]
  have hg := greatText_sim (t := t) hf
  cases h : greatT l with
  | true =>
    rw [h] at hg
    repeat (first | refine wk ?_ | refine s_field (hr := ?_))
    refine s_call [] (hA := defsBegun_sim) (hr := ?_)
    repeat (first | refine wk ?_ | refine s_field (hr := ?_))
    refine s_call [] (hA := hg) (hr := ?_)
    repeat (first | refine wk ?_ | refine s_field (hr := ?_))
    exact fin
  | false =>
    rw [h] at hg
    obtain ⟨hc, _⟩ := great_def h
    have ho := ownText_sim (t := t) hc.toChkFit
    have h1 := defsCheck_sim (t := false) hc
    have h2 := defsFault_sim (t := t) hc
    have h3 := names_sim (t := false) (l := l) (by have := hc.l100; omega)
    have h4 := namesOf_sim (t := t) (l := l) (by have := hc.l100; omega)
    have h5 := terms_sim (t := false) hc.l100 hc.e5
    have h6 := termsOf_sim (t := t) hc.l100 hc.e5
    have h7 := sameText_sim (t := false) (u := t) (pl := true) hf hf
    rw [sameT_refl] at h7
    have htl := trms_small hc
    have hnl : (nms l).length = l.length := by unfold nms; rw [List.length_map]
    have hll := hc.l100
    have s1 := sameStrings_sim (t := false) (u := false) (a := nms l) (b := nms l) (by omega) (by omega)
    have s2 := sameStrings_sim (t := false) (u := false) (a := trms l) (b := trms l) (by omega) (by omega)
    rw [decide_eq_true rfl] at s1 s2
    generalize defsF l = rf at *
    generalize nms l = NM at *
    generalize trms l = TM at *
    have q2 : decide (rf = rf) = true := by simp
    repeat (first | refine wk ?_ | refine s_field (hr := ?_))
    refine s_call [] (hA := defsBegun_sim) (hr := ?_)
    repeat (first | refine wk ?_ | refine s_field (hr := ?_))
    refine s_call [] (hA := hg) (hr := ?_)
    repeat (first | refine wk ?_ | refine s_field (hr := ?_))
    refine s_call [] (hA := ho) (hr := ?_)
    repeat (first | refine wk ?_ | refine s_field (hr := ?_))
    refine s_call [] (hA := h1) (hr := ?_)
    repeat (first | refine wk ?_ | refine s_field (hr := ?_))
    refine s_call [] (hA := h2) (hr := ?_)
    repeat (first | refine wk ?_ | refine s_field (hr := ?_))
    refine s_call [] (hA := h3) (hr := ?_)
    repeat (first | refine wk ?_ | refine s_field (hr := ?_))
    refine s_call [] (hA := h4) (hr := ?_)
    repeat (first | refine wk ?_ | refine s_field (hr := ?_))
    refine s_call [] (hA := s1) (hr := ?_)
    repeat (first | refine wk ?_ | refine s_field (hr := ?_))
    refine s_call [] (hA := h5) (hr := ?_)
    repeat (first | refine wk ?_ | refine s_field (hr := ?_))
    refine s_call [] (hA := h6) (hr := ?_)
    repeat (first | refine wk ?_ | refine s_field (hr := ?_))
    refine s_call [] (hA := s2) (hr := ?_)
    repeat (first | refine wk ?_ | refine s_field (hr := ?_))
    refine s_call [] (hA := h7) (hr := ?_)
    repeat (first | refine wk ?_ | refine s_field (hr := ?_))
    exact fin
end Go.Proofs.Ytkfeccbahpmadaa
