/-
  Sim: the reference's parser: ok, wrong, is, kind, must, part, take, opened. Sim: the reference's parser: item, row, alt. Sim: the reference's parser: row, alt, all.
-/
import Derived.Test.YtgcagjamjdnglaaSyR
import Derived.Test.YtgcagjamjdnglaaSyA
import Derived.Test.YtgcagjamjdnglaaG1
import Derived.Test.YtgcagjamjdnglaaSimSt
import Derived.Test.YtgcagjamjdnglaaSynE
set_option linter.unusedVariables false
set_option linter.unusedSimpArgs false
set_option linter.unusedSectionVars false
namespace Go.Proofs.Ytgcagjamjdnglaa
open Go.RowKit
set_option maxRecDepth 100000
-- SimX

abbrev rdB (L : List Tk) (en : Int) (a : Nat) (o p c ca : Int) : Ob := .box 158 [.d (tksD L), I en, I a, I o, I p, I c, I ca]
abbrev rdG (L : List Tk) (en : Int) (r : RS) : Hp := [(1000, rdB L en r.at_ r.opn r.parts r.f.code r.f.at_)]
theorem at_cases (L : List Tk) (a : Nat) : (¬ a < L.length ∧ L.drop a = []) ∨ (∃ h : a < L.length, L.drop a = L[a] :: L.drop (a + 1)) := by
  by_cases h : a < L.length
  · exact .inr ⟨h, List.drop_eq_getElem_cons h⟩
  · exact .inl ⟨h, List.drop_of_length_le (by omega)⟩
section
variable {L : List Tk} {en : Int}
theorem rOk_sim {r : RS} : ACalls Try.prog 118 [.ptr 1000 0] (rdG L en r) (B r.ok) (rdG L en r) := by
  refine ACalls.intro (n := 9) Try.func118 rfl rfl (by simp) (by rfl) ?_
  simp only [argFr]
  obtain ⟨a, o, p, c, ca⟩ := r
  repeat (first | refine wk ?_ | refine s_field (hr := ?_))
  exact fin
theorem rWrong_sim {r : RS} {code : Int} (hl : L.length ≤ 10000) : ACalls Try.prog 119 [.ptr 1000 0, I code] (rdG L en r) (.tup []) (rdG L en (r.wrong L en code)) := by
  refine ACalls.intro (n := 44) Try.func119 rfl rfl (by simp) (by rfl) ?_
  simp only [argFr]
  have hok := rOk_sim (L := L) (en := en) (r := r)
  obtain ⟨a, o, p, c, ca⟩ := r
  by_cases hc : c = 0
  rotate_left
  · rw [RS.wrong_bad (r := ⟨a, o, p, c, ca⟩) hc]
    rw [RS.not_ok (r := ⟨a, o, p, c, ca⟩) hc] at hok
    simp only [rdG] at hok ⊢
    repeat (first | refine wk ?_ | refine s_field (hr := ?_))
    refine s_call [] (hA := hok) (hr := ?_)
    repeat (first | refine wk ?_ | refine s_field (hr := ?_))
    exact fin
  rw [wrong_ok (r := ⟨a, o, p, c, ca⟩) hc]
  rw [show RS.ok ⟨a, o, p, c, ca⟩ = true from decide_eq_true hc] at hok
  unfold RS.ps PS.gone
  rcases at_cases L a with ⟨h1, e⟩ | ⟨h1, e⟩
  · rw [e]
    simp only [rdG] at hok ⊢
    by_cases h3 : code = 3
    · rw [if_pos h3]
      repeat (first | refine wk ?_ | refine s_field (hr := ?_))
      refine s_call [] (hA := hok) (hr := ?_)
      repeat (first | refine wk ?_ | refine s_field (hr := ?_))
      refine s_call [] (hA := f_sim (a := 4) (b := en)) (hr := ?_)
      repeat (first | refine wk ?_ | refine s_field (hr := ?_))
      exact fin
    · rw [if_neg h3]
      repeat (first | refine wk ?_ | refine s_field (hr := ?_))
      refine s_call [] (hA := hok) (hr := ?_)
      repeat (first | refine wk ?_ | refine s_field (hr := ?_))
      refine s_call [] (hA := f_sim (a := code) (b := en)) (hr := ?_)
      repeat (first | refine wk ?_ | refine s_field (hr := ?_))
      exact fin
  · rw [e]
    simp only [rdG] at hok ⊢
    repeat (first | refine wk ?_ | refine s_field (hr := ?_))
    refine s_call [] (hA := hok) (hr := ?_)
    repeat (first | refine wk ?_ | refine s_field (hr := ?_))
    refine s_call [] (hA := f_sim (a := code) (b := L[a].at_)) (hr := ?_)
    repeat (first | refine wk ?_ | refine s_field (hr := ?_))
    exact fin
theorem rKind_sim {r : RS} (hl : L.length ≤ 10000) : ACalls Try.prog 120 [.ptr 1000 0] (rdG L en r) (I (r.kind L)) (rdG L en r) := by
  refine ACalls.intro (n := 29) Try.func120 rfl rfl (by simp) (by rfl) ?_
  simp only [argFr]
  have hok := rOk_sim (L := L) (en := en) (r := r)
  obtain ⟨a, o, p, c, ca⟩ := r
  by_cases hc : c = 0
  rotate_left
  · rw [RS.kind_bad (r := ⟨a, o, p, c, ca⟩) hc]
    rw [RS.not_ok (r := ⟨a, o, p, c, ca⟩) hc] at hok
    simp only [rdG] at hok ⊢
    repeat (first | refine wk ?_ | refine s_field (hr := ?_))
    refine s_call [] (hA := hok) (hr := ?_)
    (repeat (first | refine wkz ?_ | refine s_field (hr := ?_)))
    exact fin
  unfold RS.kind
  rw [show RS.ok ⟨a, o, p, c, ca⟩ = true from decide_eq_true hc, if_pos rfl]
  rw [show RS.ok ⟨a, o, p, c, ca⟩ = true from decide_eq_true hc] at hok
  rcases at_cases L a with ⟨h1, e⟩ | ⟨h1, e⟩
  · rw [e]
    simp only [rdG] at hok ⊢
    repeat (first | refine wk ?_ | refine s_field (hr := ?_))
    refine s_call [] (hA := hok) (hr := ?_)
    repeat (first | refine wk ?_ | refine s_field (hr := ?_))
    exact fin
  · rw [e]
    simp only [rdG] at hok ⊢
    repeat (first | refine wk ?_ | refine s_field (hr := ?_))
    refine s_call [] (hA := hok) (hr := ?_)
    repeat (first | refine wk ?_ | refine s_field (hr := ?_))
    exact fin
set_option maxHeartbeats 2000000 in
theorem rIs_sim {r : RS} {x : ByteArray} (hl : L.length ≤ 10000) : ACalls Try.prog 183 [.ptr 1000 0, Str x] (rdG L en r) (B (r.is L x)) (rdG L en r) := by
  refine ACalls.intro (n := 48) Try.func183 rfl rfl (by simp) (by rfl) ?_
  simp only [argFr]
  have hok := rOk_sim (L := L) (en := en) (r := r)
  obtain ⟨a, o, p, c, ca⟩ := r
  by_cases hc : c = 0
  rotate_left
  · rw [RS.is_bad (r := ⟨a, o, p, c, ca⟩) hc]
    rw [RS.not_ok (r := ⟨a, o, p, c, ca⟩) hc] at hok
    simp only [rdG] at hok ⊢
    repeat (first | refine wk ?_ | refine s_field (hr := ?_))
    refine s_call [] (hA := hok) (hr := ?_)
    (repeat (first | refine wkz ?_ | refine s_field (hr := ?_)))
    exact fin
  unfold RS.is PS.sign RS.ps
  rw [show RS.ok ⟨a, o, p, c, ca⟩ = true from decide_eq_true hc, Bool.true_and]
  rw [show RS.ok ⟨a, o, p, c, ca⟩ = true from decide_eq_true hc] at hok
  rcases at_cases L a with ⟨h1, e⟩ | ⟨h1, e⟩
  · rw [e]
    simp only [rdG] at hok ⊢
    repeat (first | refine wk ?_ | refine s_field (hr := ?_))
    refine s_call [] (hA := hok) (hr := ?_)
    (repeat (first | refine wkz ?_ | refine s_field (hr := ?_)))
    exact fin
  · rw [e]
    simp only [rdG] at hok ⊢
    by_cases h3 : L[a].kind = 3
    · rw [decide_eq_true h3, Bool.true_and]
      repeat (first | refine wk ?_ | refine s_field (hr := ?_))
      refine s_call [] (hA := hok) (hr := ?_)
      (repeat (first | refine wkz ?_ | refine s_field (hr := ?_)))
      exact fin
    · rw [decide_eq_false h3, Bool.false_and]
      repeat (first | refine wk ?_ | refine s_field (hr := ?_))
      refine s_call [] (hA := hok) (hr := ?_)
      (repeat (first | refine wkz ?_ | refine s_field (hr := ?_)))
      exact fin
theorem rMust_sim {r : RS} {x : ByteArray} (hl : L.length ≤ 10000) : ACalls Try.prog 121 [.ptr 1000 0, Str x] (rdG L en r) (.tup []) (rdG L en (r.must L en x)) := by
  refine ACalls.intro (n := 17) Try.func121 rfl rfl (by simp) (by rfl) ?_
  simp only [argFr]
  have his := rIs_sim (L := L) (en := en) (r := r) (x := x) hl
  have hw := rWrong_sim (L := L) (en := en) (r := r) (code := 3) hl
  unfold RS.must
  cases hc : r.is L x with
  | true =>
    rw [hc] at his
    rw [if_pos rfl]
    have hlt := (is_lt hc).1
    obtain ⟨a, o, p, c, ca⟩ := r
    dsimp only [RS.adv] at his hlt ⊢
    repeat (first | refine wk ?_ | refine s_field (hr := ?_))
    refine s_call [] (hA := his) (hr := ?_)
    repeat (first | refine wk ?_ | refine s_field (hr := ?_))
    exact fin
  | false =>
    rw [hc] at his
    rw [if_neg (by decide)]
    generalize r.wrong L en 3 = q at *
    obtain ⟨a, o, p, c, ca⟩ := r
    obtain ⟨a', o', p', c', ca'⟩ := q
    simp only [rdG] at *
    repeat (first | refine wk ?_ | refine s_field (hr := ?_))
    refine s_call [] (hA := his) (hr := ?_)
    repeat (first | refine wk ?_ | refine s_field (hr := ?_))
    refine s_call [] (hA := hw) (hr := ?_)
    repeat (first | refine wk ?_ | refine s_field (hr := ?_))
    exact fin
theorem rPart_sim {r : RS} (hl : L.length ≤ 10000) (g : RGood L r) : ACalls Try.prog 185 [.ptr 1000 0] (rdG L en r) (.tup []) (rdG L en (r.part L en)) := by
  refine ACalls.intro (n := 16) Try.func185 rfl rfl (by simp) (by rfl) ?_
  simp only [argFr]
  have hw := rWrong_sim (L := L) (en := en) (r := r) (code := 6) hl
  have hwp := (wrong_to (en := en) g (c := 6) (by decide)).2.2.1
  obtain ⟨g1, g2, g3, g4, g5, g6⟩ := g
  unfold RS.part
  by_cases h60 : 60 ≤ r.parts
  · rw [if_pos h60]
    have h61 : (r.wrong L en 6).parts ≤ 61 := by omega
    have h62 : 0 ≤ (r.wrong L en 6).parts := by omega
    generalize r.wrong L en 6 = q at *
    obtain ⟨a, o, p, c, ca⟩ := q
    dsimp only [RS.more] at *
    repeat (first | refine wk ?_ | refine s_field (hr := ?_))
    refine s_call [] (hA := hw) (hr := ?_)
    repeat (first | refine wk ?_ | refine s_field (hr := ?_))
    exact fin
  · rw [if_neg h60]
    obtain ⟨a, o, p, c, ca⟩ := r
    dsimp only [RS.more] at *
    repeat (first | refine wk ?_ | refine s_field (hr := ?_))
    exact fin
theorem rTake_sim {r : RS} (hl : L.length ≤ 10000) (hlt : r.at_ < L.length) : ACalls Try.prog 242 [.ptr 1000 0] (rdG L en r) (Str (r.txt L)) (rdG L en r.adv) := by
  refine ACalls.intro (n := 22) Try.func242 rfl rfl (by simp) (by rfl) ?_
  simp only [argFr]
  obtain ⟨a, o, p, c, ca⟩ := r
  replace hlt : a < L.length := hlt
  unfold RS.txt
  rw [show L.drop (RS.at_ ⟨a, o, p, c, ca⟩) = L[a] :: L.drop (a + 1) from List.drop_eq_getElem_cons hlt]
  dsimp only [RS.adv]
  have e1 : (a : Int) + 1 - 1 = ((a : Nat) : Int) := by omega
  repeat (first | refine wk ?_ | refine s_field (hr := ?_))
  --@
  exact fin
def openR : Option (Int × ByteArray) → V
  | none => .tup [Str ⟨#[]⟩, I 0]
  | some (op, e) => .tup [Str e, I op]
/-- What is to come from the i-th kind of brackets on. -/
def openFrom (L : List Tk) (r : RS) : Nat → V
  | 0 => if r.is L (sgn 40) = true then .tup [Str (sgn 41), I 0] else openFrom L r 1
  | 1 => if r.is L (sgn 91) = true then .tup [Str (sgn 93), I 5] else openFrom L r 2
  | 2 => if r.is L (sgn 123) = true then .tup [Str (sgn 125), I 6] else openFrom L r 3
  | 3 => if r.is L (sgn 60) = true then .tup [Str (sgn 62), I 7] else openFrom L r 4
  | _ => .tup [Str ⟨#[]⟩, I 0]
termination_by i => 4 - i
theorem openFrom_4 (r : RS) : openFrom L r 4 = .tup [Str ⟨#[]⟩, I 0] := by
  rw [openFrom] <;> simp
theorem openR_from (r : RS) : openR (r.opened L) = openFrom L r 0 := by
  rw [openFrom, openFrom, openFrom, openFrom, openFrom_4]
  unfold RS.opened PS.bracket RS.is
  cases hok : r.ok with
  | false => simp [openR]
  | true =>
    simp only [Bool.true_and]
    repeat' split
    all_goals (first | rfl | simp_all)
set_option maxHeartbeats 4000000 in
theorem rOpened_sim {r : RS} (hl : L.length ≤ 10000) : ACalls Try.prog 243 [.ptr 1000 0] (rdG L en r) (openR (r.opened L)) (rdG L en r) := by
  refine ACalls.intro (n := 27) Try.func243 rfl rfl (by simp) (by rfl) ?_
  simp only [argFr]
  rw [openR_from]
  have h0 := rIs_sim (L := L) (en := en) (r := r) (x := sgn 40) hl
  have h1 := rIs_sim (L := L) (en := en) (r := r) (x := sgn 91) hl
  have h2 := rIs_sim (L := L) (en := en) (r := r) (x := sgn 123) hl
  have h3 := rIs_sim (L := L) (en := en) (r := r) (x := sgn 60) hl
  have e0 : ByteArray.extract ⟨#[40, 91, 123, 60]⟩ 0 1 = sgn 40 := by kernel_rfl
  have e1 : ByteArray.extract ⟨#[40, 91, 123, 60]⟩ 1 2 = sgn 91 := by kernel_rfl
  have e2 : ByteArray.extract ⟨#[40, 91, 123, 60]⟩ 2 3 = sgn 123 := by kernel_rfl
  have e3 : ByteArray.extract ⟨#[40, 91, 123, 60]⟩ 3 4 = sgn 60 := by kernel_rfl
  have k0 : ByteArray.extract ⟨#[41, 93, 125, 62]⟩ 0 1 = sgn 41 := by kernel_rfl
  have k1 : ByteArray.extract ⟨#[41, 93, 125, 62]⟩ 1 2 = sgn 93 := by kernel_rfl
  have k2 : ByteArray.extract ⟨#[41, 93, 125, 62]⟩ 2 3 = sgn 125 := by kernel_rfl
  have k3 : ByteArray.extract ⟨#[41, 93, 125, 62]⟩ 3 4 = sgn 62 := by kernel_rfl
  obtain ⟨f, hf⟩ : ∃ f, openFrom L r = f := ⟨_, rfl⟩
  have f0 : f 0 = if r.is L (sgn 40) = true then .tup [Str (sgn 41), I 0] else f 1 := by rw [← hf, openFrom]
  have f1 : f 1 = if r.is L (sgn 91) = true then .tup [Str (sgn 93), I 5] else f 2 := by rw [← hf, openFrom]
  have f2 : f 2 = if r.is L (sgn 123) = true then .tup [Str (sgn 125), I 6] else f 3 := by rw [← hf, openFrom]
  have f3 : f 3 = if r.is L (sgn 60) = true then .tup [Str (sgn 62), I 7] else f 4 := by rw [← hf, openFrom]
  have f4 : f 4 = .tup [Str ⟨#[]⟩, I 0] := by rw [← hf, openFrom_4]
  rw [hf]
  generalize r.is L (sgn 40) = b0 at *
  generalize r.is L (sgn 91) = b1 at *
  generalize r.is L (sgn 123) = b2 at *
  generalize r.is L (sgn 60) = b3 at *
  clear hf
  obtain ⟨a, o, p, c, ca⟩ := r
  simp only [rdG] at *
  repeat (first | refine wk ?_ | refine s_field (hr := ?_))
  refine t_loop (X := Nat) (fun i => i ≤ 4 ∧ f 0 = f i) (fun i => [(6, I i), (5, Str ⟨#[41, 93, 125, 62]⟩), (4, Str ⟨#[40, 91, 123, 60]⟩), (0, .ptr 1000 0)]) (fun _ => [(1000, rdB L en a o p c ca)]) (fun i => 4 - i) 0 ⟨Nat.zero_le _, rfl⟩ ?_
  rintro i ⟨hi, hp⟩
  match i, hi, hp with
  | 0, _, hp =>
    cases b0 with
    | true =>
      rw [f0, if_pos rfl]
      repeat (first | refine wk ?_ | refine s_field (hr := ?_))
      refine s_sliceStr TY 0 1 (hr := ?_)
      rw [e0]
      repeat (first | refine wk ?_ | refine s_field (hr := ?_))
      refine s_call [] (hA := h0) (hr := ?_)
      repeat (first | refine wk ?_ | refine s_field (hr := ?_))
      --@
      refine s_sliceStr TY 0 1 (hr := ?_)
      rw [k0]
      repeat (first | refine wk ?_ | refine s_field (hr := ?_))
      exact fin
    | false =>
      rw [if_neg (by decide)] at f0
      repeat (first | refine wk ?_ | refine s_field (hr := ?_))
      refine s_sliceStr TY 0 1 (hr := ?_)
      rw [e0]
      repeat (first | refine wk ?_ | refine s_field (hr := ?_))
      refine s_call [] (hA := h0) (hr := ?_)
      repeat (first | refine wk ?_ | refine s_field (hr := ?_))
      exact t_next 1 (a := ⟨by decide, f0⟩)
  | 1, _, hp =>
    cases b1 with
    | true =>
      rw [hp, f1, if_pos rfl]
      repeat (first | refine wk ?_ | refine s_field (hr := ?_))
      refine s_sliceStr TY 1 2 (hr := ?_)
      rw [e1]
      repeat (first | refine wk ?_ | refine s_field (hr := ?_))
      refine s_call [] (hA := h1) (hr := ?_)
      repeat (first | refine wk ?_ | refine s_field (hr := ?_))
      refine s_sliceStr TY 1 2 (hr := ?_)
      rw [k1]
      repeat (first | refine wk ?_ | refine s_field (hr := ?_))
      exact fin
    | false =>
      rw [if_neg (by decide)] at f1
      repeat (first | refine wk ?_ | refine s_field (hr := ?_))
      refine s_sliceStr TY 1 2 (hr := ?_)
      rw [e1]
      repeat (first | refine wk ?_ | refine s_field (hr := ?_))
      refine s_call [] (hA := h1) (hr := ?_)
      repeat (first | refine wk ?_ | refine s_field (hr := ?_))
      exact t_next 2 (a := ⟨by decide, hp.trans f1⟩)
  | 2, _, hp =>
    cases b2 with
    | true =>
      rw [hp, f2, if_pos rfl]
      repeat (first | refine wk ?_ | refine s_field (hr := ?_))
      refine s_sliceStr TY 2 3 (hr := ?_)
      rw [e2]
      repeat (first | refine wk ?_ | refine s_field (hr := ?_))
      refine s_call [] (hA := h2) (hr := ?_)
      repeat (first | refine wk ?_ | refine s_field (hr := ?_))
      refine s_sliceStr TY 2 3 (hr := ?_)
      rw [k2]
      repeat (first | refine wk ?_ | refine s_field (hr := ?_))
      exact fin
    | false =>
      rw [if_neg (by decide)] at f2
      repeat (first | refine wk ?_ | refine s_field (hr := ?_))
      refine s_sliceStr TY 2 3 (hr := ?_)
      rw [e2]
      repeat (first | refine wk ?_ | refine s_field (hr := ?_))
      refine s_call [] (hA := h2) (hr := ?_)
      repeat (first | refine wk ?_ | refine s_field (hr := ?_))
      exact t_next 3 (a := ⟨by decide, hp.trans f2⟩)
  | 3, _, hp =>
    cases b3 with
    | true =>
      rw [hp, f3, if_pos rfl]
      repeat (first | refine wk ?_ | refine s_field (hr := ?_))
      refine s_sliceStr TY 3 4 (hr := ?_)
      rw [e3]
      repeat (first | refine wk ?_ | refine s_field (hr := ?_))
      refine s_call [] (hA := h3) (hr := ?_)
      repeat (first | refine wk ?_ | refine s_field (hr := ?_))
      refine s_sliceStr TY 3 4 (hr := ?_)
      rw [k3]
      repeat (first | refine wk ?_ | refine s_field (hr := ?_))
      exact fin
    | false =>
      rw [if_neg (by decide)] at f3
      repeat (first | refine wk ?_ | refine s_field (hr := ?_))
      refine s_sliceStr TY 3 4 (hr := ?_)
      rw [e3]
      repeat (first | refine wk ?_ | refine s_field (hr := ?_))
      refine s_call [] (hA := h3) (hr := ?_)
      repeat (first | refine wk ?_ | refine s_field (hr := ?_))
      exact t_next 4 (a := ⟨by decide, hp.trans f3⟩)
  | 4, _, hp =>
    rw [hp, f4]
    repeat (first | refine wk ?_ | refine s_field (hr := ?_))
    exact fin
end
end Go.Proofs.Ytgcagjamjdnglaa
namespace Go.Proofs.Ytgcagjamjdnglaa
open Go.RowKit
set_option maxRecDepth 100000
-- SimX

theorem opened_some {L : List Tk} {r : RS} {op : Int} {e : ByteArray} (h : r.opened L = some (op, e)) : e ≠ ⟨#[]⟩ ∧ (op = 0 ∨ 0 < op) := by
  unfold RS.opened PS.bracket at h
  split at h
  · repeat' (split at h)
    all_goals first | (cases h; exact ⟨by decide, by decide⟩) | (injection h with h; injection h with h1 h2; subst h1; subst h2; exact ⟨by decide, by decide⟩) | cases h
  · cases h
section
variable {L : List Tk} {en : Int}
abbrev AltC (L : List Tk) (en : Int) (m : Nat) (r : RS) : Prop := ACalls Try.prog 122 [.ptr 1000 0] (rdG L en r) (.d (exprA false (rAlt L en m r).1)) (rdG L en (rAlt L en m r).2)
abbrev RowC (L : List Tk) (en : Int) (m : Nat) (r : RS) : Prop := ACalls Try.prog 184 [.ptr 1000 0] (rdG L en r) (.d (exprA false (rRow L en m r).1)) (rdG L en (rRow L en m r).2)
abbrev ItemC (L : List Tk) (en : Int) (m : Nat) (r : RS) : Prop := ACalls Try.prog 225 [.ptr 1000 0] (rdG L en r) (.tup [.d (exprA false (rItem L en m r).1), B (rItem L en m r).2.1]) (rdG L en (rItem L en m r).2.2)
set_option maxHeartbeats 4000000 in
theorem rItem_none (hl : L.length ≤ 10000) {r : RS} (h1 : ¬ (r.kind L = 1 ∨ r.kind L = 2)) (h2 : r.opened L = none) : ACalls Try.prog 225 [.ptr 1000 0] (rdG L en r) (.tup [.d (exprA false zeroX), B false]) (rdG L en r) := by
  have hk := rKind_sim (en := en) (r := r) hl
  have ho := rOpened_sim (en := en) (r := r) hl
  rw [h2] at ho
  generalize r.kind L = k at *
  obtain ⟨a, o, p, c, ca⟩ := r
  simp only [rdG, openR] at hk ho ⊢
  have k1 : ¬ k = 1 := fun h => h1 (.inl h)
  have k2 : ¬ k = 2 := fun h => h1 (.inr h)
  refine ACalls.intro (n := 85) Try.func225 rfl rfl (by simp) (by rfl) ?_
  simp only [argFr]
  repeat (first | refine wk ?_ | refine s_field (hr := ?_))
  refine s_call [] (hA := hk) (hr := ?_)
  repeat (first | refine wk ?_ | refine s_field (hr := ?_))
  refine s_call [] (hA := ho) (hr := ?_)
  repeat (first | refine wk ?_ | refine s_field (hr := ?_))
  --@
  exact Fin.r2 rfl (.aggT TY rfl rfl rfl rfl rfl) (.of_tmp rfl) (Co.tup (by repeat' (first | exact trivial | (refine ⟨?_, ?_⟩) | exact Co.refl _ | exact Co.froz rfl rfl | exact Co.froz rfl (by simp) | exact Co.nil _ _ | exact Co.nil false _ | exact Co.agg (Cos.refl _) | (refine Co.agg ?_)))) (by repeat' (first | exact trivial | exact HElt.of rfl | refine And.intro ?_ ?_)) rfl
set_option maxHeartbeats 8000000 in
theorem rItem_of {n : Nat} (hl : L.length ≤ 10000) (hA : ∀ m, m < n → ∀ r, RGood L r → 5 * (L.length - r.at_) + 4 ≤ m → AltC L en m r) : ∀ r, RGood L r → 5 * (L.length - r.at_) + 1 ≤ n → ItemC L en n r := by
  intro r g hn
  match n, hn, hA with
  | 1, hn, _ =>
    have hlt : ¬ r.at_ < L.length := by omega
    unfold ItemC
    rw [rItem]
    refine rItem_none hl (fun h => hlt (kind_lt (by omega)).1) ?_
    cases h : r.opened L with
    | none => rfl
    | some p => exact absurd (opened_lt h).1 hlt
  | n + 2, hn, hA =>
    unfold ItemC
    rw [rItem]
    by_cases hk : r.kind L = 1 ∨ r.kind L = 2
    · rw [if_pos hk]
      obtain ⟨k1, k2⟩ := kind_lt (L := L) (r := r) (by omega)
      obtain ⟨p1, p2⟩ := part_to (en := en) g (g.2.2.2.2.2 k2)
      have ck := rKind_sim (en := en) (r := r) hl
      have cp := rPart_sim (en := en) (r := r) hl g
      have co := rOk_sim (L := L) (en := en) (r := r.part L en)
      have ct := rTake_sim (en := en) (r := r.part L en) hl (by omega)
      have hkk : r.kind L = 1 ∨ r.kind L = 2 := hk
      generalize r.kind L = k at *
      generalize r.part L en = q at *
      generalize q.txt L = x at *
      generalize hqa : q.adv = qa at *
      cases hok : q.ok with
      | false =>
        rw [hok] at co
        rw [if_neg (show ¬ (false = true) by decide)]
        clear ct
        obtain ⟨a, o, p, c, ca⟩ := r
        obtain ⟨a', o', p', c', ca'⟩ := q
        simp only [rdG] at ck cp co ⊢
        refine ACalls.intro (n := 85) Try.func225 rfl rfl (by simp) (by rfl) ?_
        simp only [argFr]
        rcases hkk with rfl | rfl
        · repeat (first | refine wk ?_ | refine s_field (hr := ?_))
          refine s_call [] (hA := ck) (hr := ?_)
          repeat (first | refine wk ?_ | refine s_field (hr := ?_))
          refine s_call [] (hA := cp) (hr := ?_)
          repeat (first | refine wk ?_ | refine s_field (hr := ?_))
          refine s_call [] (hA := co) (hr := ?_)
          repeat (first | refine wk ?_ | refine s_field (hr := ?_))
          exact Fin.r2 rfl (.aggT TY rfl rfl rfl rfl rfl) (.of_tmp rfl) (Co.tup (by repeat' (first | exact trivial | (refine ⟨?_, ?_⟩) | exact Co.refl _ | exact Co.froz rfl rfl | exact Co.froz rfl (by simp) | exact Co.nil _ _ | exact Co.nil false _ | exact Co.agg (Cos.refl _) | (refine Co.agg ?_)))) (by repeat' (first | exact trivial | exact HElt.of rfl | refine And.intro ?_ ?_)) rfl
        · repeat (first | refine wk ?_ | refine s_field (hr := ?_))
          refine s_call [] (hA := ck) (hr := ?_)
          repeat (first | refine wk ?_ | refine s_field (hr := ?_))
          refine s_call [] (hA := cp) (hr := ?_)
          repeat (first | refine wk ?_ | refine s_field (hr := ?_))
          refine s_call [] (hA := co) (hr := ?_)
          repeat (first | refine wk ?_ | refine s_field (hr := ?_))
          exact Fin.r2 rfl (.aggT TY rfl rfl rfl rfl rfl) (.of_tmp rfl) (Co.tup (by repeat' (first | exact trivial | (refine ⟨?_, ?_⟩) | exact Co.refl _ | exact Co.froz rfl rfl | exact Co.froz rfl (by simp) | exact Co.nil _ _ | exact Co.nil false _ | exact Co.agg (Cos.refl _) | (refine Co.agg ?_)))) (by repeat' (first | exact trivial | exact HElt.of rfl | refine And.intro ?_ ?_)) rfl
      | true =>
        rw [hok] at co
        rw [if_pos rfl]
        obtain ⟨a, o, p, c, ca⟩ := r
        obtain ⟨a', o', p', c', ca'⟩ := q
        obtain ⟨a2, o2, p2, c2, ca2⟩ := qa
        simp only [rdG] at ck cp co ct ⊢
        refine ACalls.intro (n := 85) Try.func225 rfl rfl (by simp) (by rfl) ?_
        simp only [argFr]
        rcases hkk with rfl | rfl
        · rw [if_neg (show ¬ ((1 : Int) = 2) by decide)]
          repeat (first | refine wk ?_ | refine s_field (hr := ?_))
          refine s_call [] (hA := ck) (hr := ?_)
          repeat (first | refine wk ?_ | refine s_field (hr := ?_))
          refine s_call [] (hA := cp) (hr := ?_)
          repeat (first | refine wk ?_ | refine s_field (hr := ?_))
          refine s_call [] (hA := co) (hr := ?_)
          repeat (first | refine wk ?_ | refine s_field (hr := ?_))
          refine s_call [] (hA := ct) (hr := ?_)
          repeat (first | refine wk ?_ | refine s_field (hr := ?_))
          exact Fin.r2 rfl (.aggT TY rfl rfl rfl rfl rfl) (.of_tmp rfl) (Co.tup (by repeat' (first | exact trivial | (refine ⟨?_, ?_⟩) | exact Co.refl _ | exact Co.froz rfl rfl | exact Co.froz rfl (by simp) | exact Co.nil _ _ | exact Co.nil false _ | exact Co.agg (Cos.refl _) | (refine Co.agg ?_)))) (by repeat' (first | exact trivial | exact HElt.of rfl | refine And.intro ?_ ?_)) rfl
        · rw [if_pos (show (2 : Int) = 2 from rfl)]
          repeat (first | refine wk ?_ | refine s_field (hr := ?_))
          refine s_call [] (hA := ck) (hr := ?_)
          repeat (first | refine wk ?_ | refine s_field (hr := ?_))
          refine s_call [] (hA := cp) (hr := ?_)
          repeat (first | refine wk ?_ | refine s_field (hr := ?_))
          refine s_call [] (hA := co) (hr := ?_)
          repeat (first | refine wk ?_ | refine s_field (hr := ?_))
          refine s_call [] (hA := ct) (hr := ?_)
          repeat (first | refine wk ?_ | refine s_field (hr := ?_))
          exact Fin.r2 rfl (.aggT TY rfl rfl rfl rfl rfl) (.of_tmp rfl) (Co.tup (by repeat' (first | exact trivial | (refine ⟨?_, ?_⟩) | exact Co.refl _ | exact Co.froz rfl rfl | exact Co.froz rfl (by simp) | exact Co.nil _ _ | exact Co.nil false _ | exact Co.agg (Cos.refl _) | (refine Co.agg ?_)))) (by repeat' (first | exact trivial | exact HElt.of rfl | refine And.intro ?_ ?_)) rfl
    · rw [if_neg hk]
      cases ho : r.opened L with
      | none => exact rItem_none hl hk ho
      | some z =>
        obtain ⟨op, e⟩ := z
        dsimp only
        obtain ⟨e1, e2⟩ := opened_some ho
        obtain ⟨k1, k2⟩ := opened_lt ho
        obtain ⟨d1, d2, d3, d4⟩ := deep_to (en := en) g
        have h60 := g.2.2.2.2.2 k2
        obtain ⟨p1, p2⟩ := part_to (en := en) d1.1 (by omega)
        have ck := rKind_sim (en := en) (r := r) hl
        have cop := rOpened_sim (en := en) (r := r) hl
        rw [ho] at cop
        have cw := rWrong_sim (L := L) (en := en) (r := r) (code := 5) hl
        have cp := rPart_sim (en := en) (r := r.deep L en) hl d1.1
        have co := rOk_sim (L := L) (en := en) (r := (r.deep L en).part L en)
        have kk1 : ¬ r.kind L = 1 := fun h => hk (.inl h)
        have kk2 : ¬ r.kind L = 2 := fun h => hk (.inr h)
        have hdeep : (40 ≤ r.opn ∧ r.deep L en = r.wrong L en 5) ∨ (¬ 40 ≤ r.opn ∧ r.deep L en = r) := by
          unfold RS.deep
          by_cases h : 40 ≤ r.opn
          · exact .inl ⟨h, if_pos h⟩
          · exact .inr ⟨h, if_neg h⟩
        cases hok : ((r.deep L en).part L en).ok with
        | false =>
          rw [hok] at co
          rw [if_neg (show ¬ (false = true) by decide)]
          generalize r.kind L = k at *
          generalize r.wrong L en 5 = w at *
          generalize (r.deep L en).part L en = q at *
          generalize r.deep L en = dp at *
          obtain ⟨a', o', p', c', ca'⟩ := q
          rcases hdeep with ⟨h40, rfl⟩ | ⟨h40, rfl⟩
          · obtain ⟨a, o, p, c, ca⟩ := r
            obtain ⟨a2, o2, p2, c2, ca2⟩ := dp
            simp only [rdG, openR] at ck cop cw cp co ⊢
            replace h40 : 40 ≤ o := h40
            refine ACalls.intro (n := 85) Try.func225 rfl rfl (by simp) (by rfl) ?_
            simp only [argFr]
            repeat (first | refine wk ?_ | refine s_field (hr := ?_))
            refine s_call [] (hA := ck) (hr := ?_)
            repeat (first | refine wk ?_ | refine s_field (hr := ?_))
            refine s_call [] (hA := cop) (hr := ?_)
            repeat (first | refine wk ?_ | refine s_field (hr := ?_))
            refine s_call [] (hA := cw) (hr := ?_)
            repeat (first | refine wk ?_ | refine s_field (hr := ?_))
            refine s_call [] (hA := cp) (hr := ?_)
            repeat (first | refine wk ?_ | refine s_field (hr := ?_))
            refine s_call [] (hA := co) (hr := ?_)
            repeat (first | refine wk ?_ | refine s_field (hr := ?_))
            exact Fin.r2 rfl (.aggT TY rfl rfl rfl rfl rfl) (.of_tmp rfl) (Co.tup (by repeat' (first | exact trivial | (refine ⟨?_, ?_⟩) | exact Co.refl _ | exact Co.froz rfl rfl | exact Co.froz rfl (by simp) | exact Co.nil _ _ | exact Co.nil false _ | exact Co.agg (Cos.refl _) | (refine Co.agg ?_)))) (by repeat' (first | exact trivial | exact HElt.of rfl | refine And.intro ?_ ?_)) rfl
          · obtain ⟨a, o, p, c, ca⟩ := dp
            simp only [rdG, openR] at ck cop cp co ⊢
            replace h40 : ¬ 40 ≤ o := h40
            refine ACalls.intro (n := 85) Try.func225 rfl rfl (by simp) (by rfl) ?_
            simp only [argFr]
            repeat (first | refine wk ?_ | refine s_field (hr := ?_))
            refine s_call [] (hA := ck) (hr := ?_)
            repeat (first | refine wk ?_ | refine s_field (hr := ?_))
            refine s_call [] (hA := cop) (hr := ?_)
            repeat (first | refine wk ?_ | refine s_field (hr := ?_))
            refine s_call [] (hA := cp) (hr := ?_)
            repeat (first | refine wk ?_ | refine s_field (hr := ?_))
            refine s_call [] (hA := co) (hr := ?_)
            repeat (first | refine wk ?_ | refine s_field (hr := ?_))
            exact Fin.r2 rfl (.aggT TY rfl rfl rfl rfl rfl) (.of_tmp rfl) (Co.tup (by repeat' (first | exact trivial | (refine ⟨?_, ?_⟩) | exact Co.refl _ | exact Co.froz rfl rfl | exact Co.froz rfl (by simp) | exact Co.nil _ _ | exact Co.nil false _ | exact Co.agg (Cos.refl _) | (refine Co.agg ?_)))) (by repeat' (first | exact trivial | exact HElt.of rfl | refine And.intro ?_ ?_)) rfl
        | true =>
          rw [hok] at co
          rw [if_pos rfl]
          have hok' : ((r.deep L en).part L en).f.code = 0 := of_decide_eq_true hok
          have h40 := d4 (part_ok_of hok')
          have hd : r.deep L en = r := by
            rcases hdeep with ⟨h, _⟩ | ⟨_, h⟩
            · omega
            · exact h
          rw [hd] at p1 p2 cp co ⊢
          have ho1 : (r.part L en).opn = r.opn := p1.2.1
          have gi : RGood L (r.part L en).into := by
            obtain ⟨g1, g2, g3, g4, g5, g6⟩ := p1.1
            exact ⟨by show (r.part L en).at_ + 1 ≤ _; omega, by show 0 ≤ (r.part L en).opn + 1; omega, by show (r.part L en).opn + 1 ≤ 40; omega, g4, g5, g6⟩
          have ca := hA n (by omega) _ gi (by show 5 * (L.length - ((r.part L en).at_ + 1)) + 4 ≤ n; omega)
          unfold AltC at ca
          have tA := (rinv_all L en n _ gi).2.2.2.2
          have cm := rMust_sim (en := en) (r := (rAlt L en n (r.part L en).into).2) (x := e) hl
          have tM := RTo.trans tA (must_to (en := en) (x := e) tA.1)
          have cq := rOk_sim (L := L) (en := en) (r := ((rAlt L en n (r.part L en).into).2.must L en e).shut)
          have tS : ((rAlt L en n (r.part L en).into).2.must L en e).opn = (r.part L en).opn + 1 := tM.2.1
          have hq := p1.1
          generalize r.kind L = k at *
          generalize r.part L en = q at *
          generalize (rAlt L en n q.into).1 = x at *
          generalize hM : (rAlt L en n q.into).2.must L en e = m at *
          generalize (rAlt L en n q.into).2 = al at *
          have hmok : m.shut.ok = m.ok := rfl
          rw [hmok] at cq
          generalize m.ok = mo at *
          clear hM cw hd hdeep
          obtain ⟨qa, qo, qp, qc, qca⟩ := q
          obtain ⟨ma, mp, mn, mc, mca⟩ := m
          obtain ⟨aa, ao, ap, ac, aca⟩ := al
          obtain ⟨ra, ro, rp, rc, rca⟩ := r
          replace h40 : ro < 40 := h40
          replace ho1 : qo = ro := ho1
          subst ho1
          replace tS : mp = qo + 1 := tS
          subst tS
          have ge0 : 0 ≤ qo := hq.2.1
          have hqa : qa ≤ L.length := hq.1
          simp only [rdG, openR, RS.into, RS.shut] at ck cop cp co ca cm cq ⊢
          rcases e2 with rfl | hop
          · rw [show wrapE 0 x = x from if_pos rfl]
            refine ACalls.intro (n := 85) Try.func225 rfl rfl (by simp) (by rfl) ?_
            simp only [argFr]
            repeat (first | refine wk ?_ | refine s_field (hr := ?_))
            refine s_call [] (hA := ck) (hr := ?_)
            repeat (first | refine wk ?_ | refine s_field (hr := ?_))
            refine s_call [] (hA := cop) (hr := ?_)
            repeat (first | refine wk ?_ | refine s_field (hr := ?_))
            refine s_call [] (hA := cp) (hr := ?_)
            repeat (first | refine wk ?_ | refine s_field (hr := ?_))
            refine s_call [] (hA := co) (hr := ?_)
            repeat (first | refine wk ?_ | refine s_field (hr := ?_))
            refine s_call [] (hA := ca) (hr := ?_)
            repeat (first | refine wk ?_ | refine s_field (hr := ?_))
            refine s_call [] (hA := cm) (hr := ?_)
            repeat (first | refine wk ?_ | refine s_field (hr := ?_))
            refine s_call [] (hA := cq) (hr := ?_)
            repeat (first | refine wk ?_ | refine s_field (hr := ?_))
            exact Fin.r2 rfl (.aggT TY rfl rfl rfl rfl rfl) (.of_tmp rfl) (Co.tup (by repeat' (first | exact trivial | (refine ⟨?_, ?_⟩) | exact Co.refl _ | exact Co.froz rfl rfl | exact Co.froz rfl (by simp) | exact Co.nil _ _ | exact Co.nil false _ | exact Co.agg (Cos.refl _) | (refine Co.agg ?_)))) (by repeat' (first | exact trivial | exact HElt.of rfl | refine And.intro ?_ ?_)) rfl
          · have h5 : ¬ op = 0 := by omega
            rw [show wrapE op x = .mk op ⟨#[]⟩ [x] from if_neg h5, show exprA false (Expr.mk op ⟨#[]⟩ [x]) = .agg [iD op, sD ⟨#[]⟩, .sl false 3 [exprA false x]] by simp only [exprA, Expr.op, Expr.name, Expr.l, exprsD, List.map_cons, List.map_nil, exprA_eq]]
            refine ACalls.intro (n := 85) Try.func225 rfl rfl (by simp) (by rfl) ?_
            simp only [argFr]
            repeat (first | refine wk ?_ | refine s_field (hr := ?_))
            refine s_call [] (hA := ck) (hr := ?_)
            repeat (first | refine wk ?_ | refine s_field (hr := ?_))
            refine s_call [] (hA := cop) (hr := ?_)
            repeat (first | refine wk ?_ | refine s_field (hr := ?_))
            refine s_call [] (hA := cp) (hr := ?_)
            repeat (first | refine wk ?_ | refine s_field (hr := ?_))
            refine s_call [] (hA := co) (hr := ?_)
            repeat (first | refine wk ?_ | refine s_field (hr := ?_))
            refine s_call [] (hA := ca) (hr := ?_)
            repeat (first | refine wk ?_ | refine s_field (hr := ?_))
            refine s_call [] (hA := cm) (hr := ?_)
            repeat (first | refine wk ?_ | refine s_field (hr := ?_))
            refine s_call [] (hA := cq) (hr := ?_)
            (repeat (first | refine wkr ?_ | refine s_field (hr := ?_)))
            refine aw_froz 80 rfl ?_
            repeat (first | refine wk ?_ | refine s_field (hr := ?_))
            --@
            exact Fin.r2 rfl (.aggT TY rfl rfl rfl rfl rfl) (.of_tmp rfl) (Co.tup (by repeat' (first | exact trivial | (refine ⟨?_, ?_⟩) | exact Co.refl _ | exact Co.froz rfl rfl | exact Co.froz rfl (by simp) | exact Co.nil _ _ | exact Co.nil false _ | exact Co.agg (Cos.refl _) | (refine Co.agg ?_)))) (by repeat' (first | exact trivial | exact HElt.of rfl | refine And.intro ?_ ?_)) rfl
end
end Go.Proofs.Ytgcagjamjdnglaa
namespace Go.Proofs.Ytgcagjamjdnglaa
open Go.RowKit
set_option maxRecDepth 100000
-- SimX

section
variable {L : List Tk} {en : Int}
set_option maxHeartbeats 8000000 in
theorem rRow_of {n : Nat} (hl : L.length ≤ 10000) (hI : ∀ m, m < n → ∀ r, RGood L r → 5 * (L.length - r.at_) + 1 ≤ m → ItemC L en m r) : ∀ r, RGood L r → 5 * (L.length - r.at_) + 3 ≤ n → RowC L en n r := by
  intro r g hn
  obtain ⟨k, rfl⟩ : ∃ k, n = k + 1 := ⟨n - 1, by omega⟩
  unfold RowC
  rw [rRow]
  obtain ⟨l, s', hres⟩ : ∃ l s', rItems L en k r [] = (l, s') := ⟨_, _, rfl⟩
  rw [hres]
  refine ACalls.intro (n := 25) Try.func184 rfl rfl (by simp) (by rfl) ?_
  simp only [argFr]
  obtain ⟨sa, so, sp, sc, sca⟩ := s'
  simp only [rdG]
  repeat (first | refine wk ?_ | refine s_field (hr := ?_))
  refine aw_nil 3 900 143 3 rfl rfl rfl ?_
  refine t_loop (X := Nat × RS × List Expr) (fun y => rItems L en y.1 y.2.1 y.2.2 = (l, ⟨sa, so, sp, sc, sca⟩) ∧ RGood L y.2.1 ∧ y.1 ≤ k ∧ 5 * (L.length - y.2.1.at_) + 2 ≤ y.1 ∧ y.2.2.length + (L.length - y.2.1.at_) ≤ L.length)
    (fun y => [(3, .own 900 y.2.2.length), (2, .ptr 2 0), (0, .ptr 1000 0)])
    (fun y => (900, .row 143 3 (y.2.2.map (exprD false))) :: (2, .box 143 [.d (iD 0), .d (sD ⟨#[]⟩), .d (.raw (.slice none 0 0))]) :: [(1000, rdB L en y.2.1.at_ y.2.1.opn y.2.1.parts y.2.1.f.code y.2.1.f.at_)]) (fun y => L.length - y.2.1.at_) (k, r, []) ⟨hres, g, Nat.le_refl _, by dsimp only; omega, by simp⟩ ?_
  rintro ⟨q, st, acc⟩ ⟨j1, j2, j3, j4, j5⟩
  dsimp only at j1 j2 j3 j4 j5 ⊢
  obtain ⟨q, rfl⟩ : ∃ q', q = q' + 1 := ⟨q - 1, by omega⟩
  have hj := hI q (by omega) st j2 (by omega)
  unfold ItemC at hj
  have hinv := (rinv_all L en q st j2).1
  rw [rItems] at j1
  generalize rItem L en q st = z at *
  obtain ⟨x, b, st2⟩ := z
  dsimp only at hj j1 hinv
  obtain ⟨ta, to, tp, tc, tca⟩ := st
  cases b with
  | true =>
    rw [if_pos rfl] at j1
    have t2 := hinv.2 rfl
    have hg2 := t2.1
    have hat : ta + 1 ≤ st2.at_ := t2.2.2
    have hat2 : st2.at_ ≤ L.length := hg2.1
    have e : acc.map (exprD false) ++ [exprA false x] = (acc ++ [x]).map (exprD false) := by rw [List.map_append]; simp only [List.map_cons, List.map_nil, exprA_eq]
    have jj := j1
    have gg := hg2
    obtain ⟨ua, uo, up, uc, uca⟩ := st2
    simp only [rdG] at hj
    dsimp only at j4 j5 hat hat2
    repeat (first | refine wk ?_ | refine s_field (hr := ?_))
    refine s_call [] (hA := hj) (hr := ?_)
    repeat (first | refine wk ?_ | refine s_field (hr := ?_))
    rw [e, List.length_map]
    exact t_next (q, ⟨ua, uo, up, uc, uca⟩, acc ++ [x]) (a := ⟨jj, gg, by omega, by dsimp only; omega, by dsimp only; simp only [List.length_append, List.length_singleton]; omega⟩) (b := by dsimp only; omega)
  | false =>
    rw [if_neg (by decide)] at j1
    obtain ⟨rfl, rfl⟩ : acc = l ∧ st2 = ⟨sa, so, sp, sc, sca⟩ := by injection j1 with j1 j2; exact ⟨j1, j2⟩
    simp only [rdG] at hj
    dsimp only at j4 j5
    rcases one_cases (op := 3) (l := acc) with ⟨x, rfl, e1⟩ | ⟨e0, e1⟩
    · rw [e1]
      repeat (first | refine wk ?_ | refine s_field (hr := ?_))
      refine s_call [] (hA := hj) (hr := ?_)
      repeat (first | refine wk ?_ | refine s_field (hr := ?_))
      exact fin
    · rw [e1, show exprA false (Expr.mk 3 ⟨#[]⟩ acc) = .agg [iD 3, sD ⟨#[]⟩, exprsD false acc] from rfl]
      refine aw_froz 900 rfl ?_
      repeat (first | refine wk ?_ | refine s_field (hr := ?_))
      refine s_call [] (hA := hj) (hr := ?_)
      repeat (first | refine wk ?_ | refine s_field (hr := ?_))
      exact fin
set_option maxHeartbeats 8000000 in
theorem rAlt_of {n : Nat} (hl : L.length ≤ 10000) (hR : ∀ m, m < n → ∀ r, RGood L r → 5 * (L.length - r.at_) + 3 ≤ m → RowC L en m r) : ∀ r, RGood L r → 5 * (L.length - r.at_) + 4 ≤ n → AltC L en n r := by
  intro r g hn
  obtain ⟨k, rfl⟩ : ∃ k, n = k + 1 := ⟨n - 1, by omega⟩
  unfold AltC
  rw [rAlt]
  have hrow := hR k (by omega) r g (by omega)
  unfold RowC at hrow
  have t1 := (rinv_all L en k r g).2.2.1
  have his := rIs_sim (en := en) (r := (rRow L en k r).2) (x := sgn 124) hl
  generalize rRow L en k r = z at *
  obtain ⟨x, s1⟩ := z
  dsimp only at hrow t1 his ⊢
  cases hc : s1.is L (sgn 124) with
  | false =>
    rw [hc] at his
    rw [if_neg (by decide)]
    obtain ⟨a, o, p, c, ca⟩ := r
    obtain ⟨a', o', p', c', ca'⟩ := s1
    simp only [rdG] at hrow his ⊢
    refine ACalls.intro (n := 33) Try.func122 rfl rfl (by simp) (by rfl) ?_
    simp only [argFr]
    repeat (first | refine wk ?_ | refine s_field (hr := ?_))
    refine s_call [] (hA := hrow) (hr := ?_)
    repeat (first | refine wk ?_ | refine s_field (hr := ?_))
    refine s_call [] (hA := his) (hr := ?_)
    repeat (first | refine wk ?_ | refine s_field (hr := ?_))
    exact fin
  | true =>
    rw [hc] at his
    rw [if_pos rfl]
    obtain ⟨l, s', hres⟩ : ∃ l s', rAlts L en k s1 [x] = (l, s') := ⟨_, _, rfl⟩
    rw [hres]
    have hat1 : r.at_ + 0 ≤ s1.at_ := t1.2.2
    have gs1 := t1.1
    have gs2 := gs1.1
    clear t1 hc
    obtain ⟨a, o, p, c, ca⟩ := r
    obtain ⟨sa, so, sp, sc, sca⟩ := s'
    have e0 : [exprA false x] = [x].map (exprD false) := by simp only [List.map_cons, List.map_nil, exprA_eq]
    refine ACalls.intro (n := 33) Try.func122 rfl rfl (by simp) (by rfl) ?_
    simp only [argFr]
    dsimp only at hat1 hn
    simp only [rdG] at hrow ⊢
    have his' : ACalls Try.prog 183 [.ptr 1000 0, Str ⟨#[124]⟩] [(1000, rdB L en s1.at_ s1.opn s1.parts s1.f.code s1.f.at_)] (B true) [(1000, rdB L en s1.at_ s1.opn s1.parts s1.f.code s1.f.at_)] := his
    repeat (first | refine wk ?_ | refine s_field (hr := ?_))
    refine s_call [] (hA := hrow) (hr := ?_)
    repeat (first | refine wk ?_ | refine s_field (hr := ?_))
    refine s_call [] (hA := his') (hr := ?_)
    repeat (first | refine wk ?_ | refine s_field (hr := ?_))
    --@
    rw [e0]
    refine t_loop (X := Nat × RS × List Expr) (fun y => rAlts L en y.1 y.2.1 y.2.2 = (l, ⟨sa, so, sp, sc, sca⟩) ∧ RGood L y.2.1 ∧ y.1 ≤ k ∧ (y.2.1.f.code = 0 → 5 * (L.length - y.2.1.at_) + 1 ≤ y.1) ∧ y.2.2.length + (L.length - y.2.1.at_) ≤ L.length + 1)
      (fun y => [(4, .own 12 y.2.2.length), (2, .ptr 2 0), (0, .ptr 1000 0)])
      (fun y => (12, .row 143 3 (y.2.2.map (exprD false))) :: (2, .box 143 [.d (iD 0), .d (sD ⟨#[]⟩), .d (.raw (.slice none 0 0))]) :: [(1000, rdB L en y.2.1.at_ y.2.1.opn y.2.1.parts y.2.1.f.code y.2.1.f.at_)]) (fun y => 2 * (L.length - y.2.1.at_) + (decide (y.2.1.f.code = 0)).toNat) (k, s1, [x]) ⟨hres, gs1, Nat.le_refl _, fun _ => by dsimp only; omega, by dsimp only; simp only [List.length_singleton]; omega⟩ ?_
    rintro ⟨q, st, acc⟩ ⟨j1, j2, j3, j4, j5⟩
    dsimp only at j1 j2 j3 j4 j5 ⊢
    have hsg := rIs_sim (en := en) (r := st) (x := sgn 124) hl
    cases hs : st.is L (sgn 124) with
    | false =>
      rw [hs] at hsg
      obtain ⟨rfl, rfl⟩ : acc = l ∧ st = ⟨sa, so, sp, sc, sca⟩ := by
        cases q with
        | zero => rw [rAlts] at j1; injection j1 with j1 j2; exact ⟨j1, j2⟩
        | succ q => rw [rAlts, hs, if_neg (by decide)] at j1; injection j1 with j1 j2; exact ⟨j1, j2⟩
      have hsg' : ACalls Try.prog 183 [.ptr 1000 0, Str ⟨#[124]⟩] [(1000, rdB L en sa so sp sc sca)] (B false) [(1000, rdB L en sa so sp sc sca)] := hsg
      rw [show exprA false (Expr.mk 4 ⟨#[]⟩ acc) = .agg [iD 4, sD ⟨#[]⟩, exprsD false acc] from rfl]
      refine aw_froz 12 rfl ?_
      repeat (first | refine wk ?_ | refine s_field (hr := ?_))
      refine s_call [] (hA := hsg') (hr := ?_)
      repeat (first | refine wk ?_ | refine s_field (hr := ?_))
      exact fin
    | true =>
      rw [hs] at hsg
      obtain ⟨k1, k2⟩ := is_lt hs
      have j4' := j4 k2
      obtain ⟨q, rfl⟩ : ∃ q', q = q' + 1 := ⟨q - 1, by omega⟩
      rw [rAlts, hs, if_pos rfl] at j1
      obtain ⟨p1, p2⟩ := part_to (en := en) j2 (j2.2.2.2.2.2 k2)
      have hp1 := p1.1
      have cp := rPart_sim (en := en) (r := st) hl j2
      have co := rOk_sim (L := L) (en := en) (r := st.part L en)
      cases hok : (st.part L en).ok with
      | false =>
        rw [hok] at co
        rw [hok, if_neg (by decide)] at j1
        have hb : (st.part L en).f.code ≠ 0 := of_decide_eq_false hok
        have jj : rAlts L en q (st.part L en) acc = (l, ⟨sa, so, sp, sc, sca⟩) := by rw [rAlts_bad hb]; exact j1
        generalize st.part L en = u at *
        obtain ⟨ta, to, tp, tc, tca⟩ := st
        obtain ⟨ua, uo, up, uc, uca⟩ := u
        simp only [rdG] at hsg cp co
        dsimp only at p2 hb k1 k2 j5 j4'
        subst k2
        have hsg' : ACalls Try.prog 183 [.ptr 1000 0, Str ⟨#[124]⟩] [(1000, rdB L en ta to tp 0 tca)] (B true) [(1000, rdB L en ta to tp 0 tca)] := hsg
        repeat (first | refine wk ?_ | refine s_field (hr := ?_))
        refine s_call [] (hA := hsg') (hr := ?_)
        repeat (first | refine wk ?_ | refine s_field (hr := ?_))
        refine s_call [] (hA := cp) (hr := ?_)
        repeat (first | refine wk ?_ | refine s_field (hr := ?_))
        refine s_call [] (hA := co) (hr := ?_)
        repeat (first | refine wk ?_ | refine s_field (hr := ?_))
        exact t_next (q, ⟨ua, uo, up, uc, uca⟩, acc) (a := ⟨jj, hp1, by omega, fun h => absurd h hb, by dsimp only; omega⟩) (b := by dsimp only; rw [decide_eq_false hb, p2]; simp)
      | true =>
        rw [hok] at co
        rw [hok, if_pos rfl] at j1
        have ga := adv_to hp1 (by omega)
        have hlen : (st.part L en).adv.at_ = st.at_ + 1 := by show (st.part L en).at_ + 1 = _; rw [p2]
        have hrw := hR q (by omega) _ ga.1 (by omega)
        unfold RowC at hrw
        have tR := (rinv_all L en q _ ga.1).2.2.1
        generalize rRow L en q (st.part L en).adv = z at *
        obtain ⟨x2, st2⟩ := z
        dsimp only at hrw j1 tR
        have gg := tR.1
        have hat := tR.2.2
        have hat2 := gg.1
        have e : acc.map (exprD false) ++ [exprA false x2] = (acc ++ [x2]).map (exprD false) := by rw [List.map_append]; simp only [List.map_cons, List.map_nil, exprA_eq]
        have hpl := hp1.1
        clear ga tR
        generalize st.part L en = u at *
        obtain ⟨ta, to, tp, tc, tca⟩ := st
        obtain ⟨ua, uo, up, uc, uca⟩ := u
        obtain ⟨va, vo, vp, vc, vca⟩ := st2
        simp only [rdG, RS.adv] at hsg cp co hrw
        dsimp only [RS.adv] at p2 k1 k2 j5 j4' hlen hat hat2 hpl
        have hsg' : ACalls Try.prog 183 [.ptr 1000 0, Str ⟨#[124]⟩] [(1000, rdB L en ta to tp tc tca)] (B true) [(1000, rdB L en ta to tp tc tca)] := hsg
        repeat (first | refine wk ?_ | refine s_field (hr := ?_))
        refine s_call [] (hA := hsg') (hr := ?_)
        repeat (first | refine wk ?_ | refine s_field (hr := ?_))
        refine s_call [] (hA := cp) (hr := ?_)
        repeat (first | refine wk ?_ | refine s_field (hr := ?_))
        refine s_call [] (hA := co) (hr := ?_)
        repeat (first | refine wk ?_ | refine s_field (hr := ?_))
        refine s_call [] (hA := hrw) (hr := ?_)
        repeat (first | refine wk ?_ | refine s_field (hr := ?_))
        rw [e, List.length_map]
        exact t_next (q, ⟨va, vo, vp, vc, vca⟩, acc ++ [x2]) (a := ⟨j1, gg, by omega, fun _ => by dsimp only; omega, by dsimp only; simp only [List.length_append, List.length_singleton]; omega⟩) (b := by dsimp only; have : (decide (vc = 0)).toNat ≤ 1 := Bool.toNat_le _; omega)
theorem rParser_all (hl : L.length ≤ 10000) : ∀ n, (∀ r, RGood L r → 5 * (L.length - r.at_) + 1 ≤ n → ItemC L en n r) ∧ (∀ r, RGood L r → 5 * (L.length - r.at_) + 3 ≤ n → RowC L en n r) ∧ (∀ r, RGood L r → 5 * (L.length - r.at_) + 4 ≤ n → AltC L en n r) := by
  intro n
  induction n using Nat.strongRecOn with
  | _ n ih => exact ⟨rItem_of hl (fun m hm => (ih m hm).2.2), rRow_of hl (fun m hm => (ih m hm).1), rAlt_of hl (fun m hm => (ih m hm).2.1)⟩
end
end Go.Proofs.Ytgcagjamjdnglaa
