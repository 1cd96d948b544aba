/-
  Sim: the text of expressions and of definitions: the reference's exprText, TextOf. strings.Join, by the shelf's contract, said as Sim says it. Sim: the text of expressions: render.expr.
-/
import Derived.Test.YtkfeccbahpmadaaRnA
import Derived.Test.YtkfeccbahpmadaaRendP
import Derived.Test.YtkfeccbahpmadaaS5
import Derived.Shelf.Strings.OnBuilder
set_option linter.unusedVariables false
set_option linter.unusedSimpArgs false
set_option linter.unusedSectionVars false
namespace Go.Proofs.Ytkfeccbahpmadaa
open Go.RowKit
set_option maxRecDepth 100000
-- SimX

/-- What is made of the first so many: with what stands between them. -/
def preB (o : Int) (l : List Expr) (i : Nat) : ByteArray := bgn o ++ joinB (btw o) (its o (l.take i))
theorem preB_zero (o : Int) (l : List Expr) : preB o l 0 = bgn o := by unfold preB; rw [List.take_zero, its, joinB, nil_bs]
theorem preB_one {o : Int} {l : List Expr} (h : 0 < l.length) : preB o l 1 = bgn o ++ wrB (brkO o l[0].op) (txE l[0]) := by
  unfold preB
  rw [its_take h, List.take_zero, its, List.nil_append, joinB, tailB, nil_bs]
theorem preB_next {o : Int} {l : List Expr} {i : Nat} (h : i < l.length) (h0 : 0 < i) : preB o l (i + 1) = (preB o l i ++ btw o) ++ wrB (brkO o l[i].op) (txE l[i]) := by
  unfold preB
  rw [its_take h, joinB_snoc]
  · simp only [ByteArray.append_assoc]
  · intro e
    have := congrArg List.length e
    rw [its_map, List.length_map, List.length_take, List.length_nil] at this
    omega
theorem preB_size {o : Int} {l : List Expr} (h : ∀ y ∈ l, xF y = 0) (i : Nat) : (preB o l i).size ≤ 1 + 20 * eszs l := by
  unfold preB
  have h1 := joinB_size (btw o) (its o (l.take i))
  have h2 := its_size o (l.take i) (fun y hy => h y (List.mem_of_mem_take hy))
  have h3 : eszs (l.take i) ≤ eszs l := by have := eszs_append (l.take i) (l.drop i); rw [List.take_append_drop] at this; omega
  have h4 : (bgn o).size ≤ 1 := by unfold bgn; split; decide; split; decide; split <;> decide
  rw [ByteArray.size_append]; omega
theorem bs_sz (l : List UInt8) : (bs l).size = l.length := bs_size l
set_option maxHeartbeats 4000000 in
theorem exprText_gen : ∀ (N : Nat) {t : Bool} {x : Expr}, esz x < N → esz x ≤ 10000000 → xF x = 0 → ACalls Try.prog 100 [.d (exprA t x)] [] (Str (txE x)) [] := by
  intro N
  induction N with
  | zero => intro t x h; omega
  | succ N ih =>
  intro t x hn hN hf
  refine ACalls.intro (n := 71) Try.func100 rfl rfl (by simp) (by rfl) ?_
  simp only [argFr]
  have hx := esz_eq x
  have hl := eszs_len x.l
  obtain ⟨f1, f2, f3⟩ := xF_zero hf
  rw [txE_eq]
  by_cases h1 : x.op = 1
  · rw [if_pos h1]
    have hsz : x.name.size ≤ 12 := by unfold fNm at f2; rw [if_neg (by omega), if_pos h1] at f2; exact term_le f2
    repeat (first | refine wk ?_ | refine s_field (hr := ?_))
    exact fin
  rw [if_neg h1]
  by_cases h2 : x.op = 2
  · rw [if_pos h2]
    repeat (first | refine wk ?_ | refine s_field (hr := ?_))
    exact fin
  rw [if_neg h2]
  have hps := preB_size (o := x.op) f3
  have hbw : (btw x.op).size ≤ 3 := by unfold btw; split <;> decide
  have hnd : (nd x.op).size ≤ 1 := by unfold nd; split; decide; split; decide; split <;> decide
  repeat (first | refine wk ?_ | refine s_field (hr := ?_))
  refine aw_cutB [(3, Str (btw x.op)), (5, Str (nd x.op)), (4, Str (bgn x.op)), (1, .ptr 1 0)] [(1, exprBox t x)] rfl ?_ ?_
  · by_cases h4 : x.op = 4
    · rw [show btw x.op = bs [32, 124, 32] by unfold btw; rw [if_pos h4], show nd x.op = bs [] by unfold nd; rw [if_neg (by omega), if_neg (by omega), if_neg (by omega)], show bgn x.op = bs [] by unfold bgn; rw [if_neg (by omega), if_neg (by omega), if_neg (by omega)]]
      repeat (first | refine wk ?_ | refine s_field (hr := ?_))
      exact meet
    · rw [show btw x.op = bs [32] by unfold btw; rw [if_neg h4]]
      by_cases h5 : x.op = 5
      · rw [show nd x.op = bs [93] by unfold nd; rw [if_pos h5], show bgn x.op = bs [91] by unfold bgn; rw [if_pos h5]]
        repeat (first | refine wk ?_ | refine s_field (hr := ?_))
        exact meet
      · by_cases h6 : x.op = 6
        · rw [show nd x.op = bs [125] by unfold nd; rw [if_neg h5, if_pos h6], show bgn x.op = bs [123] by unfold bgn; rw [if_neg h5, if_pos h6]]
          repeat (first | refine wk ?_ | refine s_field (hr := ?_))
          exact meet
        · by_cases h7 : x.op = 7
          · rw [show nd x.op = bs [62] by unfold nd; rw [if_neg h5, if_neg h6, if_pos h7], show bgn x.op = bs [60] by unfold bgn; rw [if_neg h5, if_neg h6, if_pos h7]]
            repeat (first | refine wk ?_ | refine s_field (hr := ?_))
            exact meet
          · rw [show nd x.op = bs [] by unfold nd; rw [if_neg h5, if_neg h6, if_neg h7], show bgn x.op = bs [] by unfold bgn; rw [if_neg h5, if_neg h6, if_neg h7]]
            repeat (first | refine wk ?_ | refine s_field (hr := ?_))
            exact meet
  have hz := preB_zero x.op x.l
  have hone := fun h => preB_one (o := x.op) (l := x.l) h
  have hnx := fun i h h0 => preB_next (o := x.op) (l := x.l) (i := i) h h0
  have hend : bgn x.op ++ joinB (btw x.op) (its x.op x.l) = preB x.op x.l x.l.length := by unfold preB; rw [List.take_length]
  rw [hend]
  generalize btw x.op = BW at *
  generalize nd x.op = ND at *
  generalize bgn x.op = BG at *
  repeat (first | refine wk ?_ | refine s_field (hr := ?_))
  refine t_loop (X := Nat) (fun i => i ≤ x.l.length) (fun i => [(7, I i), (6, Str (preB x.op x.l i)), (3, Str BW), (5, Str ND), (1, .ptr 1 0)]) (fun _ => [(1, exprBox t x)]) (fun i => x.l.length - i) 0 (Nat.zero_le _) ?_ (hf := ?_)
  rotate_left
  · exact ⟨.of rfl, VLe.of (by rw [hz]; rfl), .of rfl, .of rfl, .of rfl, trivial⟩
  intro i hi
  have hpi := hps i
  by_cases hlt : i < x.l.length
  · have hm := eszs_mem (List.getElem_mem hlt)
    have hbr := inBr_sim (t := t) (u := t) (x := x) (y := x.l[i])
    have hih := ih (t := t) (x := x.l[i]) (by omega) (by omega) (f3 _ (List.getElem_mem hlt))
    have hsz := txE_size x.l[i] (f3 _ (List.getElem_mem hlt))
    by_cases h0 : 0 < i
    · have e := hnx i hlt h0
      cases hb : brkO x.op x.l[i].op with
      | true =>
        rw [hb] at hbr e
        repeat (first | refine wk ?_ | refine s_field (hr := ?_))
        refine s_call [] (hA := hbr) (hr := ?_)
        repeat (first | refine wk ?_ | refine s_field (hr := ?_))
        refine s_call [] (hA := hih) (hr := ?_)
        repeat (first | refine wk ?_ | refine s_field (hr := ?_))
        exact t_next (i + 1) (c := ⟨.of rfl, VLe.of (by rw [e]; rfl), .of rfl, .of rfl, .of rfl, trivial⟩)
      | false =>
        rw [hb] at hbr e
        repeat (first | refine wk ?_ | refine s_field (hr := ?_))
        refine s_call [] (hA := hbr) (hr := ?_)
        repeat (first | refine wk ?_ | refine s_field (hr := ?_))
        refine s_call [] (hA := hih) (hr := ?_)
        repeat (first | refine wk ?_ | refine s_field (hr := ?_))
        exact t_next (i + 1) (c := ⟨.of rfl, VLe.of (by rw [e]; rfl), .of rfl, .of rfl, .of rfl, trivial⟩)
    · obtain rfl : i = 0 := by omega
      have e := hone hlt
      rw [hz]
      rw [hz] at hpi
      cases hb : brkO x.op x.l[0].op with
      | true =>
        rw [hb] at hbr e
        repeat (first | refine wk ?_ | refine s_field (hr := ?_))
        refine s_call [] (hA := hbr) (hr := ?_)
        repeat (first | refine wk ?_ | refine s_field (hr := ?_))
        refine s_call [] (hA := hih) (hr := ?_)
        repeat (first | refine wk ?_ | refine s_field (hr := ?_))
        exact t_next 1 (c := ⟨.of rfl, VLe.of (by rw [e]; rfl), .of rfl, .of rfl, .of rfl, trivial⟩)
      | false =>
        rw [hb] at hbr e
        repeat (first | refine wk ?_ | refine s_field (hr := ?_))
        refine s_call [] (hA := hbr) (hr := ?_)
        repeat (first | refine wk ?_ | refine s_field (hr := ?_))
        refine s_call [] (hA := hih) (hr := ?_)
        repeat (first | refine wk ?_ | refine s_field (hr := ?_))
        exact t_next 1 (c := ⟨.of rfl, VLe.of (by rw [e]; rfl), .of rfl, .of rfl, .of rfl, trivial⟩)
  · obtain rfl : i = x.l.length := by omega
    repeat (first | refine wk ?_ | refine s_field (hr := ?_))
    exact fin
theorem txT_size : ∀ {l : List Dfn}, (∀ d ∈ l, xF d.e = 0 ∧ d.name.size ≤ 5000) → (txT l).size ≤ (l.map fun d => 20 * esz d.e + 5010).sum
  | [], _ => by simp [txT, bs_sz]
  | d :: l, h => by
    have h1 := h d (by simp)
    have h2 := txT_size (l := l) (fun x hx => h x (by simp [hx]))
    have h3 := txE_size d.e h1.1
    simp only [txT, dfnT, ByteArray.size_append, bs_sz, List.length_cons, List.length_nil, List.map_cons, List.sum_cons]; omega
end Go.Proofs.Ytkfeccbahpmadaa
namespace Go.Proofs
open Go.Shelf
def Try.lays156_ren : Go.Shelf.Ren := ⟨fun | 156 => 196 | 165 => 218 | 166 => 152 | 169 => 154 | 240 => 195 | 241 => 223 | 276 => 217 | 277 => 227 | n => n, fun | 0 => 0 | 3 => 3 | 4 => 4 | 5 => 5 | 9 => 9 | 20 => 20 | 31 => 49 | 37 => 205 | 70 => 204 | 72 => 207 | 75 => 209 | 76 => 210 | 80 => 212 | 127 => 244 | 164 => 256 | n => n, fun n => n⟩
theorem Try.lays156 : Go.Proofs.Lays.n156 Try.prog Try.lays156_ren := {
  mixed := by kernel_rfl
  f156 := Try.func196.trans (congrArg some (by kernel_rfl))
  f165 := Try.func218.trans (congrArg some (by kernel_rfl))
  f166 := Try.func152.trans (congrArg some (by kernel_rfl))
  f169 := Try.func154.trans (congrArg some (by kernel_rfl))
  f240 := Try.func195.trans (congrArg some (by kernel_rfl))
  f241 := Try.func223.trans (congrArg some (by kernel_rfl))
  f276 := Try.func217.trans (congrArg some (by kernel_rfl))
  f277 := Try.func227.trans (congrArg some (by kernel_rfl))
  t0 := Try.underlying0
  a0 := Try.isAgg0
  z0 := Try.sizeOf0
  v0 := Try.zeroValue0
  t3 := Try.underlying3
  a3 := Try.isAgg3
  z3 := Try.sizeOf3
  v3 := Try.zeroValue3
  t4 := Try.underlying4
  a4 := Try.isAgg4
  z4 := Try.sizeOf4
  v4 := Try.zeroValue4
  t9 := Try.underlying9
  a9 := Try.isAgg9
  z9 := Try.sizeOf9
  v9 := Try.zeroValue9
  t20 := Try.underlying20
  a20 := Try.isAgg20
  z20 := Try.sizeOf20
  v20 := Try.zeroValue20
  t31 := Try.underlying49
  a31 := Try.isAgg49
  z31 := Try.sizeOf49
  v31 := Try.zeroValue49
  t37 := Try.underlying205
  a37 := Try.isAgg205
  z37 := Try.sizeOf205
  v37 := Try.zeroValue205
  t70 := Try.underlying204
  a70 := Try.isAgg204
  z70 := Try.sizeOf204
  v70 := Try.zeroValue204
  t72 := Try.underlying207
  a72 := Try.isAgg207
  z72 := Try.sizeOf207
  v72 := Try.zeroValue207
  t75 := Try.underlying209
  a75 := Try.isAgg209
  z75 := Try.sizeOf209
  v75 := Try.zeroValue209
  t76 := Try.underlying210
  a76 := Try.isAgg210
  z76 := Try.sizeOf210
  v76 := Try.zeroValue210
  t127 := Try.underlying244
  a127 := Try.isAgg244
  z127 := Try.sizeOf244
  v127 := Try.zeroValue244
  t164 := Try.underlying256
  a164 := Try.isAgg256
  z164 := Try.sizeOf256
  v164 := Try.zeroValue256 }
theorem Try.bldExtra156 : Builder.Extra Try.prog Try.lays156_ren where
  sizeBuilder := by kernel_rfl
  liesBuilder := by kernel_rfl
  t5 := Try.underlying5
  a5 := Try.isAgg5
  z5 := Try.sizeOf5
  v5 := Try.zeroValue5
  infoByte := by kernel_rfl
  cellsByte := by kernel_rfl
  sizeByte := by kernel_rfl
  neB5 := by decide
end Go.Proofs
namespace Go.Proofs.Ytkfeccbahpmadaa
open Go.RowKit
set_option maxRecDepth 100000

theorem below_ext {w w' : World} (h : Below w.heap.size w w') : Ext NoB w w' := ⟨h.os, h.tape, h.output, h.size, fun k hk _ => h.block k hk⟩
theorem tailB_lib (sep : ByteArray) : ∀ l : List ByteArray, (tailB sep l).data.toList = Lib.joinTail sep.data.toList (l.map (·.data.toList))
  | [] => rfl
  | x :: l => by simp [tailB, Lib.joinTail, tailB_lib sep l]
theorem joinB_lib (sep : ByteArray) (l : List ByteArray) : (joinB sep l).data.toList = Lib.join (l.map (·.data.toList)) sep.data.toList := by
  cases l with
  | nil => rfl
  | cons x r => rw [List.map_cons, Lib.join_cons]; simp [joinB, tailB_lib]
theorem ba_eq {b : ByteArray} {l : List UInt8} (h : b.data.toList = l) : b = ⟨l.toArray⟩ := by cases b; subst h; simp
theorem reps_strs {M : Bars} {w : World} : ∀ {xs : List ByteArray} {us : List Value}, D.Reps M w (xs.map sD) us → us = xs.map Value.string
  | [], _, h => by simpa only [List.map_nil, D.Reps] using h
  | x :: xs, _, h => by
    simp only [List.map_cons, D.Reps] at h
    obtain ⟨c, r, rfl, h1, h2⟩ := h
    simp only [sD, D.Rep] at h1
    rw [h1.1, reps_strs h2]; rfl
theorem join_sim {t : Bool} {l : List ByteArray} {sep : ByteArray} (hl : l.length ≤ 100000000 := by ((try simp only [List.length_map, List.length_append, List.length_cons, List.length_nil, List.length_replicate, List.length_set, List.length_take, List.length_drop]); first | omega | assumption)) (hs : (joinB sep l).size ≤ 100000000000 := by ((try simp only [List.length_map, List.length_append, List.length_cons, List.length_nil, List.length_replicate, List.length_set, List.length_take, List.length_drop]); first | omega | assumption)) :
    ACalls Try.prog 196 [.d (.sl t 1 (l.map sD)), Str sep] [] (Str (joinB sep l)) [] := by
  refine ⟨⟨_, Try.func196, rfl, rfl⟩, fun E w us o H hr _ ho hsub => ?_⟩
  simp only [V.Reps, V.Rep, D.RepV, D.Rep, List.cons.injEq, and_true] at hr
  obtain ⟨u, _, rfl, ⟨a, cap, cs, rfl, h1, h2, h3, h4, h5⟩, _, _, rfl, ⟨rfl, _⟩, rfl⟩ := hr
  obtain rfl := reps_strs h4
  rw [List.length_map] at h1 ⊢
  have hj := joinB_lib sep l
  have hjl : (Lib.join (l.map (·.data.toList)) sep.data.toList).length = (joinB sep l).size := by rw [← hj]; exact Array.length_toList
  have key : Calls Try.prog 196 #[.slice a l.length cap, .string sep] w fun e w' => e = .returned (.string (joinB sep l)) ∧ Below w.heap.size w w' := by
    rw [ba_eq hj]
    by_cases hn : l = []
    · subst hn
      exact (Any.strings_Join_none Try.lays156 Try.bldExtra156 a cap sep w).mono fun e w' ⟨he, hw⟩ => ⟨he, hw ▸ Below.refl _ _⟩
    · obtain ⟨b, off, rfl, _, hlt, hc⟩ := h5 (by simpa using hn)
      exact Any.strings_Join Try.lays156 Try.bldExtra156 b off cap l sep w (fun j x hx => by
        have hjl : j < l.length := (List.getElem?_eq_some_iff.1 hx).1
        rw [hc j (by simpa using hjl), List.getElem?_map, hx]; rfl) hlt (by omega) h1 (by omega)
  refine key.mono fun e w' ⟨he, hb⟩ => ?_
  have hH : HRep E [] o w' := ⟨fun k ob hk => by simp [hget] at hk, fun k k' b hk => by simp [blkOf, hget] at hk, fun k ob hk => by simp [hget] at hk⟩
  exact ⟨E, .string (joinB sep l), he, hH, ⟨rfl, rfl⟩, fun k hk => by simp [V.keys] at hk, (below_ext hb).mono (fun x hx => hx.elim), fun k _ hsm => by simp [hget] at hsm, fun k b hb => by simp [blkOf, hget] at hb⟩
end Go.Proofs.Ytkfeccbahpmadaa
namespace Go.Proofs.Ytkfeccbahpmadaa
open Go.RowKit
set_option maxRecDepth 100000
-- SimX

theorem its_len (o : Int) (l : List Expr) : (its o l).length = l.length := by rw [its_map, List.length_map]
theorem tx_kids {x : Expr} (h : xF x = 0) (h5 : 5 ≤ x.op) : ∃ y, x.l = [y] ∧ its x.op x.l = [txE y] ∧ x.op ≤ 7 := by
  obtain ⟨f1, _, _⟩ := xF_zero h
  have h7 : x.op ≤ 7 ∧ x.l.length = 1 := by
    unfold fOk at f1
    rw [if_neg (by omega), if_neg (by omega), if_neg (by omega)] at f1
    split at f1
    · rename_i h; simp at f1; exact ⟨h.2, f1.1⟩
    · cases f1
  match hx : x.l, h7.2 with
  | [y], _ =>
    refine ⟨y, rfl, ?_, h7.1⟩
    rw [its, its, brkO_3 (by omega) (by omega)]; rfl
set_option maxHeartbeats 4000000 in
theorem rexpr_gen : ∀ (N : Nat) {t : Bool} {x : Expr}, esz x < N → esz x ≤ 10000000 → xF x = 0 → ACalls Try.prog 153 [.d (exprA t x)] [] (Str (txE x)) [] := by
  intro N
  induction N with
  | zero => intro t x h; omega
  | succ N ih =>
  intro t x hn hN hf
  refine ACalls.intro (n := 68) Try.func153 rfl rfl (by simp) (by rfl) ?_
  simp only [argFr]
  have hx := esz_eq x
  have hl := eszs_len x.l
  obtain ⟨f1, f2, f3⟩ := xF_zero hf
  have hxs := txE_size x hf
  rw [txE_eq] at hxs ⊢
  by_cases h1 : x.op = 1
  · rw [if_pos h1]
    have hsz : x.name.size ≤ 12 := by unfold fNm at f2; rw [if_neg (by omega), if_pos h1] at f2; exact term_le f2
    repeat (first | refine wk ?_ | refine s_field (hr := ?_))
    exact fin
  rw [if_neg h1] at hxs ⊢
  by_cases h2 : x.op = 2
  · rw [if_pos h2]
    repeat (first | refine wk ?_ | refine s_field (hr := ?_))
    exact fin
  rw [if_neg h2] at hxs ⊢
  repeat (first | refine wk ?_ | refine s_field (hr := ?_))
  refine aw_nil 3 900 9 1 rfl rfl rfl ?_
  refine t_loop (X := Nat) (fun i => i ≤ x.l.length) (fun i => [(22, I i), (21, I x.l.length), (20, .d (exprsD t x.l)), (3, .own 900 (its x.op (x.l.take i)).length), (1, .ptr 1 0)]) (fun i => [(1, exprBox t x), (900, .row 9 1 ((its x.op (x.l.take i)).map sD))]) (fun i => x.l.length - i) 0 (Nat.zero_le _) ?_
  intro i hi
  by_cases hlt : i < x.l.length
  · have hm := eszs_mem (List.getElem_mem hlt)
    have hbr := brk_sim (t := t) (u := t) (x := x) (y := x.l[i])
    have hih := ih (t := t) (x := x.l[i]) (by omega) (by omega) (f3 _ (List.getElem_mem hlt))
    have hsz := txE_size x.l[i] (f3 _ (List.getElem_mem hlt))
    have e := its_take (o := x.op) hlt
    have hil := its_len x.op (x.l.take i)
    rw [List.length_take] at hil
    cases hb : brkO x.op x.l[i].op with
    | true =>
      rw [hb] at hbr e
      have e1 : (its x.op (x.l.take i)).map sD ++ [.raw (.string ((bs [40] ++ txE x.l[i]) ++ bs [41]))] = (its x.op (x.l.take (i + 1))).map sD := by rw [e, List.map_append]; rfl
      have e2 := congrArg List.length e1
      rw [List.length_map sD] at e2
      generalize its x.op (x.l.take i) = W1 at *
      repeat (first | refine wk ?_ | refine s_field (hr := ?_))
      refine s_call [] (hA := hih) (hr := ?_)
      repeat (first | refine wk ?_ | refine s_field (hr := ?_))
      refine s_call [] (hA := hbr) (hr := ?_)
      repeat (first | refine wk ?_ | refine s_field (hr := ?_))
      exact t_next (i + 1)
    | false =>
      rw [hb] at hbr e
      have e1 : (its x.op (x.l.take i)).map sD ++ [.raw (.string (txE x.l[i]))] = (its x.op (x.l.take (i + 1))).map sD := by rw [e, List.map_append]; rfl
      have e2 := congrArg List.length e1
      rw [List.length_map sD] at e2
      generalize its x.op (x.l.take i) = W1 at *
      repeat (first | refine wk ?_ | refine s_field (hr := ?_))
      refine s_call [] (hA := hih) (hr := ?_)
      repeat (first | refine wk ?_ | refine s_field (hr := ?_))
      refine s_call [] (hA := hbr) (hr := ?_)
      repeat (first | refine wk ?_ | refine s_field (hr := ?_))
      exact t_next (i + 1)
  · rw [show x.l.take i = x.l from List.take_of_length_le (by omega)]
    have hil := its_len x.op x.l
    by_cases h3 : x.op = 3
    · have e1 : bgn x.op = bs [] ∧ nd x.op = bs [] ∧ btw x.op = bs [32] := by rw [h3]; exact ⟨rfl, rfl, rfl⟩
      rw [e1.1, e1.2.1, e1.2.2, bs_nil, nil_bs] at hxs ⊢
      have hj := join_sim (t := true) (l := its x.op x.l) (sep := bs [32]) (by omega) (by omega)
      generalize its x.op x.l = W at *
      repeat (first | refine wk ?_ | refine s_field (hr := ?_))
      refine s_call [] (hA := hj) (hr := ?_)
      repeat (first | refine wk ?_ | refine s_field (hr := ?_))
      exact fin
    · by_cases h4 : x.op = 4
      · have e1 : bgn x.op = bs [] ∧ nd x.op = bs [] ∧ btw x.op = bs [32, 124, 32] := by rw [h4]; exact ⟨rfl, rfl, rfl⟩
        rw [e1.1, e1.2.1, e1.2.2, bs_nil, nil_bs] at hxs ⊢
        have hj := join_sim (t := true) (l := its x.op x.l) (sep := bs [32, 124, 32]) (by omega) (by omega)
        generalize its x.op x.l = W at *
        repeat (first | refine wk ?_ | refine s_field (hr := ?_))
        refine s_call [] (hA := hj) (hr := ?_)
        repeat (first | refine wk ?_ | refine s_field (hr := ?_))
        exact fin
      · have h5 : 5 ≤ x.op := by
          unfold fOk at f1
          rw [if_neg (by omega), if_neg h3, if_neg h4] at f1
          split at f1
          · rename_i h; exact h.1
          · cases f1
        obtain ⟨y, e1, e2, h7⟩ := tx_kids hf h5
        have hy : (txE y).size + 5 ≤ 20 * esz y := txE_size y (f3 y (by rw [e1]; simp))
        have hye : esz y ≤ eszs x.l := by rw [e1]; simp [eszs]
        rw [e2]
        have e3 : joinB (btw x.op) [txE y] = txE y := by rw [joinB, tailB, nil_bs]
        rw [e3]
        have hy2 : ([txE y][0]).size + 5 ≤ 20 * esz y := hy
        by_cases h50 : x.op = 5
        · rw [h50, show bgn 5 = bs [91] from rfl, show nd 5 = bs [93] from rfl]
          repeat (first | refine wk ?_ | refine s_field (hr := ?_))
          exact fin
        · by_cases h60 : x.op = 6
          · rw [h60, show bgn 6 = bs [123] from rfl, show nd 6 = bs [125] from rfl]
            repeat (first | refine wk ?_ | refine s_field (hr := ?_))
            exact fin
          · have h70 : x.op = 7 := by omega
            rw [h70, show bgn 7 = bs [60] from rfl, show nd 7 = bs [62] from rfl]
            repeat (first | refine wk ?_ | refine s_field (hr := ?_))
            exact fin
end Go.Proofs.Ytkfeccbahpmadaa
