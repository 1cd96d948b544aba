/-
  Sim: trees: Check, Own, words. Sim: steps that are the same; Node; StepFault. Sim: StepFault. Sim: factor's kids, group, common, head, tail. Sim: turn's kids, parts, gapped, then. Sim: slices.Grow of nothing (the shelf's contract, said by data), slices.Concat. Sim: (*turner).ahead.
-/
import Derived.Test.YticnpbopelgmiaaQTreeA
import Derived.Test.YticnpbopelgmiaaT1
import Derived.Test.YticnpbopelgmiaaS4
import Derived.Test.YticnpbopelgmiaaQS5
import Derived.Test.YticnpbopelgmiaaQP1
import Derived.Test.YticnpbopelgmiaaTurnR
import Derived.Test.YticnpbopelgmiaaF2
import Derived.Shelf.Spec.SlicesGrow
set_option linter.unusedVariables false
set_option linter.unusedSimpArgs false
set_option linter.unusedSectionVars false
namespace Go.Proofs.Yticnpbopelgmiaa
open Go.RowKit
set_option maxRecDepth 100000

theorem treeCheck_sim {t u : Bool} {g : Gram} {x : Tree} {v : Int} (hl : g.rules.length ≤ 100000000) (hr : ∀ r ∈ g.rules, r.right.length ≤ 100000000) (hx : cnt x ≤ 100000000) :
    ACalls Try.prog 132 [.d (gramD t g), .d (treeA u x), I v] [] (.d (faultD (treeFault g x v))) [] := by
  refine ACalls.intro (n := 25) Try.func132 rfl rfl (by simp) (by rfl) ?_
  simp only [argFr]
  repeat (first | refine wk ?_)
  refine s_call [] (hA := gramCheck_sim) (hr := ?_)
  by_cases h0 : (gramFault g).code = 0
  · rw [show treeFault g x v = if cnt x ≤ 400 then (if fits g x v = true then ⟨0, 0⟩ else ⟨13, -1⟩) else ⟨6, -1⟩ by rw [treeFault, if_pos h0]]
    repeat (first | refine wk ?_)
    refine s_call [] (hA := size_sim x hx (m := 400) (by omega)) (hr := ?_)
    by_cases h4 : cnt x ≤ 400
    · rw [if_pos h4, show left_ ((400 : Nat) : Int) (cnt x) = ((400 - cnt x : Nat) : Int) by unfold left_; rw [if_pos (by omega)]; omega]
      repeat (first | refine wk ?_)
      refine s_call [] (hA := fits_sim hl hr x hx (v := v)) (hr := ?_)
      cases hf : fits g x v with
      | true =>
        rw [if_pos rfl]
        repeat (first | refine wk ?_)
        exact fin
      | false =>
        rw [if_neg (by simp)]
        repeat (first | refine wk ?_)
        exact fin
    · rw [if_neg h4, show left_ ((400 : Nat) : Int) (cnt x) = -1 by unfold left_; rw [if_neg (by omega)]]
      repeat (first | refine wk ?_)
      exact fin
  · rw [show treeFault g x v = gramFault g by rw [treeFault, if_neg h0]]
    repeat (first | refine wk ?_)
    exact fin
theorem treeOwn_sim {t : Bool} : ∀ (x : Tree), cnt x ≤ 100000000 → ACalls Try.prog 134 [.d (treeA t x)] [] (.d (treeA false x)) [] := by
  refine Tree.ind fun x ih hx => ?_
  refine ACalls.intro (n := 25) Try.func134 rfl rfl (by simp) (by rfl) ?_
  simp only [argFr]
  have hk := kids_len hx
  repeat (first | refine wk ?_)
  refine aw_nilCell 3 1 900 49 2 rfl rfl rfl rfl ?_
  refine t_loop (X := Nat) (fun i => i ≤ x.kids.length) (fun i => [(12, I i), (11, I x.kids.length), (10, .d (treesD t x.kids)), (3, .ptr 3 0), (2, .ptr 2 0), (1, .ptr 1 0)]) (fun i => [(1, .box 49 [.d (iD x.rule), .d (treesD t x.kids)]), (2, .box 49 [.d (iD 0), .d (.raw (.slice none 0 0))]), (3, .box 49 [.d (iD x.rule), .own 900 (x.kids.take i).length]), (900, .row 49 2 ((x.kids.take i).map (treeD false)))]) (fun i => x.kids.length - i) 0 (Nat.zero_le _) ?_
  intro i hi
  by_cases hlt : i < x.kids.length
  · have e : (x.kids.take (i + 1)).map (treeD false) = (x.kids.take i).map (treeD false) ++ [treeA false x.kids[i]] := by
      rw [List.take_succ_eq_append_getElem hlt, List.map_append]; simp [treeA_eq]
    repeat (first | refine wk ?_)
    refine s_call [] (hA := ih x.kids[i] (List.getElem_mem hlt) (kid_le hx hlt).1) (hr := ?_)
    repeat (first | refine wk ?_)
    exact t_next (i + 1)
  · rw [show x.kids.take i = x.kids from List.take_of_length_le (by omega)]
    refine aw_froz 900 rfl ?_
    repeat (first | refine wk ?_)
    exact fin

/-! ### Words -/
theorem word_sim {t u : Bool} {g : Gram} (hg : g.ok) : ∀ (x : Tree) (v : Int), fits g x v = true → cnt x ≤ 400 → ∀ out : List Int, out.length + 10 * cnt x ≤ 1000000 →
    ACalls Try.prog 174 [.d (gramD t g), .d (treeA u x), .own 1000 out.length] [(1000, .row 3 1 (out.map iD))] (.own 1000 (out ++ wordT g x).length) [(1000, .row 3 1 ((out ++ wordT g x).map iD))] := by
  refine Tree.ind fun x ih v hf hx out ho => ?_
  refine ACalls.intro (n := 41) Try.func174 rfl rfl (by simp) (by rfl) ?_
  simp only [argFr]
  obtain ⟨i, hi, e1, e2, e3, e4, e5⟩ := fits_parts hf
  have hk := kids_len hx
  have hlen := hg.rules
  have hrt := hg.right _ (List.getElem_mem hi)
  have hwl := wordT_le 10 hg.right x
  repeat (first | refine wk ?_)
  refine t_loop (X := Nat × Nat × List Int) (fun y => y.1 ≤ g.rules[i].right.length ∧ y.2.1 = (kids (g.rules[i].right.take y.1)).length ∧ wordT g x = y.2.2 ++ wordL g (g.rules[i].right.drop y.1) (x.kids.drop y.2.1) ∧ y.2.2.length ≤ y.1 + 10 * cnts (x.kids.take y.2.1))
    (fun y => [(18, I y.1), (17, I g.rules[i].right.length), (16, .d (ints t g.rules[i].right)), (7, I y.2.1), (4, .ptr 4 0), (3, .ptr 3 0), (2, .own 1000 (out ++ y.2.2).length)])
    (fun y => [(3, gramBox t g), (4, .box 49 [.d (iD x.rule), .d (treesD u x.kids)]), (1000, .row 3 1 ((out ++ y.2.2).map iD))]) (fun y => g.rules[i].right.length - y.1) (0, 0, []) ⟨Nat.zero_le _, by simp [kids], by simpa using e5, by simp⟩ ?_
  rintro ⟨j, q, pre⟩ ⟨h1, h2, h3, h4⟩
  dsimp only at h1 h2 h3 h4 ⊢
  have hpl : (wordT g x).length = pre.length + (wordL g (g.rules[i].right.drop j) (x.kids.drop q)).length := by rw [h3, List.length_append]
  have hol : (out ++ pre).length = out.length + pre.length := List.length_append
  by_cases hlt : j < g.rules[i].right.length
  · have hlo := hg.lo _ (List.getElem_mem hi) _ (List.getElem_mem hlt)
    have hte := hg.terms
    by_cases hs : g.rules[i].right[j] < 0
    · rw [wordL_t hlt hs, List.length_cons] at hpl
      rw [wordL_t hlt hs] at h3
      have e := kids_snoc g.rules[i].right j hlt
      rw [kids_neg hs, List.append_nil] at e
      repeat (first | refine wk ?_)
      exact t_next (j + 1, q, pre ++ [-1 - g.rules[i].right[j]]) (a := ⟨by omega, by dsimp only; rw [e]; exact h2, by simpa using h3, by simp; omega⟩) (b := by dsimp only; omega)
    · have hq : q < x.kids.length := by have := kids_take_le hlt hs; omega
      have hq2 : q < (kids g.rules[i].right).length := by omega
      have e := kids_snoc g.rules[i].right j hlt
      rw [kids_pos (by omega)] at e
      have hfk := fitss_at e4 hq hq2
      have hkl := kid_le hx hq
      rw [wordL_v hlt hs hq, List.length_append] at hpl
      rw [wordL_v hlt hs hq] at h3
      have hc1 := cnt_eq x
      have hc2 := cnts_take hq
      have hc3 := cnts_drop hq
      have hc4 : cnts x.kids = cnts (x.kids.take q) + cnts (x.kids.drop q) := by rw [← cnts_append, List.take_append_drop]
      have hc5 := wordT_le 10 hg.right x.kids[q]
      have hol2 : (out ++ pre).length + 10 * cnt x.kids[q] ≤ 1000000 := by omega
      repeat (first | refine wk ?_)
      refine s_call [] (hA := ih x.kids[q] (List.getElem_mem hq) _ hfk hkl.1 (out ++ pre) hol2) (hr := ?_)
      repeat (first | refine wk ?_)
      exact t_next (j + 1, q + 1, pre ++ wordT g x.kids[q]) (a := ⟨by omega, by dsimp only; rw [e, List.length_append]; simp; omega, by simpa using h3, by simp only [List.length_append]; omega⟩) (b := by dsimp only; omega)
  · rw [wordL_end hlt, List.append_nil] at h3
    repeat (first | refine wk ?_)
    rw [h3]
    exact fin
theorem word0_sim {t u : Bool} {g : Gram} {x : Tree} {v : Int} (hg : g.ok) (hf : fits g x v = true) (hx : cnt x ≤ 400) :
    ACalls Try.prog 174 [.d (gramD t g), .d (treeA u x), .d (.raw (.slice none 0 0))] [] (.own 900 (wordT g x).length) [(900, .row 3 1 ((wordT g x).map iD))] :=
  ACalls.nilArg (pre := [gramD t g, treeA u x]) (post := []) (word_sim hg x v hf hx [] (by simp; omega))
end Go.Proofs.Yticnpbopelgmiaa
namespace Go.Proofs.Yticnpbopelgmiaa
open Go.RowKit
set_option maxRecDepth 100000

theorem node_sim {r : Int} {k : Nat} (hk : k ≤ 100000000 := by ((try simp only [List.length_map, List.length_append, List.length_cons, List.length_nil, List.length_replicate, List.length_set, List.length_take, List.length_drop]); first | omega | assumption)) : ACalls Try.prog 58 [I r, I k] [] (.own 20 1) [(20, .row 67 3 ((nodeF r k).map (fragD false)))] := by
  refine ACalls.intro (n := 21) Try.func58 rfl rfl (by simp) (by rfl) ?_
  simp only [argFr]
  repeat (first | refine wk ?_)
  refine aw_nil 5 900 67 3 rfl rfl rfl ?_
  refine t_loop (X := Nat) (fun x => x ≤ k) (fun x => [(8, I x), (7, I k), (0, I r), (5, .own 900 (holes x).length)]) (fun x => [(900, .row 67 3 ((holes x).map (fragD false)))]) (fun x => k - x) 0 (Nat.zero_le _) ?_
  intro i h1
  have hh : (holes i).length = i := by simp [holes]
  by_cases hlt : i < k
  · have e := holes_dsnoc false i
    have e' : (holes (i + 1)).length = (holes i).length + 1 := by rw [holes_snoc]; simp
    repeat (first | refine wk ?_)
    exact t_next (i + 1)
  · obtain rfl : i = k := by omega
    rw [nodeF_map]
    repeat (first | refine wk ?_)
    exact fin
abbrev stepBox (t : Bool) (s : Step) : Ob := .box 31 [.d (iD s.g.vars), .d (iD s.g.terms), .d (iD s.g.start), .d (rulesD t s.g.rules), .d (.sl t 1 (s.frags.map (fragsD t))), .d (treesD t s.empty)]
end Go.Proofs.Yticnpbopelgmiaa
namespace Go.Proofs.Yticnpbopelgmiaa
open Go.RowKit
set_option maxRecDepth 100000

end Go.Proofs.Yticnpbopelgmiaa
namespace Go.Proofs.Yticnpbopelgmiaa
open Go.RowKit
set_option maxRecDepth 100000
-- SimX

def workD (t : Bool) (w : Work) : D := .agg [ints t w.right, fragsD t w.l]
abbrev worksD (t : Bool) (l : List Work) : D := .sl t 2 (l.map (workD t))
end Go.Proofs.Yticnpbopelgmiaa
namespace Go.Proofs.Yticnpbopelgmiaa
open Go.RowKit
set_option maxRecDepth 100000
-- SimX

abbrev tworkBox (t : Bool) (w : Work) : Ob := .box 86 [.d (ints t w.right), .d (fragsD t w.l)]
theorem tkids_sim {t : Bool} {xs : List Int} (hl : xs.length ≤ 100000000 := by ((try simp only [List.length_map, List.length_append, List.length_cons, List.length_nil, List.length_replicate, List.length_set, List.length_take, List.length_drop]); first | omega | assumption)) :
    ACalls Try.prog 59 [.d (ints t xs)] [] (I (kids xs).length) [] := by
  refine ACalls.intro (n := 7) Try.func59 rfl rfl (by simp) (by rfl) ?_
  simp only [argFr]
  repeat (first | refine wk ?_ | refine s_field (hr := ?_))
  refine s_call [] (hA := kids_sim) (hr := ?_)
  repeat (first | refine wk ?_ | refine s_field (hr := ?_))
  exact fin
theorem tparts_gen : ∀ (N : Nat) {t : Bool} {l : List Frag}, fszs l < N → fszs l ≤ 100000000 → ACalls Try.prog 114 [.d (fragsD t l)] [] (I (fszs l)) [] := by
  intro N
  induction N with
  | zero => intro t l h; omega
  | succ N ih =>
  intro t l hN hle
  have hl := Nat.le_trans (fszs_len l) hle
  refine ACalls.intro (n := 21) Try.func114 rfl rfl (by simp) (by rfl) ?_
  simp only [argFr]
  repeat (first | refine wk ?_ | refine s_field (hr := ?_))
  refine t_loop (X := Nat × Nat) (fun x => x.1 ≤ l.length ∧ x.2 + x.1 = l.length + fszs (l.take x.1)) (fun x => [(10, I x.1), (9, I l.length), (8, .d (fragsD t l)), (3, I x.2)]) (fun _ => []) (fun x => l.length - x.1) (0, l.length) ⟨Nat.zero_le _, by simp [fszs]⟩ ?_
  rintro ⟨i, v⟩ ⟨h1, h2⟩
  dsimp only at h1 h2 ⊢
  by_cases hlt : i < l.length
  · have e1 := fszs_take hlt
    have e3 := fszs_mem (List.getElem_mem hlt)
    have e2 := fsz_eq l[i]
    have e4 : fszs l = fszs (l.take (i + 1)) + fszs (l.drop (i + 1)) := fszs_split _ _
    have e5 : (l.take i).length ≤ fszs (l.take i) := fszs_len _
    repeat (first | refine wk ?_ | refine s_field (hr := ?_))
    refine s_call [] (hA := ih (t := t) (l := l[i].l) (by omega) (by omega)) (hr := ?_)
    repeat (first | refine wk ?_ | refine s_field (hr := ?_))
    exact t_next (i + 1, v + fszs l[i].l) (a := ⟨by omega, by dsimp only; omega⟩) (b := by dsimp only; omega)
  · rw [List.take_of_length_le (by omega)] at h2
    obtain rfl : v = fszs l := by omega
    repeat (first | refine wk ?_ | refine s_field (hr := ?_))
    exact fin
/-- One rule's template in another's. -/
theorem tplug_sim {t u : Bool} {g : Gram} (hg : g.ok) {B B' C N : Nat} {o : Bool} {x y : Work} {v : Int} (hx : TOk g B C N true x) (hy : TOk g B' C N o y) (hB : B ≤ 4000) (hB' : B' ≤ 100) (hC : C ≤ 20) (hu : hdI x.right = v) (h0 : 0 ≤ v) (hm : TOk g (B + B') 40 N o (mixW x y)) :
    ACalls Try.prog 111 [.d (fragsD t x.l), I 0, .d (fragsD u y.l), I ((kids y.right).length : Nat)] [] (.d (fragsD false (mixW x y).l)) [] := by
  have hz := hx.nz rfl (by omega)
  have s1 := hx.sz
  have s2 := hy.sz
  have r2 := hy.rl
  have hk := kids_le y.right
  have hmul : fszs x.l * fszs y.l ≤ 4000 * 100 := Nat.mul_le_mul (by omega) (by omega)
  have h3 : PtL 0 (movL (-1) 0 y.l) (((kids y.right).length : Int) - 1) x.l := by rw [movL_zero]; exact ptL_small x.l hx.wf hz (by omega)
  exact plug_sim (t := t) (u := u) (l := x.l) (inn := y.l) (k := 0) (n := ((kids y.right).length : Nat)) (by omega) (by omega) h3 (hx.nb hg (by omega)) (hy.nb hg (by omega)) (hm.nb hg (by omega)) (by decide) (by decide) (by omega) (by omega)
theorem gapF_is (t : Bool) : fragsD t [gapF] = .sl t 3 [.agg [iD 3, iD 0, .sl t 3 []]] := by simp [gapF, fragsD, fragD, fragDs]
theorem gapped_sim {t : Bool} {g : Gram} (hg : g.ok) {B C N : Nat} {x : Work} (hx : TOk g B C N true x) (hB : B ≤ 4000) (hC : C ≤ 20) (h0 : 0 ≤ hdI x.right) :
    ACalls Try.prog 112 [.d (fragsD t x.l)] [] (.d (fragsD false (gappedW x).l)) [] := by
  have hgo := gapped_ok hx h0
  have hz := hx.nz rfl h0
  have s1 := hx.sz
  have h3 : PtL 0 (movL (-1) 0 [gapF]) ((0 : Int) - 1) x.l := by rw [movL_zero]; exact ptL_small x.l hx.wf hz (by have : fszs [gapF] = 1 := rfl; rw [this]; omega)
  have hp := plug_sim (t := t) (u := false) (l := x.l) (inn := [gapF]) (k := 0) (n := 0) (by omega) (by decide) h3 (hx.nb hg (by omega)) ⟨⟨by decide, trivial⟩, trivial⟩ (hgo.nb hg (by omega)) (by decide) (by decide) (by decide) (by decide)
  rw [gapF_is] at hp
  have hp2 : ACalls Try.prog 111 [.d (fragsD t x.l), I 0, .d (.sl false 3 [.agg [iD 3, iD 0, nilT]]), I 0] [] (.d (fragsD false (gappedW x).l)) [] := hp.le (args := [.d (fragsD t x.l), I 0, .d (.sl false 3 [.agg [iD 3, iD 0, nilT]]), I 0]) ⟨.refl _, .refl _, .sl (.cons (.agg (.cons (.refl _) (.cons (.refl _) (.cons (.nil _ _) .nil)))) .nil), .refl _, trivial⟩
  refine ACalls.intro (n := 7) Try.func112 rfl rfl (by simp) (by rfl) ?_
  simp only [argFr]
  repeat (first | refine wk ?_ | refine s_field (hr := ?_))
  --@
  refine s_call [] (hA := hp2) (hr := ?_)
  repeat (first | refine wk ?_ | refine s_field (hr := ?_))
  --@
  exact fin
theorem then_sim {x : Work} {v : Nat} (h1 : x.right.length ≤ 1000) (hv : v ≤ 1000) :
    ACalls Try.prog 113 [.d (workD false x), I v] [] (.own 22 2) [(22, .row 86 2 ((thenW (v : Int) x).map (workD false)))] := by
  have hk := kids_le x.right
  have e1 : x.right.map iD ++ [D.raw (.int .i64 (v : Int))] = (x.right ++ [(v : Int)]).map iD := by simp [iD]
  refine ACalls.intro (n := 23) Try.func113 rfl rfl (by simp) (by rfl) ?_
  simp only [argFr]
  repeat (first | refine wk ?_ | refine s_field (hr := ?_))
  refine s_call [(5, 905)] (hA := clone_sim) (hr := ?_)
  repeat (first | refine wk ?_ | refine s_field (hr := ?_))
  --@
  rw [e1]
  refine s_call [] (hA := tkids_sim) (hr := ?_)
  repeat (first | refine wk ?_ | refine s_field (hr := ?_))
  --@
  have e2 : (thenW (v : Int) x).map (workD false) = [D.agg [ints false x.right, fragsD false x.l], D.agg [D.sl false 1 ((x.right ++ [(v : Int)]).map iD), D.sl false 3 [D.agg [D.raw (.int .i64 4), D.raw (.int .i64 ((kids x.right).length : Int)), fragsD false x.l]]]] := by simp [thenW, workD, ints, fragsD, fragD, iD, fragDs_map]
  rw [e2]
  exact finx
end Go.Proofs.Yticnpbopelgmiaa
namespace Go.Proofs
open Go.Shelf
def Try.growRen : Go.Shelf.Ren := ⟨fun | 4 => 156 | n => n, fun | 0 => 0 | 3 => 3 | 4 => 4 | 9 => 9 | 20 => 20 | 22 => 39 | 25 => 3 | n => n, fun | n => n⟩
theorem Try.growLay : Go.Proofs.Lays8.n4 Try.prog Try.growRen := {
  mixed := by kernel_rfl
  f4 := ⟨"slices.Grow[[]int,int]", by decide, Try.func156.trans (congrArg some (by kernel_rfl))⟩
  t0 := Try.underlying0
  a0 := Try.isAgg0
  z0 := Try.sizeOf0
  v0 := Try.zeroValue0
  t3 := Try.underlying3
  a3 := Try.isAgg3
  z3 := Try.sizeOf3
  v3 := Try.zeroValue3
  t4 := Try.underlying4
  a4 := Try.isAgg4
  z4 := Try.sizeOf4
  v4 := Try.zeroValue4
  t9 := Try.underlying9
  a9 := Try.isAgg9
  z9 := Try.sizeOf9
  v9 := Try.zeroValue9
  t20 := Try.underlying20
  a20 := Try.isAgg20
  z20 := Try.sizeOf20
  v20 := Try.zeroValue20
  t22 := Try.underlying39
  a22 := Try.isAgg39
  z22 := Try.sizeOf39
  v22 := Try.zeroValue39 }
end Go.Proofs
namespace Go.Proofs.Yticnpbopelgmiaa
open Go.RowKit Go.Lib
set_option maxRecDepth 100000
-- SimX
theorem blk_one {E : Env} {k b : Nat} (hb : blkOf E [(10, .row 3 1 [])] k b) : k = 10 ∧ obOf (E.row 10) = some b := by
  unfold blkOf at hb
  simp only [hget] at hb
  cases hk : Nat.beq 10 k <;> rw [hk] at hb
  · cases hb
  · have := Nat.eq_of_beq_eq_true hk
    subst this
    exact ⟨rfl, hb⟩
theorem sgrow_sim {n : Nat} (hn : n ≤ 100000000 := by ((try simp only [List.length_map, List.length_append, List.length_cons, List.length_nil, List.length_replicate, List.length_set, List.length_take, List.length_drop]); first | omega | assumption)) : ACalls Try.prog 156 [.d (.raw (.slice none 0 0)), I n] [] (.own 10 0) [(10, .row 3 1 [])] := by
  refine ⟨⟨_, Try.func156, rfl, rfl⟩, fun E w us o H hr hk ho hs => ?_⟩
  simp only [V.Reps, V.Rep, D.RepV, D.Rep, List.cons.injEq, and_true] at hr
  obtain ⟨u, _, rfl, ⟨rfl, _⟩, _, _, rfl, ⟨rfl, _⟩, rfl⟩ := hr
  -- what was made
  have key : ∀ (v : Value) (w' : World), Ext (Live E []) w w' → (∀ b, obOf v = some b → w.heap.size ≤ b ∧ b < w'.heap.size) → (∀ M, RowAt M w' 3 1 v []) →
      ∃ E' u, Ending.returned v = .returned u ∧ HRep E' [(10, .row 3 1 [])] o w' ∧ V.Rep E' [(10, .row 3 1 [])] (bars E' [(10, .row 3 1 [])] o) w' (.own 10 0) u ∧ (∀ k ∈ (V.own 10 0).keys, (hget [(10, Ob.row 3 1 [])] k).isSome = true) ∧ Ext (Live E []) w w' ∧ Hist E [] E' [(10, .row 3 1 [])] ∧ (∀ k b, blkOf E' [(10, .row 3 1 [])] k b → Live E [] b ∨ w.heap.size ≤ b) := by
    intro v w' hE hb hrow
    refine ⟨{ E with row := fun k => if k = 10 then v else E.row k }, v, rfl, ⟨?_, ?_, ?_⟩, ?_, ?_, hE, ?_, ?_⟩
    · intro k ob hk
      simp only [hget] at hk
      split at hk
      · rename_i hb2
        have := Nat.eq_of_beq_eq_true hb2
        subst this
        cases hk
        simp only [ObRep, if_true]
        exact hrow _
      · cases hk
    · intro k k' b h1 h2
      rw [(blk_one h1).1, (blk_one h2).1]
    · intro k ob hk j hj
      simp only [hget] at hk
      split at hk
      · cases hk; simp [Ob.keys] at hj
      · cases hk
    · simp only [V.Rep]
      refine ⟨0, .inl ⟨_, _, _, rfl, rfl⟩, Nat.le_refl _, ?_, fun _ => by simp⟩
      obtain ⟨a, cap, e, _⟩ := (hrow (bars E [] o)).shape
      rw [e]; rfl
    · intro k hk
      simp only [V.keys, List.mem_singleton] at hk
      subst hk; rfl
    · intro k hk hks
      simp only [hget] at hks
      cases hb2 : Nat.beq 10 k with
      | true => have := Nat.eq_of_beq_eq_true hb2; omega
      | false => rw [hb2] at hks; cases hks
    · intro k b h1
      obtain ⟨_, h2⟩ := blk_one h1
      simp only [if_true] at h2
      exact .inr (hb b h2).1
  by_cases h0 : n = 0
  · subst h0
    refine (Go.Proofs.Any8.slices_Grow_room Try.growLay none 0 0 0 w (Nat.le_refl _) (by decide) (by decide) (Nat.le_refl _)).mono ?_
    rintro e w' ⟨rfl, rfl⟩
    exact key _ _ (Ext.refl _ _) (fun b hb => by simp [obOf] at hb) (fun M => ⟨fun x hx => (by cases hx), .inl ⟨none, rfl, rfl⟩⟩)
  · obtain ⟨i0, _, g1, _, g2, g3, _, g4, _⟩ := tyOf_spec (TY.at (t := 3) rfl)
    refine (Go.Proofs.Any8.slices_Grow_grow Try.growLay i0 (.int .i64 0) g1 g4 (by rw [g2]; decide) none 0 0 n [] w (Nat.le_refl _) (by omega) (by rw [g3]; show (0 + n) * 8 ≤ _; omega) (by omega) (by simp) (fun _ => rfl) (fun a ha => by cases ha)).mono ?_
    rintro e w' ⟨rfl, rfl⟩
    have hG := grownCap_ge w (0 + n) 0 3
    have hG2 := grownCap_le_maxLen w (0 + n) 0 3 (by unfold maxLen; omega)
    change _ ≤ grownCap w (0 + n) 0 (Try.growRen.t 25) at hG
    change grownCap w (0 + n) 0 (Try.growRen.t 25) ≤ _ at hG2
    generalize grownCap w (0 + n) 0 (Try.growRen.t 25) = G at *
    refine key _ _ ?_ ?_ ?_
    · refine ⟨rfl, rfl, rfl, ?_, fun k hk _ => ?_⟩
      · exact Nat.le_of_lt (Nat.lt_of_lt_of_eq (Nat.lt_succ_self _) (Array.size_push _).symm)
      · exact (Array.getElem?_push_lt hk).trans (Array.getElem?_eq_getElem hk).symm
    · intro b hb
      simp only [obOf] at hb
      rw [if_neg (by omega)] at hb
      cases hb
      exact ⟨Nat.le_refl _, Nat.lt_of_lt_of_eq (Nat.lt_succ_self _) (Array.size_push _).symm⟩
    · intro M
      refine ⟨fun x hx => (by cases hx), .inr ⟨w.heap.size, 0, G, _, rfl, by omega, Array.getElem?_push_size, Nat.zero_le _, hG2, ?_, by simp [D.Reps]⟩⟩
      have z1 : ∀ k : Nat, (Builtin.zeroCells (Value.int .i64 0).cells k).size = k := fun k => by simp [Builtin.zeroCells, Value.cells]
      simp only [Array.size_append, z1]
      show 0 + (0 + n - 0) + (G - (0 + n)) = 0 + G * 1
      omega
theorem concat_sim {t u1 u2 : Bool} {a b : List Int} (ha : a.length ≤ 100000) (hb : b.length ≤ 100000) : ACalls Try.prog 110 [.d (.sl t 1 [ints u1 a, ints u2 b])] [] (.own 910 (a ++ b).length) [(910, .row 3 1 ((a ++ b).map iD))] := by
  refine ACalls.intro (n := 36) Try.func110 rfl rfl (by simp) (by rfl) ?_
  simp only [argFr]
  repeat (first | refine wk ?_ | refine s_field (hr := ?_))
  refine t_loop (X := Nat) (fun i => i ≤ 2) (fun i => [(11, I i), (10, I ((2 : Nat) : Int)), (9, .d (.sl t 1 [ints u1 a, ints u2 b])), (3, I ((if i = 0 then 0 else if i = 1 then a.length else a.length + b.length : Nat) : Int)), (0, .d (.sl t 1 [ints u1 a, ints u2 b]))]) (fun _ => []) (fun i => 2 - i) 0 (by decide) ?_
  intro i hi
  obtain rfl | rfl | rfl : i = 0 ∨ i = 1 ∨ i = 2 := by omega
  · simp only [if_true]
    repeat (first | refine wk ?_ | refine s_field (hr := ?_))
    exact t_next 1
  · simp only [if_neg (show ¬ (1 : Nat) = 0 by decide), if_true]
    repeat (first | refine wk ?_ | refine s_field (hr := ?_))
    exact t_next 2 (b := by decide)
  · simp only [if_neg (show ¬ (2 : Nat) = 0 by decide), if_neg (show ¬ (2 : Nat) = 1 by decide)]
    repeat (first | refine wk ?_ | refine s_field (hr := ?_))
    refine s_call [(10, 910)] (hA := sgrow_sim) (hr := ?_)
    repeat (first | refine wk ?_ | refine s_field (hr := ?_))
    --@
    refine t_loop (X := Nat) (fun i => i ≤ 2) (fun i => [(27, I i), (26, I ((2 : Nat) : Int)), (25, .d (.sl t 1 [ints u1 a, ints u2 b])), (6, .own 910 (if i = 0 then [] else if i = 1 then a else a ++ b).length)]) (fun i => [(910, .row 3 1 ((if i = 0 then [] else if i = 1 then a else a ++ b).map iD))]) (fun i => 2 - i) 0 (by decide) ?_
    intro i hi
    obtain rfl | rfl | rfl : i = 0 ∨ i = 1 ∨ i = 2 := by omega
    · simp only [if_true, List.map_nil, List.length_nil]
      repeat (first | refine wk ?_ | refine s_field (hr := ?_))
      --@
      exact t_next 1
    · simp only [if_neg (show ¬ (1 : Nat) = 0 by decide), if_true]
      have e1 : a.map iD ++ b.map iD = (a ++ b).map iD := by rw [List.map_append]
      repeat (first | refine wk ?_ | refine s_field (hr := ?_))
      --@
      rw [e1]
      exact t_next 2 (b := by decide)
    · simp only [if_neg (show ¬ (2 : Nat) = 0 by decide), if_neg (show ¬ (2 : Nat) = 1 by decide)]
      repeat (first | refine wk ?_ | refine s_field (hr := ?_))
      --@
      exact finx
end Go.Proofs.Yticnpbopelgmiaa
namespace Go.Proofs.Yticnpbopelgmiaa
open Go.RowKit
set_option maxRecDepth 100000
-- SimX

abbrev turnBx (n : Nat) (b : Bool) : Ob := .box 80 [.own 1001 n, B b]
abbrev turnH (all : List (List Work)) (b : Bool) : Hp := [(1000, turnBx all.length b), (1001, .row 81 1 (all.map (worksD false)))]
theorem aheadIn_step {x : Work} {A out : List Work} {k : Nat} (h : k < A.length) : aheadIn x (A.drop k) out = if 10 < (mixW x A[k]).right.length ∨ 160 < (out ++ [mixW x A[k]]).length then none else aheadIn x (A.drop (k + 1)) (out ++ [mixW x A[k]]) := by
  rw [List.drop_eq_getElem_cons h, aheadIn]
theorem aheadIn_end {x : Work} {A out : List Work} {k : Nat} (h : ¬ k < A.length) : aheadIn x (A.drop k) out = some out := by
  rw [List.drop_of_length_le (by omega), aheadIn]
theorem aheadW_step {A : List Work} {u : Int} {l out : List Work} {i : Nat} (h : i < l.length) : aheadW A u (l.drop i) out = if hdI l[i].right ≠ u then aheadW A u (l.drop (i + 1)) (out ++ [l[i]]) else
      match aheadIn l[i] A out with
      | none => none
      | some out' => aheadW A u (l.drop (i + 1)) out' := by
  rw [List.drop_eq_getElem_cons h, aheadW]; rfl
theorem hdI_at {r : List Int} (h : 0 < r.length) : hdI r = r[0] := by
  cases r with
  | nil => simp at h
  | cons a r => rfl
theorem aheadW_end {A : List Work} {u : Int} {l out : List Work} {i : Nat} (h : ¬ i < l.length) : aheadW A u (l.drop i) out = if 160 < out.length then none else some out := by
  rw [List.drop_of_length_le (by omega), aheadW]
set_option maxHeartbeats 8000000 in
theorem ahead_sim {g : Gram} (hg : g.ok) {all : List (List Work)} {l : List Work} {u N B : Nat} (hu : u < all.length) (h64 : all.length ≤ 64) (hA : ∀ y ∈ all.getD u [], TOk g 60 10 N true y) (hA160 : (all.getD u []).length ≤ 160) (hl : ∀ w ∈ l, TOk g B 10 N true w) (hl160 : l.length ≤ 160) (hB : B ≤ 3900) :
    ACalls Try.prog 60 [.ptr 1000 0, .d (worksD false l), I u] (turnH all false) (.d (worksD false ((aheadW (all.getD u []) u l []).getD []))) (turnH all (aheadW (all.getD u []) u l []).isNone) := by
  refine ACalls.intro (n := 81) Try.func60 rfl rfl (by simp) (by rfl) ?_
  simp only [argFr]
  have hml : (all.map (worksD false)).length = all.length := List.length_map _
  have eA : all.getD u [] = all[u] := by rw [List.getD_eq_getElem?_getD, List.getElem?_eq_getElem hu]; rfl
  rw [eA] at hA hA160 ⊢
  generalize hres : aheadW all[u] u l [] = res at *
  repeat (first | refine wk ?_ | refine s_field (hr := ?_))
  refine aw_nil 7 907 86 2 rfl rfl rfl ?_
  --@
  refine t_loop (X := Nat × List Work) (fun y => y.1 ≤ l.length ∧ y.2.length ≤ 160 + y.1 ∧ res = aheadW (all[u]) u (l.drop y.1) y.2) (fun y => [(15, I y.1), (14, I l.length), (13, .d (worksD false l)), (7, .own 907 y.2.length), (0, .ptr 1000 0), (0 + 1 + 1, I u)]) (fun y => [(907, .row 86 2 (y.2.map (workD false))), (1000, turnBx all.length false), (1001, .row 81 1 (all.map (worksD false)))]) (fun y => l.length - y.1) (0, []) ⟨Nat.zero_le _, Nat.zero_le _, hres.symm⟩ ?_
  rintro ⟨i, out⟩ ⟨h1, h2, h3⟩
  dsimp only at h1 h2 h3 ⊢
  by_cases hlt : i < l.length
  · have hx := hl _ (List.getElem_mem hlt)
    have hne := hx.ne rfl
    have h0 : 0 < l[i].right.length := List.length_pos_iff.2 hne
    have hhd := hdI_at h0
    rw [aheadW_step hlt, hhd] at h3
    have e1 : out.map (workD false) ++ [D.agg [ints false l[i].right, fragsD false l[i].l]] = (out ++ [l[i]]).map (workD false) := by rw [List.map_append]; rfl
    by_cases hh : l[i].right[0] = (u : Int)
    · rw [if_neg (fun q => q hh)] at h3
      have hu0 : hdI l[i].right = (u : Int) := by rw [hhd, hh]
      have hin : ∃ rI, aheadIn l[i] (all[u]) out = rI := ⟨_, rfl⟩
      obtain ⟨rI, hrI⟩ := hin
      rw [hrI] at h3
      have hxr := hx.rl
      have etl : List.drop 1 (List.take (l[i].right.map iD).length (l[i].right.map iD)) = l[i].right.tail.map iD := by
        rw [List.take_length, ← List.map_drop, List.drop_one]
      repeat (first | refine wk ?_ | refine s_field (hr := ?_))
      --@
      refine t_loop (X := Nat × List Work) (fun y => y.1 ≤ all[u].length ∧ y.2.length ≤ 160 + i ∧ rI = aheadIn l[i] (all[u].drop y.1) y.2) (fun y => [(37, I y.1), (36, I all[u].length), (35, .d (worksD false all[u])), (9, .ptr 9 0), (15, I i), (14, I l.length), (13, .d (worksD false l)), (7, .own 907 y.2.length), (0, .ptr 1000 0), (0 + 1 + 1, I u)]) (fun y => [(9, tworkBox false l[i]), (907, .row 86 2 (y.2.map (workD false))), (1000, turnBx all.length false), (1001, .row 81 1 (all.map (worksD false)))]) (fun y => all[u].length - y.1) (0, out) ⟨Nat.zero_le _, by dsimp only; omega, hrI.symm⟩ ?_
      rintro ⟨k, L⟩ ⟨k1, k2, k3⟩
      dsimp only at k1 k2 k3 ⊢
      by_cases hkl : k < all[u].length
      · have hy := hA _ (List.getElem_mem hkl)
        have hmix := mix_ok hx hy hu0 (by omega)
        have hcc := concat_sim (t := false) (u1 := false) (u2 := false) (a := all[u][k].right) (b := l[i].right.tail) (by have := hy.rl; omega) (by rw [List.length_tail]; omega)
        have hki := tkids_sim (t := false) (xs := all[u][k].right) (by have := hy.rl; omega)
        have hpl := tplug_sim (t := false) (u := false) hg hx hy (by omega) (by omega) (by omega) hu0 (by omega) (hmix.small _ _ hmix.sz (by have := hmix.rl; omega))
        have hyr := hy.rl
        rw [aheadIn_step hkl] at k3
        have e2 : L.map (workD false) ++ [D.agg [D.sl false 1 ((all[u][k].right ++ l[i].right.tail).map iD), fragsD false (mixW l[i] all[u][k]).l]] = (L ++ [mixW l[i] all[u][k]]).map (workD false) := by rw [List.map_append (f := workD false)]; rfl
        have e3 : (mixW l[i] all[u][k]).right = all[u][k].right ++ l[i].right.tail := rfl
        repeat (first | refine wk ?_ | refine s_field (hr := ?_))
        rw [etl]
        --@
        refine s_call [(910, 912)] (hA := hcc) (hr := ?_)
        repeat (first | refine wk ?_ | refine s_field (hr := ?_))
        --@
        refine s_call [] (hA := hki) (hr := ?_)
        repeat (first | refine wk ?_ | refine s_field (hr := ?_))
        --@
        refine s_call [] (hA := hpl) (hr := ?_)
        by_cases q1 : 10 < all[u][k].right.length + l[i].right.tail.length
        · rw [if_pos (.inl (by rw [e3, List.length_append]; exact q1))] at k3
          subst k3
          subst h3
          (repeat (first | refine wk ?_ | refine s_field (hr := ?_)))
          (repeat (first | refine wkz ?_ | refine s_field (hr := ?_)))
          repeat (first | refine wk ?_ | refine s_field (hr := ?_))
          --@
          exact fin
        · by_cases q2 : 160 < L.length + 1
          · rw [if_pos (.inr (by rw [List.length_append, List.length_singleton]; exact q2))] at k3
            subst k3
            subst h3
            repeat (first | refine wk ?_ | refine s_field (hr := ?_))
            --@
            exact fin
          · rw [if_neg (fun q => by
              rw [e3, List.length_append, List.length_append, List.length_singleton] at q
              omega)] at k3
            repeat (first | refine wk ?_ | refine s_field (hr := ?_))
            --@
            rw [e2]
            exact t_next (k + 1, L ++ [mixW l[i] all[u][k]]) (a := ⟨by omega, by simp; omega, k3⟩) (b := by dsimp only; omega)
      · rw [aheadIn_end hkl] at k3
        subst k3
        repeat (first | refine wk ?_ | refine s_field (hr := ?_))
        --@
        exact t_next (i + 1, L) (a := ⟨by omega, by dsimp only; omega, h3⟩) (b := by dsimp only; omega)
    · rw [if_pos hh] at h3
      repeat (first | refine wk ?_ | refine s_field (hr := ?_))
      --@
      rw [e1]
      exact t_next (i + 1, out ++ [l[i]]) (a := ⟨by omega, by simp; omega, h3⟩) (b := by dsimp only; omega)
  · rw [aheadW_end hlt] at h3
    by_cases hm : 160 < out.length
    · rw [if_pos hm] at h3
      subst h3
      repeat (first | refine wk ?_ | refine s_field (hr := ?_))
      --@
      exact fin
    · rw [if_neg hm] at h3
      subst h3
      refine aw_froz 907 rfl ?_
      repeat (first | refine wk ?_ | refine s_field (hr := ?_))
      --@
      exact fin
end Go.Proofs.Yticnpbopelgmiaa
