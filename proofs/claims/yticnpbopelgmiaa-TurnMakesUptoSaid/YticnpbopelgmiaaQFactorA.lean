/-
  Sim: factor's kids, group, common, head, tail. Sim: turn's kids, parts, gapped, then. Sim: slices.Grow of nothing (the shelf's contract, said by data), slices.Concat.
-/
import Derived.Test.YticnpbopelgmiaaQFactorP
import Derived.Test.YticnpbopelgmiaaFrC
import Derived.Test.YticnpbopelgmiaaS5
import Derived.Test.YticnpbopelgmiaaTurnR
import Derived.Test.YticnpbopelgmiaaPlugA
import Derived.Test.YticnpbopelgmiaaF2
import Derived.Shelf.Spec.SlicesGrow
set_option linter.unusedVariables false
set_option linter.unusedSimpArgs false
set_option linter.unusedSectionVars false
namespace Go.Proofs.Yticnpbopelgmiaa
open Go.RowKit
set_option maxRecDepth 100000
-- SimX

def workD (t : Bool) (w : Work) : D := .agg [ints t w.right, fragsD t w.l]
abbrev worksD (t : Bool) (l : List Work) : D := .sl t 2 (l.map (workD t))
end Go.Proofs.Yticnpbopelgmiaa
namespace Go.Proofs.Yticnpbopelgmiaa
open Go.RowKit
set_option maxRecDepth 100000
-- SimX

abbrev tworkBox (t : Bool) (w : Work) : Ob := .box 86 [.d (ints t w.right), .d (fragsD t w.l)]
theorem tkids_sim {t : Bool} {xs : List Int} (hl : xs.length ≤ 100000000 := by ((try simp only [List.length_map, List.length_append, List.length_cons, List.length_nil, List.length_replicate, List.length_set, List.length_take, List.length_drop]); first | omega | assumption)) :
    ACalls Try.prog 59 [.d (ints t xs)] [] (I (kids xs).length) [] := by
  refine ACalls.intro (n := 7) Try.func59 rfl rfl (by simp) (by rfl) ?_
  simp only [argFr]
  repeat (first | refine wk ?_ | refine s_field (hr := ?_))
  refine s_call [] (hA := kids_sim) (hr := ?_)
  repeat (first | refine wk ?_ | refine s_field (hr := ?_))
  exact fin
theorem tparts_gen : ∀ (N : Nat) {t : Bool} {l : List Frag}, fszs l < N → fszs l ≤ 100000000 → ACalls Try.prog 114 [.d (fragsD t l)] [] (I (fszs l)) [] := by
  intro N
  induction N with
  | zero => intro t l h; omega
  | succ N ih =>
  intro t l hN hle
  have hl := Nat.le_trans (fszs_len l) hle
  refine ACalls.intro (n := 21) Try.func114 rfl rfl (by simp) (by rfl) ?_
  simp only [argFr]
  repeat (first | refine wk ?_ | refine s_field (hr := ?_))
  refine t_loop (X := Nat × Nat) (fun x => x.1 ≤ l.length ∧ x.2 + x.1 = l.length + fszs (l.take x.1)) (fun x => [(10, I x.1), (9, I l.length), (8, .d (fragsD t l)), (3, I x.2)]) (fun _ => []) (fun x => l.length - x.1) (0, l.length) ⟨Nat.zero_le _, by simp [fszs]⟩ ?_
  rintro ⟨i, v⟩ ⟨h1, h2⟩
  dsimp only at h1 h2 ⊢
  by_cases hlt : i < l.length
  · have e1 := fszs_take hlt
    have e3 := fszs_mem (List.getElem_mem hlt)
    have e2 := fsz_eq l[i]
    have e4 : fszs l = fszs (l.take (i + 1)) + fszs (l.drop (i + 1)) := fszs_split _ _
    have e5 : (l.take i).length ≤ fszs (l.take i) := fszs_len _
    repeat (first | refine wk ?_ | refine s_field (hr := ?_))
    refine s_call [] (hA := ih (t := t) (l := l[i].l) (by omega) (by omega)) (hr := ?_)
    repeat (first | refine wk ?_ | refine s_field (hr := ?_))
    exact t_next (i + 1, v + fszs l[i].l) (a := ⟨by omega, by dsimp only; omega⟩) (b := by dsimp only; omega)
  · rw [List.take_of_length_le (by omega)] at h2
    obtain rfl : v = fszs l := by omega
    repeat (first | refine wk ?_ | refine s_field (hr := ?_))
    exact fin
/-- One rule's template in another's. -/
theorem tplug_sim {t u : Bool} {g : Gram} (hg : g.ok) {B B' C N : Nat} {o : Bool} {x y : Work} {v : Int} (hx : TOk g B C N true x) (hy : TOk g B' C N o y) (hB : B ≤ 4000) (hB' : B' ≤ 100) (hC : C ≤ 20) (hu : hdI x.right = v) (h0 : 0 ≤ v) (hm : TOk g (B + B') 40 N o (mixW x y)) :
    ACalls Try.prog 111 [.d (fragsD t x.l), I 0, .d (fragsD u y.l), I ((kids y.right).length : Nat)] [] (.d (fragsD false (mixW x y).l)) [] := by
  have hz := hx.nz rfl (by omega)
  have s1 := hx.sz
  have s2 := hy.sz
  have r2 := hy.rl
  have hk := kids_le y.right
  have hmul : fszs x.l * fszs y.l ≤ 4000 * 100 := Nat.mul_le_mul (by omega) (by omega)
  have h3 : PtL 0 (movL (-1) 0 y.l) (((kids y.right).length : Int) - 1) x.l := by rw [movL_zero]; exact ptL_small x.l hx.wf hz (by omega)
  exact plug_sim (t := t) (u := u) (l := x.l) (inn := y.l) (k := 0) (n := ((kids y.right).length : Nat)) (by omega) (by omega) h3 (hx.nb hg (by omega)) (hy.nb hg (by omega)) (hm.nb hg (by omega)) (by decide) (by decide) (by omega) (by omega)
theorem gapF_is (t : Bool) : fragsD t [gapF] = .sl t 3 [.agg [iD 3, iD 0, .sl t 3 []]] := by simp [gapF, fragsD, fragD, fragDs]
theorem gapped_sim {t : Bool} {g : Gram} (hg : g.ok) {B C N : Nat} {x : Work} (hx : TOk g B C N true x) (hB : B ≤ 4000) (hC : C ≤ 20) (h0 : 0 ≤ hdI x.right) :
    ACalls Try.prog 112 [.d (fragsD t x.l)] [] (.d (fragsD false (gappedW x).l)) [] := by
  have hgo := gapped_ok hx h0
  have hz := hx.nz rfl h0
  have s1 := hx.sz
  have h3 : PtL 0 (movL (-1) 0 [gapF]) ((0 : Int) - 1) x.l := by rw [movL_zero]; exact ptL_small x.l hx.wf hz (by have : fszs [gapF] = 1 := rfl; rw [this]; omega)
  have hp := plug_sim (t := t) (u := false) (l := x.l) (inn := [gapF]) (k := 0) (n := 0) (by omega) (by decide) h3 (hx.nb hg (by omega)) ⟨⟨by decide, trivial⟩, trivial⟩ (hgo.nb hg (by omega)) (by decide) (by decide) (by decide) (by decide)
  rw [gapF_is] at hp
  have hp2 : ACalls Try.prog 111 [.d (fragsD t x.l), I 0, .d (.sl false 3 [.agg [iD 3, iD 0, nilT]]), I 0] [] (.d (fragsD false (gappedW x).l)) [] := hp.le (args := [.d (fragsD t x.l), I 0, .d (.sl false 3 [.agg [iD 3, iD 0, nilT]]), I 0]) ⟨.refl _, .refl _, .sl (.cons (.agg (.cons (.refl _) (.cons (.refl _) (.cons (.nil _ _) .nil)))) .nil), .refl _, trivial⟩
  refine ACalls.intro (n := 7) Try.func112 rfl rfl (by simp) (by rfl) ?_
  simp only [argFr]
  repeat (first | refine wk ?_ | refine s_field (hr := ?_))
  --@
  refine s_call [] (hA := hp2) (hr := ?_)
  repeat (first | refine wk ?_ | refine s_field (hr := ?_))
  --@
  exact fin
theorem then_sim {x : Work} {v : Nat} (h1 : x.right.length ≤ 1000) (hv : v ≤ 1000) :
    ACalls Try.prog 113 [.d (workD false x), I v] [] (.own 22 2) [(22, .row 86 2 ((thenW (v : Int) x).map (workD false)))] := by
  have hk := kids_le x.right
  have e1 : x.right.map iD ++ [D.raw (.int .i64 (v : Int))] = (x.right ++ [(v : Int)]).map iD := by simp [iD]
  refine ACalls.intro (n := 23) Try.func113 rfl rfl (by simp) (by rfl) ?_
  simp only [argFr]
  repeat (first | refine wk ?_ | refine s_field (hr := ?_))
  refine s_call [(5, 905)] (hA := clone_sim) (hr := ?_)
  repeat (first | refine wk ?_ | refine s_field (hr := ?_))
  --@
  rw [e1]
  refine s_call [] (hA := tkids_sim) (hr := ?_)
  repeat (first | refine wk ?_ | refine s_field (hr := ?_))
  --@
  have e2 : (thenW (v : Int) x).map (workD false) = [D.agg [ints false x.right, fragsD false x.l], D.agg [D.sl false 1 ((x.right ++ [(v : Int)]).map iD), D.sl false 3 [D.agg [D.raw (.int .i64 4), D.raw (.int .i64 ((kids x.right).length : Int)), fragsD false x.l]]]] := by simp [thenW, workD, ints, fragsD, fragD, iD, fragDs_map]
  rw [e2]
  exact finx
end Go.Proofs.Yticnpbopelgmiaa
namespace Go.Proofs
open Go.Shelf
def Try.growRen : Go.Shelf.Ren := ⟨fun | 4 => 156 | n => n, fun | 0 => 0 | 3 => 3 | 4 => 4 | 9 => 9 | 20 => 20 | 22 => 39 | 25 => 3 | n => n, fun | n => n⟩
theorem Try.growLay : Go.Proofs.Lays8.n4 Try.prog Try.growRen := {
  mixed := by kernel_rfl
  f4 := ⟨"slices.Grow[[]int,int]", by decide, Try.func156.trans (congrArg some (by kernel_rfl))⟩
  t0 := Try.underlying0
  a0 := Try.isAgg0
  z0 := Try.sizeOf0
  v0 := Try.zeroValue0
  t3 := Try.underlying3
  a3 := Try.isAgg3
  z3 := Try.sizeOf3
  v3 := Try.zeroValue3
  t4 := Try.underlying4
  a4 := Try.isAgg4
  z4 := Try.sizeOf4
  v4 := Try.zeroValue4
  t9 := Try.underlying9
  a9 := Try.isAgg9
  z9 := Try.sizeOf9
  v9 := Try.zeroValue9
  t20 := Try.underlying20
  a20 := Try.isAgg20
  z20 := Try.sizeOf20
  v20 := Try.zeroValue20
  t22 := Try.underlying39
  a22 := Try.isAgg39
  z22 := Try.sizeOf39
  v22 := Try.zeroValue39 }
end Go.Proofs
namespace Go.Proofs.Yticnpbopelgmiaa
open Go.RowKit Go.Lib
set_option maxRecDepth 100000
-- SimX
theorem blk_one {E : Env} {k b : Nat} (hb : blkOf E [(10, .row 3 1 [])] k b) : k = 10 ∧ obOf (E.row 10) = some b := by
  unfold blkOf at hb
  simp only [hget] at hb
  cases hk : Nat.beq 10 k <;> rw [hk] at hb
  · cases hb
  · have := Nat.eq_of_beq_eq_true hk
    subst this
    exact ⟨rfl, hb⟩
theorem sgrow_sim {n : Nat} (hn : n ≤ 100000000 := by ((try simp only [List.length_map, List.length_append, List.length_cons, List.length_nil, List.length_replicate, List.length_set, List.length_take, List.length_drop]); first | omega | assumption)) : ACalls Try.prog 156 [.d (.raw (.slice none 0 0)), I n] [] (.own 10 0) [(10, .row 3 1 [])] := by
  refine ⟨⟨_, Try.func156, rfl, rfl⟩, fun E w us o H hr hk ho hs => ?_⟩
  simp only [V.Reps, V.Rep, D.RepV, D.Rep, List.cons.injEq, and_true] at hr
  obtain ⟨u, _, rfl, ⟨rfl, _⟩, _, _, rfl, ⟨rfl, _⟩, rfl⟩ := hr
  -- what was made
  have key : ∀ (v : Value) (w' : World), Ext (Live E []) w w' → (∀ b, obOf v = some b → w.heap.size ≤ b ∧ b < w'.heap.size) → (∀ M, RowAt M w' 3 1 v []) →
      ∃ E' u, Ending.returned v = .returned u ∧ HRep E' [(10, .row 3 1 [])] o w' ∧ V.Rep E' [(10, .row 3 1 [])] (bars E' [(10, .row 3 1 [])] o) w' (.own 10 0) u ∧ (∀ k ∈ (V.own 10 0).keys, (hget [(10, Ob.row 3 1 [])] k).isSome = true) ∧ Ext (Live E []) w w' ∧ Hist E [] E' [(10, .row 3 1 [])] ∧ (∀ k b, blkOf E' [(10, .row 3 1 [])] k b → Live E [] b ∨ w.heap.size ≤ b) := by
    intro v w' hE hb hrow
    refine ⟨{ E with row := fun k => if k = 10 then v else E.row k }, v, rfl, ⟨?_, ?_, ?_⟩, ?_, ?_, hE, ?_, ?_⟩
    · intro k ob hk
      simp only [hget] at hk
      split at hk
      · rename_i hb2
        have := Nat.eq_of_beq_eq_true hb2
        subst this
        cases hk
        simp only [ObRep, if_true]
        exact hrow _
      · cases hk
    · intro k k' b h1 h2
      rw [(blk_one h1).1, (blk_one h2).1]
    · intro k ob hk j hj
      simp only [hget] at hk
      split at hk
      · cases hk; simp [Ob.keys] at hj
      · cases hk
    · simp only [V.Rep]
      refine ⟨0, .inl ⟨_, _, _, rfl, rfl⟩, Nat.le_refl _, ?_, fun _ => by simp⟩
      obtain ⟨a, cap, e, _⟩ := (hrow (bars E [] o)).shape
      rw [e]; rfl
    · intro k hk
      simp only [V.keys, List.mem_singleton] at hk
      subst hk; rfl
    · intro k hk hks
      simp only [hget] at hks
      cases hb2 : Nat.beq 10 k with
      | true => have := Nat.eq_of_beq_eq_true hb2; omega
      | false => rw [hb2] at hks; cases hks
    · intro k b h1
      obtain ⟨_, h2⟩ := blk_one h1
      simp only [if_true] at h2
      exact .inr (hb b h2).1
  by_cases h0 : n = 0
  · subst h0
    refine (Go.Proofs.Any8.slices_Grow_room Try.growLay none 0 0 0 w (Nat.le_refl _) (by decide) (by decide) (Nat.le_refl _)).mono ?_
    rintro e w' ⟨rfl, rfl⟩
    exact key _ _ (Ext.refl _ _) (fun b hb => by simp [obOf] at hb) (fun M => ⟨fun x hx => (by cases hx), .inl ⟨none, rfl, rfl⟩⟩)
  · obtain ⟨i0, _, g1, _, g2, g3, _, g4, _⟩ := tyOf_spec (TY.at (t := 3) rfl)
    refine (Go.Proofs.Any8.slices_Grow_grow Try.growLay i0 (.int .i64 0) g1 g4 (by rw [g2]; decide) none 0 0 n [] w (Nat.le_refl _) (by omega) (by rw [g3]; show (0 + n) * 8 ≤ _; omega) (by omega) (by simp) (fun _ => rfl) (fun a ha => by cases ha)).mono ?_
    rintro e w' ⟨rfl, rfl⟩
    have hG := grownCap_ge w (0 + n) 0 3
    have hG2 := grownCap_le_maxLen w (0 + n) 0 3 (by unfold maxLen; omega)
    change _ ≤ grownCap w (0 + n) 0 (Try.growRen.t 25) at hG
    change grownCap w (0 + n) 0 (Try.growRen.t 25) ≤ _ at hG2
    generalize grownCap w (0 + n) 0 (Try.growRen.t 25) = G at *
    refine key _ _ ?_ ?_ ?_
    · refine ⟨rfl, rfl, rfl, ?_, fun k hk _ => ?_⟩
      · exact Nat.le_of_lt (Nat.lt_of_lt_of_eq (Nat.lt_succ_self _) (Array.size_push _).symm)
      · exact (Array.getElem?_push_lt hk).trans (Array.getElem?_eq_getElem hk).symm
    · intro b hb
      simp only [obOf] at hb
      rw [if_neg (by omega)] at hb
      cases hb
      exact ⟨Nat.le_refl _, Nat.lt_of_lt_of_eq (Nat.lt_succ_self _) (Array.size_push _).symm⟩
    · intro M
      refine ⟨fun x hx => (by cases hx), .inr ⟨w.heap.size, 0, G, _, rfl, by omega, Array.getElem?_push_size, Nat.zero_le _, hG2, ?_, by simp [D.Reps]⟩⟩
      have z1 : ∀ k : Nat, (Builtin.zeroCells (Value.int .i64 0).cells k).size = k := fun k => by simp [Builtin.zeroCells, Value.cells]
      simp only [Array.size_append, z1]
      show 0 + (0 + n - 0) + (G - (0 + n)) = 0 + G * 1
      omega
theorem concat_sim {t u1 u2 : Bool} {a b : List Int} (ha : a.length ≤ 100000) (hb : b.length ≤ 100000) : ACalls Try.prog 110 [.d (.sl t 1 [ints u1 a, ints u2 b])] [] (.own 910 (a ++ b).length) [(910, .row 3 1 ((a ++ b).map iD))] := by
  refine ACalls.intro (n := 36) Try.func110 rfl rfl (by simp) (by rfl) ?_
  simp only [argFr]
  repeat (first | refine wk ?_ | refine s_field (hr := ?_))
  refine t_loop (X := Nat) (fun i => i ≤ 2) (fun i => [(11, I i), (10, I ((2 : Nat) : Int)), (9, .d (.sl t 1 [ints u1 a, ints u2 b])), (3, I ((if i = 0 then 0 else if i = 1 then a.length else a.length + b.length : Nat) : Int)), (0, .d (.sl t 1 [ints u1 a, ints u2 b]))]) (fun _ => []) (fun i => 2 - i) 0 (by decide) ?_
  intro i hi
  obtain rfl | rfl | rfl : i = 0 ∨ i = 1 ∨ i = 2 := by omega
  · simp only [if_true]
    repeat (first | refine wk ?_ | refine s_field (hr := ?_))
    exact t_next 1
  · simp only [if_neg (show ¬ (1 : Nat) = 0 by decide), if_true]
    repeat (first | refine wk ?_ | refine s_field (hr := ?_))
    exact t_next 2 (b := by decide)
  · simp only [if_neg (show ¬ (2 : Nat) = 0 by decide), if_neg (show ¬ (2 : Nat) = 1 by decide)]
    repeat (first | refine wk ?_ | refine s_field (hr := ?_))
    refine s_call [(10, 910)] (hA := sgrow_sim) (hr := ?_)
    repeat (first | refine wk ?_ | refine s_field (hr := ?_))
    --@
    refine t_loop (X := Nat) (fun i => i ≤ 2) (fun i => [(27, I i), (26, I ((2 : Nat) : Int)), (25, .d (.sl t 1 [ints u1 a, ints u2 b])), (6, .own 910 (if i = 0 then [] else if i = 1 then a else a ++ b).length)]) (fun i => [(910, .row 3 1 ((if i = 0 then [] else if i = 1 then a else a ++ b).map iD))]) (fun i => 2 - i) 0 (by decide) ?_
    intro i hi
    obtain rfl | rfl | rfl : i = 0 ∨ i = 1 ∨ i = 2 := by omega
    · simp only [if_true, List.map_nil, List.length_nil]
      repeat (first | refine wk ?_ | refine s_field (hr := ?_))
      --@
      exact t_next 1
    · simp only [if_neg (show ¬ (1 : Nat) = 0 by decide), if_true]
      have e1 : a.map iD ++ b.map iD = (a ++ b).map iD := by rw [List.map_append]
      repeat (first | refine wk ?_ | refine s_field (hr := ?_))
      --@
      rw [e1]
      exact t_next 2 (b := by decide)
    · simp only [if_neg (show ¬ (2 : Nat) = 0 by decide), if_neg (show ¬ (2 : Nat) = 1 by decide)]
      repeat (first | refine wk ?_ | refine s_field (hr := ?_))
      --@
      exact finx
end Go.Proofs.Yticnpbopelgmiaa
