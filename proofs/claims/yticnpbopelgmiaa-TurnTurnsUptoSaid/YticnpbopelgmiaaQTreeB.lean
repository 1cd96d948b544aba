/-
  Sim: trees: Check, Own, words. Sim: steps that are the same; Node; StepFault. Sim: StepFault. Sim: factor's kids, group, common, head, tail. Sim: turn's kids, parts, gapped, then.
-/
import Derived.Test.YticnpbopelgmiaaQTreeA
import Derived.Test.YticnpbopelgmiaaT1
import Derived.Test.YticnpbopelgmiaaS4
import Derived.Test.YticnpbopelgmiaaS5
import Derived.Test.YticnpbopelgmiaaQFactorR
import Derived.Test.YticnpbopelgmiaaTurnR
import Derived.Test.YticnpbopelgmiaaPlugA
set_option linter.unusedVariables false
set_option linter.unusedSimpArgs false
set_option linter.unusedSectionVars false
namespace Go.Proofs.Yticnpbopelgmiaa
open Go.RowKit
set_option maxRecDepth 100000

/-! ### Words -/
end Go.Proofs.Yticnpbopelgmiaa
namespace Go.Proofs.Yticnpbopelgmiaa
open Go.RowKit
set_option maxRecDepth 100000

theorem node_sim {r : Int} {k : Nat} (hk : k ≤ 100000000 := by ((try simp only [List.length_map, List.length_append, List.length_cons, List.length_nil, List.length_replicate, List.length_set, List.length_take, List.length_drop]); first | omega | assumption)) : ACalls Try.prog 58 [I r, I k] [] (.own 20 1) [(20, .row 67 3 ((nodeF r k).map (fragD false)))] := by
  refine ACalls.intro (n := 21) Try.func58 rfl rfl (by simp) (by rfl) ?_
  simp only [argFr]
  repeat (first | refine wk ?_)
  refine aw_nil 5 900 67 3 rfl rfl rfl ?_
  refine t_loop (X := Nat) (fun x => x ≤ k) (fun x => [(8, I x), (7, I k), (0, I r), (5, .own 900 (holes x).length)]) (fun x => [(900, .row 67 3 ((holes x).map (fragD false)))]) (fun x => k - x) 0 (Nat.zero_le _) ?_
  intro i h1
  have hh : (holes i).length = i := by simp [holes]
  by_cases hlt : i < k
  · have e := holes_dsnoc false i
    have e' : (holes (i + 1)).length = (holes i).length + 1 := by rw [holes_snoc]; simp
    repeat (first | refine wk ?_)
    exact t_next (i + 1)
  · obtain rfl : i = k := by omega
    rw [nodeF_map]
    repeat (first | refine wk ?_)
    exact fin
abbrev stepBox (t : Bool) (s : Step) : Ob := .box 31 [.d (iD s.g.vars), .d (iD s.g.terms), .d (iD s.g.start), .d (rulesD t s.g.rules), .d (.sl t 1 (s.frags.map (fragsD t))), .d (treesD t s.empty)]
end Go.Proofs.Yticnpbopelgmiaa
namespace Go.Proofs.Yticnpbopelgmiaa
open Go.RowKit
set_option maxRecDepth 100000

end Go.Proofs.Yticnpbopelgmiaa
namespace Go.Proofs.Yticnpbopelgmiaa
open Go.RowKit
set_option maxRecDepth 100000
-- SimX

def workD (t : Bool) (w : Work) : D := .agg [ints t w.right, fragsD t w.l]
abbrev worksD (t : Bool) (l : List Work) : D := .sl t 2 (l.map (workD t))
end Go.Proofs.Yticnpbopelgmiaa
namespace Go.Proofs.Yticnpbopelgmiaa
open Go.RowKit
set_option maxRecDepth 100000
-- SimX

abbrev tworkBox (t : Bool) (w : Work) : Ob := .box 86 [.d (ints t w.right), .d (fragsD t w.l)]
theorem tkids_sim {t : Bool} {xs : List Int} (hl : xs.length ≤ 100000000 := by ((try simp only [List.length_map, List.length_append, List.length_cons, List.length_nil, List.length_replicate, List.length_set, List.length_take, List.length_drop]); first | omega | assumption)) :
    ACalls Try.prog 59 [.d (ints t xs)] [] (I (kids xs).length) [] := by
  refine ACalls.intro (n := 7) Try.func59 rfl rfl (by simp) (by rfl) ?_
  simp only [argFr]
  repeat (first | refine wk ?_ | refine s_field (hr := ?_))
  refine s_call [] (hA := kids_sim) (hr := ?_)
  repeat (first | refine wk ?_ | refine s_field (hr := ?_))
  exact fin
theorem tparts_gen : ∀ (N : Nat) {t : Bool} {l : List Frag}, fszs l < N → fszs l ≤ 100000000 → ACalls Try.prog 114 [.d (fragsD t l)] [] (I (fszs l)) [] := by
  intro N
  induction N with
  | zero => intro t l h; omega
  | succ N ih =>
  intro t l hN hle
  have hl := Nat.le_trans (fszs_len l) hle
  refine ACalls.intro (n := 21) Try.func114 rfl rfl (by simp) (by rfl) ?_
  simp only [argFr]
  repeat (first | refine wk ?_ | refine s_field (hr := ?_))
  refine t_loop (X := Nat × Nat) (fun x => x.1 ≤ l.length ∧ x.2 + x.1 = l.length + fszs (l.take x.1)) (fun x => [(10, I x.1), (9, I l.length), (8, .d (fragsD t l)), (3, I x.2)]) (fun _ => []) (fun x => l.length - x.1) (0, l.length) ⟨Nat.zero_le _, by simp [fszs]⟩ ?_
  rintro ⟨i, v⟩ ⟨h1, h2⟩
  dsimp only at h1 h2 ⊢
  by_cases hlt : i < l.length
  · have e1 := fszs_take hlt
    have e3 := fszs_mem (List.getElem_mem hlt)
    have e2 := fsz_eq l[i]
    have e4 : fszs l = fszs (l.take (i + 1)) + fszs (l.drop (i + 1)) := fszs_split _ _
    have e5 : (l.take i).length ≤ fszs (l.take i) := fszs_len _
    repeat (first | refine wk ?_ | refine s_field (hr := ?_))
    refine s_call [] (hA := ih (t := t) (l := l[i].l) (by omega) (by omega)) (hr := ?_)
    repeat (first | refine wk ?_ | refine s_field (hr := ?_))
    exact t_next (i + 1, v + fszs l[i].l) (a := ⟨by omega, by dsimp only; omega⟩) (b := by dsimp only; omega)
  · rw [List.take_of_length_le (by omega)] at h2
    obtain rfl : v = fszs l := by omega
    repeat (first | refine wk ?_ | refine s_field (hr := ?_))
    exact fin
/-- One rule's template in another's. -/
theorem tplug_sim {t u : Bool} {g : Gram} (hg : g.ok) {B B' C N : Nat} {o : Bool} {x y : Work} {v : Int} (hx : TOk g B C N true x) (hy : TOk g B' C N o y) (hB : B ≤ 4000) (hB' : B' ≤ 100) (hC : C ≤ 20) (hu : hdI x.right = v) (h0 : 0 ≤ v) (hm : TOk g (B + B') 40 N o (mixW x y)) :
    ACalls Try.prog 111 [.d (fragsD t x.l), I 0, .d (fragsD u y.l), I ((kids y.right).length : Nat)] [] (.d (fragsD false (mixW x y).l)) [] := by
  have hz := hx.nz rfl (by omega)
  have s1 := hx.sz
  have s2 := hy.sz
  have r2 := hy.rl
  have hk := kids_le y.right
  have hmul : fszs x.l * fszs y.l ≤ 4000 * 100 := Nat.mul_le_mul (by omega) (by omega)
  have h3 : PtL 0 (movL (-1) 0 y.l) (((kids y.right).length : Int) - 1) x.l := by rw [movL_zero]; exact ptL_small x.l hx.wf hz (by omega)
  exact plug_sim (t := t) (u := u) (l := x.l) (inn := y.l) (k := 0) (n := ((kids y.right).length : Nat)) (by omega) (by omega) h3 (hx.nb hg (by omega)) (hy.nb hg (by omega)) (hm.nb hg (by omega)) (by decide) (by decide) (by omega) (by omega)
theorem gapF_is (t : Bool) : fragsD t [gapF] = .sl t 3 [.agg [iD 3, iD 0, .sl t 3 []]] := by simp [gapF, fragsD, fragD, fragDs]
theorem gapped_sim {t : Bool} {g : Gram} (hg : g.ok) {B C N : Nat} {x : Work} (hx : TOk g B C N true x) (hB : B ≤ 4000) (hC : C ≤ 20) (h0 : 0 ≤ hdI x.right) :
    ACalls Try.prog 112 [.d (fragsD t x.l)] [] (.d (fragsD false (gappedW x).l)) [] := by
  have hgo := gapped_ok hx h0
  have hz := hx.nz rfl h0
  have s1 := hx.sz
  have h3 : PtL 0 (movL (-1) 0 [gapF]) ((0 : Int) - 1) x.l := by rw [movL_zero]; exact ptL_small x.l hx.wf hz (by have : fszs [gapF] = 1 := rfl; rw [this]; omega)
  have hp := plug_sim (t := t) (u := false) (l := x.l) (inn := [gapF]) (k := 0) (n := 0) (by omega) (by decide) h3 (hx.nb hg (by omega)) ⟨⟨by decide, trivial⟩, trivial⟩ (hgo.nb hg (by omega)) (by decide) (by decide) (by decide) (by decide)
  rw [gapF_is] at hp
  have hp2 : ACalls Try.prog 111 [.d (fragsD t x.l), I 0, .d (.sl false 3 [.agg [iD 3, iD 0, nilT]]), I 0] [] (.d (fragsD false (gappedW x).l)) [] := hp.le (args := [.d (fragsD t x.l), I 0, .d (.sl false 3 [.agg [iD 3, iD 0, nilT]]), I 0]) ⟨.refl _, .refl _, .sl (.cons (.agg (.cons (.refl _) (.cons (.refl _) (.cons (.nil _ _) .nil)))) .nil), .refl _, trivial⟩
  refine ACalls.intro (n := 7) Try.func112 rfl rfl (by simp) (by rfl) ?_
  simp only [argFr]
  repeat (first | refine wk ?_ | refine s_field (hr := ?_))
  --@
  refine s_call [] (hA := hp2) (hr := ?_)
  repeat (first | refine wk ?_ | refine s_field (hr := ?_))
  --@
  exact fin
theorem then_sim {x : Work} {v : Nat} (h1 : x.right.length ≤ 1000) (hv : v ≤ 1000) :
    ACalls Try.prog 113 [.d (workD false x), I v] [] (.own 22 2) [(22, .row 86 2 ((thenW (v : Int) x).map (workD false)))] := by
  have hk := kids_le x.right
  have e1 : x.right.map iD ++ [D.raw (.int .i64 (v : Int))] = (x.right ++ [(v : Int)]).map iD := by simp [iD]
  refine ACalls.intro (n := 23) Try.func113 rfl rfl (by simp) (by rfl) ?_
  simp only [argFr]
  repeat (first | refine wk ?_ | refine s_field (hr := ?_))
  refine s_call [(5, 905)] (hA := clone_sim) (hr := ?_)
  repeat (first | refine wk ?_ | refine s_field (hr := ?_))
  --@
  rw [e1]
  refine s_call [] (hA := tkids_sim) (hr := ?_)
  repeat (first | refine wk ?_ | refine s_field (hr := ?_))
  --@
  have e2 : (thenW (v : Int) x).map (workD false) = [D.agg [ints false x.right, fragsD false x.l], D.agg [D.sl false 1 ((x.right ++ [(v : Int)]).map iD), D.sl false 3 [D.agg [D.raw (.int .i64 4), D.raw (.int .i64 ((kids x.right).length : Int)), fragsD false x.l]]]] := by simp [thenW, workD, ints, fragsD, fragD, iD, fragDs_map]
  rw [e2]
  exact finx
end Go.Proofs.Yticnpbopelgmiaa
