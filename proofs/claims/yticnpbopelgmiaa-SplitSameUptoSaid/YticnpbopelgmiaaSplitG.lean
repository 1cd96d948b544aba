/-
  Sim: splitBegun, SplitMakes, SplitSplits return true.
-/
import Derived.Test.YticnpbopelgmiaaSplitF
import Derived.Test.YticnpbopelgmiaaS5
set_option linter.unusedVariables false
set_option linter.unusedSimpArgs false
set_option linter.unusedSectionVars false
namespace Go.Proofs.Yticnpbopelgmiaa
open Go.RowKit
set_option maxRecDepth 100000

/-! ### Templates that are made are small -/
theorem fszs_holes : ∀ (k : Nat), fszs (holes k) = k
  | 0 => rfl
  | k + 1 => by rw [show holes (k + 1) = holes k ++ [.mk 2 k []] by simp [holes, List.range_succ], fszs_append, fszs_holes k]; simp [fszs, fsz]
theorem fszs_node (r : Int) (k : Nat) : fszs (nodeF r k) = k + 1 := by simp [nodeF, fszs, fsz, fszs_holes]; omega
def SP.slim (s : SP) : Prop := ∀ l ∈ s.frags, fszs l ≤ 100
theorem SP.slim.lifts : ∀ {l : List Int} {s : SP}, s.slim → (s.lifts l).slim
  | [], _, h => h
  | x :: l, s, h => by
    refine SP.slim.lifts (l := l) (s := s.lift x) ?_
    unfold SP.lift
    split
    · exact h
    · split
      · intro y hy
        rcases List.mem_append.1 hy with hy | hy
        · exact h y hy
        · rw [List.mem_singleton.1 hy]; simp [fszs]
      · exact h
theorem pairF_slim (r : Int) : ∀ (k : Nat), ∀ l ∈ pairF r k, fszs l ≤ 100
  | 0, l, h => by simp [pairF] at h
  | k + 1, l, h => by
    rcases List.mem_append.1 h with h | h
    · exact pairF_slim r k l h
    · rw [List.mem_singleton.1 h]; split <;> simp [holes2, fszs, fsz]
theorem SP.slim.one {s : SP} (h : s.slim) {r : Nat} {x : Rule} (hx : x.right.length ≤ 10) : (s.one r x).slim := by
  have hk := kids_le x.right
  unfold SP.one
  split
  · intro y hy
    rcases List.mem_append.1 hy with hy | hy
    · exact h y hy
    · rw [List.mem_singleton.1 hy, fszs_node]; omega
  · intro y hy
    rcases List.mem_append.1 hy with hy | hy
    · exact (SP.slim.lifts h) y hy
    · exact pairF_slim _ _ y hy
theorem splitGo_slim : ∀ {rs : List Rule} {s s' : SP} {i : Nat}, s.slim → (∀ r ∈ rs, r.right.length ≤ 10) → splitGo s rs i = .ok s' → s'.slim
  | [], s, s', i, h, _, e => by rw [splitGo] at e; cases e; exact h
  | x :: rs, s, s', i, h, hr, e => by
    rw [splitGo] at e
    cases hc : (s.one i x).many with
    | true => rw [hc] at e; cases e
    | false => rw [hc] at e; exact splitGo_slim (h.one (hr x (by simp))) (fun r h => hr r (by simp [h])) e
theorem zeroStep_fit : zeroStep.fit := ⟨⟨by decide, fun r hr => by simp [zeroStep] at hr⟩, by decide, fun l hl => by simp [zeroStep] at hl, by decide⟩
theorem splitS_fit (g : Gram) : (splitS g).1.fit := by
  rcases splitS_cases g with ⟨_, h⟩ | ⟨i, h⟩ | ⟨s, hg, h1, h⟩
  · rw [h]; exact zeroStep_fit
  · rw [h]; exact zeroStep_fit
  · rw [h]
    obtain ⟨k1, k2, k3⟩ := splitOut_ok hg h1
    have hs : s.slim := splitGo_slim (s := splitStart g) (fun l hl => by simp [splitStart] at hl) hg.right h1
    obtain ⟨f1, f2⟩ := splitStart_fit hg
    obtain ⟨f3, f4⟩ := splitGo_ok hg f1 f2 (fun r hr => hg.rule hr) (by omega) h1
    have hp := f3.parts.len
    have hm := many_no f4
    exact ⟨k1.fit, (by show s.frags.length ≤ _; omega), fun l hl => Nat.le_trans (hs l hl) (by decide), by simp [splitOut, cnts]⟩
/-! ### The laws -/
def sbG : Gram := ⟨1, 1, 0, [⟨0, [-1, 0, 0]⟩]⟩
theorem sbG_fit : sbG.fit := ⟨by decide, by intro r hr; simp [sbG] at hr; subst hr; decide⟩
theorem sb_make : ACalls Try.prog 31 [.d (.agg [iD 1, iD 1, iD 0, .sl false 2 [.agg [iD 0, ints false [-1, 0, 0]]]])] [] (.tup [.d (stepD false (splitS sbG).1), .d (faultD (splitS sbG).2)]) [] :=
  splitMake_sim (t := false) sbG_fit
theorem sb_eq : splitS sbG = (⟨⟨3, 1, 0, [⟨1, [-1]⟩, ⟨0, [1, 2]⟩, ⟨2, [0, 0]⟩]⟩, [[], [.mk 1 0 holes2], holes2], []⟩, ⟨0, 0⟩) := by kernel_rfl
theorem splitBegun_sim : ACalls Try.prog 30 [] [] (B true) [] := by
  refine ACalls.intro (n := 37) Try.func30 rfl rfl (by simp) (by rfl) ?_
  simp only [argFr]
  have h := sb_make
  rw [sb_eq] at h
  have hs := sameInts_sim (t := false) (u := false) (xs := [1, 2]) (ys := [1, 2]) (by decide) (by decide)
  rw [decide_eq_true rfl] at hs
  repeat (first | refine wk ?_ | refine s_field (hr := ?_))
  refine s_callf [] (hA := h) (hr := ?_)
  repeat (first | refine wk ?_ | refine s_field (hr := ?_))
  refine s_callf [] (hA := hs) (hr := ?_)
  repeat (first | refine wk ?_ | refine s_field (hr := ?_))
  exact fin
end Go.Proofs.Yticnpbopelgmiaa
