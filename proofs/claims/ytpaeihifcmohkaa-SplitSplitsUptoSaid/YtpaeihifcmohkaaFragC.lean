/-
  Sim: steps that are the same; Node; StepFault.
-/
import Derived.Test.YtpaeihifcmohkaaFragB
import Derived.Test.YtpaeihifcmohkaaTreeB
set_option linter.unusedVariables false
set_option linter.unusedSimpArgs false
namespace Go.Proofs.Ytpaeihifcmohkaa
open Go.RowKit
set_option maxRecDepth 100000

theorem node_sim {r : Int} {k : Nat} (hk : k ≤ 100000000 := by ((try simp only [List.length_map, List.length_append, List.length_cons, List.length_nil, List.length_replicate, List.length_set, List.length_take, List.length_drop]); first | omega | assumption)) : ACalls Try.prog 87 [I r, I k] [] (.own 20 1) [(20, .row 101 3 ((nodeF r k).map (fragD false)))] := by
  refine ACalls.intro (n := 21) Try.func87 rfl rfl (by simp) (by rfl) ?_
  simp only [argFr]
  repeat (first | refine wk ?_)
  refine aw_nil 5 900 101 3 rfl rfl rfl ?_
  refine t_loop (X := Nat) (fun x => x ≤ k) (fun x => [(8, I x), (7, I k), (0, I r), (5, .own 900 (holes x).length)]) (fun x => [(900, .row 101 3 ((holes x).map (fragD false)))]) (fun x => k - x) 0 (Nat.zero_le _) ?_
  intro i h1
  have hh : (holes i).length = i := by simp [holes]
  by_cases hlt : i < k
  · have e := holes_dsnoc false i
    have e' : (holes (i + 1)).length = (holes i).length + 1 := by rw [holes_snoc]; simp
    repeat (first | refine wk ?_)
    exact t_next (i + 1)
  · obtain rfl : i = k := by omega
    rw [nodeF_map]
    repeat (first | refine wk ?_)
    exact fin
abbrev stepBox (t : Bool) (s : Step) : Ob := .box 50 [.d (iD s.g.vars), .d (iD s.g.terms), .d (iD s.g.start), .d (rulesD t s.g.rules), .d (.sl t 1 (s.frags.map (fragsD t))), .d (treesD t s.empty)]
theorem sameStep_sim {t u : Bool} {s : Step} (hs : s.fit) : ACalls Try.prog 39 [.d (stepD t s), .d (stepD u s)] [] (B true) [] := by
  refine ACalls.intro (n := 48) Try.func39 rfl rfl (by simp) (by rfl) ?_
  simp only [argFr]
  have hf := hs.frags
  have s1 := sameGram_sim (t := t) (u := u) hs.g hs.g
  rw [decide_eq_true rfl] at s1
  repeat (first | refine wk ?_)
  refine s_call [] (hA := s1) (hr := ?_)
  repeat (first | refine wk ?_)
  refine s_call [] (hA := sameTrees_sim hs.tree) (hr := ?_)
  repeat (first | refine wk ?_)
  refine t_loop (X := Nat) (fun x => x ≤ s.frags.length) (fun x => [(5, I x), (2, .ptr 2 0), (3, .ptr 3 0)]) (fun _ => [(2, stepBox t s), (3, stepBox u s)]) (fun x => s.frags.length - x) 0 (Nat.zero_le _) ?_
  intro i h1
  by_cases hlt : i < s.frags.length
  · have hfi := hs.frag _ (List.getElem_mem hlt)
    repeat (first | refine wk ?_)
    refine s_call [] (hA := sameFrag_sim) (hr := ?_)
    repeat (first | refine wk ?_)
    exact t_next (i + 1)
  · repeat (first | refine wk ?_)
    exact fin
end Go.Proofs.Ytpaeihifcmohkaa
