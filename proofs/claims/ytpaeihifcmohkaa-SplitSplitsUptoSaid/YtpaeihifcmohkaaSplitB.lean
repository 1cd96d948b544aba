/-
  Sim: the splitter: lift, split.
-/
import Derived.Test.YtpaeihifcmohkaaSplitA
import Derived.Test.YtpaeihifcmohkaaSimWk
set_option linter.unusedVariables false
set_option linter.unusedSimpArgs false
namespace Go.Proofs.Ytpaeihifcmohkaa
open Go.RowKit
set_option maxRecDepth 100000

theorem rule_simN {g : Gram} {s : SP} {tm : List D} {v : Int} {right : List Int} (h1 : s.rules.length ≤ 100000 := by ((try simp only [List.length_map, List.length_append, List.length_cons, List.length_nil, List.length_replicate, List.length_set, List.length_take, List.length_drop]); first | omega | assumption)) (h2 : s.frags.length ≤ 100000 := by ((try simp only [List.length_map, List.length_append, List.length_cons, List.length_nil, List.length_replicate, List.length_set, List.length_take, List.length_drop]); first | omega | assumption)) :
    ACalls Try.prog 86 [.ptr 1000 0, I v, .d (ints false right), .d nilT] (spH g s tm) (.tup []) (spH g (s.rule v right []) tm) :=
  (rule_sim (l := []) h1 h2).le ⟨.refl _, .refl _, .refl _, .nil _ _, trivial⟩
theorem SP.lift_new {s : SP} {x : Int} {k : Nat} (hk : -1 - x = (k : Int)) (hl : k < s.term.length) (h1 : s.term[k] < 0) :
    s.lift x = SP.rule ⟨s.vars + 1, s.rules, s.frags, s.term.set k s.vars⟩ s.vars [x] [] ∧ s.lifted x = s.vars := by
  have e : (-1 - x).toNat = k := by omega
  have e2 : s.lift x = SP.rule ⟨s.vars + 1, s.rules, s.frags, s.term.set k s.vars⟩ s.vars [x] [] := by
    rw [SP.lift, if_neg (by omega), e, List.getD_eq_getElem?_getD, List.getElem?_eq_getElem hl, Option.getD_some, if_pos h1]; rfl
  refine ⟨e2, ?_⟩
  rw [SP.lifted, if_neg (by omega), e2, e]
  simp [SP.rule, List.getD_eq_getElem?_getD, hl]
theorem SP.lift_old {s : SP} {x : Int} {k : Nat} (hk : -1 - x = (k : Int)) (hl : k < s.term.length) (h1 : ¬ s.term[k] < 0) :
    s.lift x = s ∧ s.lifted x = s.term[k] := by
  have e : (-1 - x).toNat = k := by omega
  have e2 : s.lift x = s := by
    rw [SP.lift, if_neg (by omega), e, List.getD_eq_getElem?_getD, List.getElem?_eq_getElem hl, Option.getD_some, if_neg h1]
  refine ⟨e2, ?_⟩
  rw [SP.lifted, if_neg (by omega), e2, e, List.getD_eq_getElem?_getD, List.getElem?_eq_getElem hl]; rfl
set_option maxHeartbeats 2000000 in
theorem lift_sim {g : Gram} {s : SP} {x : Int} (hx : -g.terms ≤ x := by ((try simp only [List.length_map, List.length_append, List.length_cons, List.length_nil, List.length_replicate, List.length_set, List.length_take, List.length_drop]); first | omega | assumption)) (ht : (s.term.length : Int) = g.terms := by ((try simp only [List.length_map, List.length_append, List.length_cons, List.length_nil, List.length_replicate, List.length_set, List.length_take, List.length_drop]); first | omega | assumption)) (ht4 : g.terms ≤ 90000 := by ((try simp only [List.length_map, List.length_append, List.length_cons, List.length_nil, List.length_replicate, List.length_set, List.length_take, List.length_drop]); first | omega | assumption)) (h0 : 0 ≤ s.vars := by ((try simp only [List.length_map, List.length_append, List.length_cons, List.length_nil, List.length_replicate, List.length_set, List.length_take, List.length_drop]); first | omega | assumption)) (h1 : s.vars ≤ 90000 := by ((try simp only [List.length_map, List.length_append, List.length_cons, List.length_nil, List.length_replicate, List.length_set, List.length_take, List.length_drop]); first | omega | assumption)) (h2 : s.rules.length ≤ 90000 := by ((try simp only [List.length_map, List.length_append, List.length_cons, List.length_nil, List.length_replicate, List.length_set, List.length_take, List.length_drop]); first | omega | assumption)) (h3 : s.frags.length ≤ 90000 := by ((try simp only [List.length_map, List.length_append, List.length_cons, List.length_nil, List.length_replicate, List.length_set, List.length_take, List.length_drop]); first | omega | assumption)) :
    ACalls Try.prog 125 [.ptr 1000 0, I x] (spH g s (s.term.map iD)) (I (s.lifted x)) (spH g (s.lift x) ((s.lift x).term.map iD)) := by
  refine ACalls.intro (n := 46) Try.func125 rfl rfl (by simp) (by rfl) ?_
  simp only [argFr]
  by_cases hp : 0 ≤ x
  · rw [show s.lift x = s by rw [SP.lift, if_pos hp], show s.lifted x = x by rw [SP.lifted, if_pos hp]]
    repeat (first | refine wk ?_)
    exact fin
  obtain ⟨k, hk⟩ : ∃ k : Nat, -1 - x = (k : Int) := ⟨(-1 - x).toNat, by omega⟩
  have hl : k < s.term.length := by omega
  have hlt : k < g.terms.toNat := by omega
  have hlm : (s.term.map iD).length = g.terms.toNat := by simp; omega
  by_cases hn : s.term[k] < 0
  · obtain ⟨e1, e2⟩ := SP.lift_new hk hl hn
    have e3 : (s.term.map iD).set k (D.raw (.int .i64 s.vars)) = (s.term.set k s.vars).map iD := by rw [List.map_set]; rfl
    have hlm2 : ((s.term.set k s.vars).map iD).length = g.terms.toNat := by simp; omega
    have hl2 : k < (s.term.set k s.vars).length := by simpa using hl
    have e4 : (s.term.set k s.vars)[k] = s.vars := by simp
    have f1 : s.fresh.rules.length ≤ 100000 := by show s.rules.length ≤ _; omega
    have f2 : s.fresh.frags.length ≤ 100000 := by show s.frags.length ≤ _; omega
    rw [e1, e2]
    repeat (first | refine d_fieldAddr TY (d := 19) (by exact rfl) gOk_none (by exact rfl) (by exact rfl) (by exact rfl) (by exact rfl) (by exact rfl) ?_ | refine d_loadW TY (d := 20) (by exact rfl) gOk_none (by exact rfl) (by exact rfl) (by exact rfl) (by exact rfl) (by exact rfl) (by exact rfl) ?_ | refine wk1 ?_)
    refine s_call [] (hA := fresh_sim) (hr := ?_)
    repeat (first | refine wk ?_)
    refine keepsCell (u := [(1003, _), (1000, _), (1001, _), (1002, _), (1003, _)]) ?_ rfl ?_
    rotate_left
    · intro q hq e
      simp only [List.mem_cons, List.not_mem_nil, or_false] at hq
      rcases hq with rfl | rfl | rfl | rfl | rfl
      · simp at e
      · exact ⟨_, _, rfl, rfl⟩
      · simp at e
      · simp at e
      · simp at e
    rw [e3]
    repeat (first | refine wk ?_)
    rw [e4]
    refine s_call [] (hA := rule_simN (s := s.fresh) (v := s.vars) (right := [x])) (hr := ?_)
    repeat (first | refine wk ?_)
    rw [e4, show spH g (SP.rule ⟨s.vars + 1, s.rules, s.frags, s.term.set k s.vars⟩ s.vars [x] []) ((SP.rule ⟨s.vars + 1, s.rules, s.frags, s.term.set k s.vars⟩ s.vars [x] []).term.map iD) = spH g (s.fresh.rule s.vars [x] []) ((s.term.set k s.vars).map iD) from rfl]
    exact fin
  · obtain ⟨e1, e2⟩ := SP.lift_old hk hl hn
    rw [e1, e2]
    repeat (first | refine wk ?_)
    exact fin
end Go.Proofs.Ytpaeihifcmohkaa
