/-
  Sim: the splitter.
-/
import Derived.Test.YtpaeihifcmohkaaFragC
import Derived.Test.YtpaeihifcmohkaaSplitP
import Derived.Test.YtpaeihifcmohkaaSimX
set_option linter.unusedVariables false
set_option linter.unusedSimpArgs false
namespace Go.Proofs.Ytpaeihifcmohkaa
open Go.RowKit
set_option maxRecDepth 100000

/-- The splitter: itself, its rules, its templates, its terminals. -/
abbrev spHr (g : Gram) (v : Int) (R F : List D) (n1 n2 : Nat) (many : Bool) (tm : List D) : Hp := [(1000, .box 95 [.d (iD v), .d (iD g.terms), .d (iD g.start), .own 1001 n1, .own 1002 n2, .d nilT, .own 1003 g.terms.toNat, .d (bD many)]), (1001, .row 44 2 R), (1002, .row 97 1 F), (1003, .row 3 1 tm)]
abbrev spH (g : Gram) (s : SP) (tm : List D) : Hp := spHr g s.vars (s.rules.map (ruleD false)) (s.frags.map (fragsD false)) s.rules.length s.frags.length s.many tm
theorem fresh_many (s : SP) : s.fresh.many = (s.many || decide (s.vars = 64)) := by
  have h : s.fresh.vars = s.vars + 1 := rfl
  have h2 : s.fresh.rules = s.rules := rfl
  rw [Bool.eq_iff_iff]; simp only [SP.many, h, h2, Bool.or_eq_true, decide_eq_true_eq]
  constructor <;> (intro h3; omega)
theorem rule_many (s : SP) (v : Int) (right : List Int) (l : List Frag) : (s.rule v right l).many = (s.many || decide ((s.rules.length : Int) = 160)) := by
  have h : (s.rule v right l).vars = s.vars := rfl
  have h2 : (s.rule v right l).rules.length = s.rules.length + 1 := by simp [SP.rule]
  rw [Bool.eq_iff_iff]; simp only [SP.many, h, h2, Bool.or_eq_true, decide_eq_true_eq]
  constructor <;> (intro h3; omega)
theorem splitHole_sim {k : Int} : ACalls Try.prog 127 [I k] [] (.d (.agg [iD 2, iD k, nilT])) [] := by
  refine ACalls.intro (n := 5) Try.func127 rfl rfl (by simp) (by rfl) ?_
  simp only [argFr]
  repeat (first | refine wk ?_ | refine s_field (hr := ?_))
  exact fin
theorem fresh_sim {g : Gram} {s : SP} {tm : List D} (h0 : 0 ≤ s.vars := by ((try simp only [List.length_map, List.length_append, List.length_cons, List.length_nil, List.length_replicate, List.length_set, List.length_take, List.length_drop]); first | omega | assumption)) (h1 : s.vars ≤ 100000 := by ((try simp only [List.length_map, List.length_append, List.length_cons, List.length_nil, List.length_replicate, List.length_set, List.length_take, List.length_drop]); first | omega | assumption)) :
    ACalls Try.prog 126 [.ptr 1000 0] (spH g s tm) (I s.vars) (spH g s.fresh tm) := by
  refine ACalls.intro (n := 37) Try.func126 rfl rfl (by simp) (by rfl) ?_
  simp only [argFr]
  have e0 : s.vars + 1 - 1 = s.vars := by omega
  cases hm : s.many with
  | true =>
    rw [show spH g s.fresh tm = spHr g (s.vars + 1) (s.rules.map (ruleD false)) (s.frags.map (fragsD false)) s.rules.length s.frags.length true tm by simp only [spH, fresh_many, hm]; rfl]
    repeat (first | refine wk ?_ | refine s_field (hr := ?_))
    exact fin
  | false =>
    rw [show spH g s.fresh tm = spHr g (s.vars + 1) (s.rules.map (ruleD false)) (s.frags.map (fragsD false)) s.rules.length s.frags.length (decide (s.vars = 64)) tm by simp only [spH, fresh_many, hm]; rfl]
    repeat (first | refine wk ?_ | refine s_field (hr := ?_))
    exact fin
theorem rule_sim {g : Gram} {s : SP} {tm : List D} {v : Int} {right : List Int} {l : List Frag} (h1 : s.rules.length ≤ 100000 := by ((try simp only [List.length_map, List.length_append, List.length_cons, List.length_nil, List.length_replicate, List.length_set, List.length_take, List.length_drop]); first | omega | assumption)) (h2 : s.frags.length ≤ 100000 := by ((try simp only [List.length_map, List.length_append, List.length_cons, List.length_nil, List.length_replicate, List.length_set, List.length_take, List.length_drop]); first | omega | assumption)) :
    ACalls Try.prog 86 [.ptr 1000 0, I v, .d (ints false right), .d (fragsD false l)] (spH g s tm) (.tup []) (spH g (s.rule v right l) tm) := by
  refine ACalls.intro (n := 53) Try.func86 rfl rfl (by simp) (by rfl) ?_
  simp only [argFr]
  have hH : spH g (s.rule v right l) tm = spHr g s.vars (s.rules.map (ruleD false) ++ [.agg [iD v, ints false right]]) (s.frags.map (fragsD false) ++ [fragsD false l]) (s.rules.map (ruleD false) ++ [D.agg [iD v, ints false right]]).length (s.frags.map (fragsD false) ++ [fragsD false l]).length (s.many || decide ((s.rules.length : Int) = 160)) tm := by
    rw [← rule_many s v right l]; simp [SP.rule, ruleD]
  rw [hH]
  cases hm : s.many with
  | true =>
    repeat (first | refine wk ?_ | refine s_field (hr := ?_))
    exact fin
  | false =>
    repeat (first | refine wk ?_ | refine s_field (hr := ?_))
    exact fin
end Go.Proofs.Ytpaeihifcmohkaa
