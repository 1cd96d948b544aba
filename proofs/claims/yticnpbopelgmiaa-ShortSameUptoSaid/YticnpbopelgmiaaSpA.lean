/-
  Sim: the splitter. Sim: the splitter: lift, split. Sim: the splitter: split.
-/
import Derived.Test.YticnpbopelgmiaaQTreeA
import Derived.Test.YticnpbopelgmiaaP1
import Derived.Test.YticnpbopelgmiaaS5
set_option linter.unusedVariables false
set_option linter.unusedSimpArgs false
set_option linter.unusedSectionVars false
namespace Go.Proofs.Yticnpbopelgmiaa
open Go.RowKit
set_option maxRecDepth 100000

/-- The splitter: itself, its rules, its templates, its terminals. -/
abbrev spHr (g : Gram) (v : Int) (R F : List D) (n1 n2 : Nat) (many : Bool) (tm : List D) : Hp := [(1000, .box 121 [.d (iD v), .d (iD g.terms), .d (iD g.start), .own 1001 n1, .own 1002 n2, .d nilT, .own 1003 g.terms.toNat, .d (bD many)]), (1001, .row 41 2 R), (1002, .row 65 1 F), (1003, .row 3 1 tm)]
abbrev spH (g : Gram) (s : SP) (tm : List D) : Hp := spHr g s.vars (s.rules.map (ruleD false)) (s.frags.map (fragsD false)) s.rules.length s.frags.length s.many tm
theorem fresh_many (s : SP) : s.fresh.many = (s.many || decide (s.vars = 64)) := by
  have h : s.fresh.vars = s.vars + 1 := rfl
  have h2 : s.fresh.rules = s.rules := rfl
  rw [Bool.eq_iff_iff]; simp only [SP.many, h, h2, Bool.or_eq_true, decide_eq_true_eq]
  constructor <;> (intro h3; omega)
theorem rule_many (s : SP) (v : Int) (right : List Int) (l : List Frag) : (s.rule v right l).many = (s.many || decide ((s.rules.length : Int) = 160)) := by
  have h : (s.rule v right l).vars = s.vars := rfl
  have h2 : (s.rule v right l).rules.length = s.rules.length + 1 := by simp [SP.rule]
  rw [Bool.eq_iff_iff]; simp only [SP.many, h, h2, Bool.or_eq_true, decide_eq_true_eq]
  constructor <;> (intro h3; omega)
theorem splitHole_sim {k : Int} : ACalls Try.prog 138 [I k] [] (.d (.agg [iD 2, iD k, nilT])) [] := by
  refine ACalls.intro (n := 5) Try.func138 rfl rfl (by simp) (by rfl) ?_
  simp only [argFr]
  repeat (first | refine wk ?_ | refine s_field (hr := ?_))
  exact fin
theorem fresh_sim {g : Gram} {s : SP} {tm : List D} (h0 : 0 ≤ s.vars := by ((try simp only [List.length_map, List.length_append, List.length_cons, List.length_nil, List.length_replicate, List.length_set, List.length_take, List.length_drop]); first | omega | assumption)) (h1 : s.vars ≤ 100000 := by ((try simp only [List.length_map, List.length_append, List.length_cons, List.length_nil, List.length_replicate, List.length_set, List.length_take, List.length_drop]); first | omega | assumption)) :
    ACalls Try.prog 137 [.ptr 1000 0] (spH g s tm) (I s.vars) (spH g s.fresh tm) := by
  refine ACalls.intro (n := 37) Try.func137 rfl rfl (by simp) (by rfl) ?_
  simp only [argFr]
  have e0 : s.vars + 1 - 1 = s.vars := by omega
  cases hm : s.many with
  | true =>
    rw [show spH g s.fresh tm = spHr g (s.vars + 1) (s.rules.map (ruleD false)) (s.frags.map (fragsD false)) s.rules.length s.frags.length true tm by simp only [spH, fresh_many, hm]; rfl]
    repeat (first | refine wk ?_ | refine s_field (hr := ?_))
    exact fin
  | false =>
    rw [show spH g s.fresh tm = spHr g (s.vars + 1) (s.rules.map (ruleD false)) (s.frags.map (fragsD false)) s.rules.length s.frags.length (decide (s.vars = 64)) tm by simp only [spH, fresh_many, hm]; rfl]
    repeat (first | refine wk ?_ | refine s_field (hr := ?_))
    exact fin
theorem rule_sim {g : Gram} {s : SP} {tm : List D} {v : Int} {right : List Int} {l : List Frag} (h1 : s.rules.length ≤ 100000 := by ((try simp only [List.length_map, List.length_append, List.length_cons, List.length_nil, List.length_replicate, List.length_set, List.length_take, List.length_drop]); first | omega | assumption)) (h2 : s.frags.length ≤ 100000 := by ((try simp only [List.length_map, List.length_append, List.length_cons, List.length_nil, List.length_replicate, List.length_set, List.length_take, List.length_drop]); first | omega | assumption)) :
    ACalls Try.prog 88 [.ptr 1000 0, I v, .d (ints false right), .d (fragsD false l)] (spH g s tm) (.tup []) (spH g (s.rule v right l) tm) := by
  refine ACalls.intro (n := 53) Try.func88 rfl rfl (by simp) (by rfl) ?_
  simp only [argFr]
  have hH : spH g (s.rule v right l) tm = spHr g s.vars (s.rules.map (ruleD false) ++ [.agg [iD v, ints false right]]) (s.frags.map (fragsD false) ++ [fragsD false l]) (s.rules.map (ruleD false) ++ [D.agg [iD v, ints false right]]).length (s.frags.map (fragsD false) ++ [fragsD false l]).length (s.many || decide ((s.rules.length : Int) = 160)) tm := by
    rw [← rule_many s v right l]; simp [SP.rule, ruleD]
  rw [hH]
  cases hm : s.many with
  | true =>
    repeat (first | refine wk ?_ | refine s_field (hr := ?_))
    exact fin
  | false =>
    repeat (first | refine wk ?_ | refine s_field (hr := ?_))
    exact fin
end Go.Proofs.Yticnpbopelgmiaa
namespace Go.Proofs.Yticnpbopelgmiaa
open Go.RowKit
set_option maxRecDepth 100000

theorem rule_simN {g : Gram} {s : SP} {tm : List D} {v : Int} {right : List Int} (h1 : s.rules.length ≤ 100000 := by ((try simp only [List.length_map, List.length_append, List.length_cons, List.length_nil, List.length_replicate, List.length_set, List.length_take, List.length_drop]); first | omega | assumption)) (h2 : s.frags.length ≤ 100000 := by ((try simp only [List.length_map, List.length_append, List.length_cons, List.length_nil, List.length_replicate, List.length_set, List.length_take, List.length_drop]); first | omega | assumption)) :
    ACalls Try.prog 88 [.ptr 1000 0, I v, .d (ints false right), .d nilT] (spH g s tm) (.tup []) (spH g (s.rule v right []) tm) :=
  (rule_sim (l := []) h1 h2).le ⟨.refl _, .refl _, .refl _, .nil _ _, trivial⟩
theorem SP.lift_new {s : SP} {x : Int} {k : Nat} (hk : -1 - x = (k : Int)) (hl : k < s.term.length) (h1 : s.term[k] < 0) :
    s.lift x = SP.rule ⟨s.vars + 1, s.rules, s.frags, s.term.set k s.vars⟩ s.vars [x] [] ∧ s.lifted x = s.vars := by
  have e : (-1 - x).toNat = k := by omega
  have e2 : s.lift x = SP.rule ⟨s.vars + 1, s.rules, s.frags, s.term.set k s.vars⟩ s.vars [x] [] := by
    rw [SP.lift, if_neg (by omega), e, List.getD_eq_getElem?_getD, List.getElem?_eq_getElem hl, Option.getD_some, if_pos h1]; rfl
  refine ⟨e2, ?_⟩
  rw [SP.lifted, if_neg (by omega), e2, e]
  simp [SP.rule, List.getD_eq_getElem?_getD, hl]
theorem SP.lift_old {s : SP} {x : Int} {k : Nat} (hk : -1 - x = (k : Int)) (hl : k < s.term.length) (h1 : ¬ s.term[k] < 0) :
    s.lift x = s ∧ s.lifted x = s.term[k] := by
  have e : (-1 - x).toNat = k := by omega
  have e2 : s.lift x = s := by
    rw [SP.lift, if_neg (by omega), e, List.getD_eq_getElem?_getD, List.getElem?_eq_getElem hl, Option.getD_some, if_neg h1]
  refine ⟨e2, ?_⟩
  rw [SP.lifted, if_neg (by omega), e2, e, List.getD_eq_getElem?_getD, List.getElem?_eq_getElem hl]; rfl
set_option maxHeartbeats 2000000 in
theorem lift_sim {g : Gram} {s : SP} {x : Int} (hx : -g.terms ≤ x := by ((try simp only [List.length_map, List.length_append, List.length_cons, List.length_nil, List.length_replicate, List.length_set, List.length_take, List.length_drop]); first | omega | assumption)) (ht : (s.term.length : Int) = g.terms := by ((try simp only [List.length_map, List.length_append, List.length_cons, List.length_nil, List.length_replicate, List.length_set, List.length_take, List.length_drop]); first | omega | assumption)) (ht4 : g.terms ≤ 90000 := by ((try simp only [List.length_map, List.length_append, List.length_cons, List.length_nil, List.length_replicate, List.length_set, List.length_take, List.length_drop]); first | omega | assumption)) (h0 : 0 ≤ s.vars := by ((try simp only [List.length_map, List.length_append, List.length_cons, List.length_nil, List.length_replicate, List.length_set, List.length_take, List.length_drop]); first | omega | assumption)) (h1 : s.vars ≤ 90000 := by ((try simp only [List.length_map, List.length_append, List.length_cons, List.length_nil, List.length_replicate, List.length_set, List.length_take, List.length_drop]); first | omega | assumption)) (h2 : s.rules.length ≤ 90000 := by ((try simp only [List.length_map, List.length_append, List.length_cons, List.length_nil, List.length_replicate, List.length_set, List.length_take, List.length_drop]); first | omega | assumption)) (h3 : s.frags.length ≤ 90000 := by ((try simp only [List.length_map, List.length_append, List.length_cons, List.length_nil, List.length_replicate, List.length_set, List.length_take, List.length_drop]); first | omega | assumption)) :
    ACalls Try.prog 136 [.ptr 1000 0, I x] (spH g s (s.term.map iD)) (I (s.lifted x)) (spH g (s.lift x) ((s.lift x).term.map iD)) := by
  refine ACalls.intro (n := 46) Try.func136 rfl rfl (by simp) (by rfl) ?_
  simp only [argFr]
  by_cases hp : 0 ≤ x
  · rw [show s.lift x = s by rw [SP.lift, if_pos hp], show s.lifted x = x by rw [SP.lifted, if_pos hp]]
    repeat (first | refine wk ?_)
    exact fin
  obtain ⟨k, hk⟩ : ∃ k : Nat, -1 - x = (k : Int) := ⟨(-1 - x).toNat, by omega⟩
  have hl : k < s.term.length := by omega
  have hlt : k < g.terms.toNat := by omega
  have hlm : (s.term.map iD).length = g.terms.toNat := by simp; omega
  by_cases hn : s.term[k] < 0
  · obtain ⟨e1, e2⟩ := SP.lift_new hk hl hn
    have e3 : (s.term.map iD).set k (D.raw (.int .i64 s.vars)) = (s.term.set k s.vars).map iD := by rw [List.map_set]; rfl
    have hlm2 : ((s.term.set k s.vars).map iD).length = g.terms.toNat := by simp; omega
    have hl2 : k < (s.term.set k s.vars).length := by simpa using hl
    have e4 : (s.term.set k s.vars)[k] = s.vars := by simp
    have f1 : s.fresh.rules.length ≤ 100000 := by show s.rules.length ≤ _; omega
    have f2 : s.fresh.frags.length ≤ 100000 := by show s.frags.length ≤ _; omega
    rw [e1, e2]
    repeat (first | refine d_fieldAddr TY (d := 19) (by exact rfl) gOk_none (by exact rfl) (by exact rfl) (by exact rfl) (by exact rfl) (by exact rfl) ?_ | refine d_loadW TY (d := 20) (by exact rfl) gOk_none (by exact rfl) (by exact rfl) (by exact rfl) (by exact rfl) (by exact rfl) (by exact rfl) ?_ | refine wk1 ?_)
    refine s_call [] (hA := fresh_sim) (hr := ?_)
    repeat (first | refine wk ?_)
    refine keepsCell (u := [(1003, _), (1000, _), (1001, _), (1002, _), (1003, _)]) ?_ rfl ?_
    rotate_left
    · intro q hq e
      simp only [List.mem_cons, List.not_mem_nil, or_false] at hq
      rcases hq with rfl | rfl | rfl | rfl | rfl
      · simp at e
      · exact ⟨_, _, rfl, rfl⟩
      · simp at e
      · simp at e
      · simp at e
    rw [e3]
    repeat (first | refine wk ?_)
    rw [e4]
    refine s_call [] (hA := rule_simN (s := s.fresh) (v := s.vars) (right := [x])) (hr := ?_)
    repeat (first | refine wk ?_)
    rw [e4, show spH g (SP.rule ⟨s.vars + 1, s.rules, s.frags, s.term.set k s.vars⟩ s.vars [x] []) ((SP.rule ⟨s.vars + 1, s.rules, s.frags, s.term.set k s.vars⟩ s.vars [x] []).term.map iD) = spH g (s.fresh.rule s.vars [x] []) ((s.term.set k s.vars).map iD) from rfl]
    exact fin
  · obtain ⟨e1, e2⟩ := SP.lift_old hk hl hn
    rw [e1, e2]
    repeat (first | refine wk ?_)
    exact fin
end Go.Proofs.Yticnpbopelgmiaa
namespace Go.Proofs.Yticnpbopelgmiaa
open Go.RowKit
set_option maxRecDepth 100000

theorem SP.lift_small (s : SP) (x : Int) : s.vars ≤ (s.lift x).vars ∧ (s.lift x).vars ≤ s.vars + 1 ∧ (s.lift x).rules.length ≤ s.rules.length + 1 ∧ (s.lift x).frags.length ≤ s.frags.length + 1 := by
  unfold SP.lift
  split
  · omega
  · split
    · simp; omega
    · omega
theorem SP.lifts_small : ∀ (l : List Int) (s : SP), s.vars ≤ (s.lifts l).vars ∧ (s.lifts l).vars ≤ s.vars + l.length ∧ (s.lifts l).rules.length ≤ s.rules.length + l.length ∧ (s.lifts l).frags.length ≤ s.frags.length + l.length
  | [], s => by simp [SP.lifts]
  | x :: l, s => by
    have h1 := s.lift_small x
    have h2 := SP.lifts_small l (s.lift x)
    simp only [SP.lifts, List.length_cons]
    omega
theorem SP.lifts_term : ∀ (l : List Int) (s : SP), (s.lifts l).term.length = s.term.length
  | [], s => rfl
  | x :: l, s => by rw [SP.lifts, SP.lifts_term l, SP.lift_term]
theorem SP.lifteds_snoc (s : SP) (l : List Int) (x : Int) : s.lifteds (l ++ [x]) = s.lifteds l ++ [(s.lifts l).lifted x] := by rw [SP.lifteds_append]; rfl
theorem SP.lifts_snoc (s : SP) (l : List Int) (x : Int) : s.lifts (l ++ [x]) = (s.lifts l).lift x := by rw [SP.lifts_append]; rfl
/-- So many more nonterminals. -/
def SP.more (s : SP) (n : Nat) : SP := ⟨s.vars + n, s.rules, s.frags, s.term⟩
theorem SP.more_fresh (s : SP) (n : Nat) : (s.more n).fresh = s.more (n + 1) := by simp [SP.more, SP.fresh]; omega
def SP.pairs (s : SP) (v r : Int) (l rs : List Int) (k : Nat) : SP := ⟨s.vars, s.rules ++ pairR v l rs k, s.frags ++ pairF r k, s.term⟩
theorem SP.pairs_rule (s : SP) (v r : Int) (l rs : List Int) (k : Nat) : (s.pairs v r l rs k).rule (if k = 0 then v else rs.getD (k - 1) 0) [l.getD k 0, rs.getD k 0] (if k = 0 then [.mk 1 r holes2] else holes2) = s.pairs v r l rs (k + 1) := by
  simp [SP.pairs, SP.rule, pairR, pairF]
theorem holes2_d : fragsD false holes2 = .sl false 3 [.agg [iD 2, iD 0, fragsD false []], .agg [iD 2, iD 1, fragsD false []]] := by simp [holes2, fragsD, fragD, fragDs]
abbrev holeD (k : Int) : D := .agg [iD 2, iD k, nilT]
theorem holeD_le (k : Int) : DLe (holeD k) (.agg [iD 2, iD k, fragsD false []]) := .agg (.cons (.refl _) (.cons (.refl _) (.cons (.nil _ _) .nil)))
theorem rule_simP {g : Gram} {s : SP} {tm : List D} {v r : Int} {right : List Int} (h1 : s.rules.length ≤ 100000 := by ((try simp only [List.length_map, List.length_append, List.length_cons, List.length_nil, List.length_replicate, List.length_set, List.length_take, List.length_drop]); first | omega | assumption)) (h2 : s.frags.length ≤ 100000 := by ((try simp only [List.length_map, List.length_append, List.length_cons, List.length_nil, List.length_replicate, List.length_set, List.length_take, List.length_drop]); first | omega | assumption)) :
    ACalls Try.prog 88 [.ptr 1000 0, I v, .d (ints false right), .d (.sl false 3 [.agg [iD 1, iD r, .sl false 3 [holeD 0, holeD 1]]])] (spH g s tm) (.tup []) (spH g (s.rule v right [.mk 1 r holes2]) tm) := by
  have h := rule_sim (g := g) (s := s) (tm := tm) (v := v) (right := right) (l := [.mk 1 r holes2]) h1 h2
  rw [show fragsD false [.mk 1 r holes2] = .sl false 3 [.agg [iD 1, iD r, fragsD false holes2]] by simp [fragsD, fragD, fragDs_map], holes2_d] at h
  exact h.le ⟨.refl _, .refl _, .refl _, .sl (.cons (.agg (.cons (.refl _) (.cons (.refl _) (.cons (.sl (.cons (holeD_le _) (.cons (holeD_le _) .nil))) .nil)))) .nil), trivial⟩
theorem rule_simH {g : Gram} {s : SP} {tm : List D} {v : Int} {right : List Int} (h1 : s.rules.length ≤ 100000 := by ((try simp only [List.length_map, List.length_append, List.length_cons, List.length_nil, List.length_replicate, List.length_set, List.length_take, List.length_drop]); first | omega | assumption)) (h2 : s.frags.length ≤ 100000 := by ((try simp only [List.length_map, List.length_append, List.length_cons, List.length_nil, List.length_replicate, List.length_set, List.length_take, List.length_drop]); first | omega | assumption)) :
    ACalls Try.prog 88 [.ptr 1000 0, I v, .d (ints false right), .d (.sl false 3 [holeD 0, holeD 1])] (spH g s tm) (.tup []) (spH g (s.rule v right holes2) tm) := by
  have h := rule_sim (g := g) (s := s) (tm := tm) (v := v) (right := right) (l := holes2) h1 h2
  rw [holes2_d] at h
  exact h.le ⟨.refl _, .refl _, .refl _, .sl (.cons (holeD_le _) (.cons (holeD_le _) .nil)), trivial⟩
set_option maxHeartbeats 4000000 in
theorem split_sim {t : Bool} {g : Gram} {s : SP} {v r : Int} {right : List Int} (hx : ∀ x ∈ right, -g.terms ≤ x) (h2 : 2 ≤ right.length) (h10 : right.length ≤ 10) (ht : (s.term.length : Int) = g.terms) (ht4 : g.terms ≤ 80000) (h0 : 0 ≤ s.vars) (h1 : s.vars ≤ 80000) (h3 : s.rules.length ≤ 80000) (h4 : s.frags.length ≤ 80000) :
    ACalls Try.prog 89 [.ptr 1000 0, I v, I r, .d (ints t right)] (spH g s (s.term.map iD)) (.tup []) (spH g (s.split v r right) ((s.split v r right).term.map iD)) := by
  refine ACalls.intro (n := 87) Try.func89 rfl rfl (by simp) (by rfl) ?_
  simp only [argFr]
  repeat (first | refine wk ?_)
  refine aw_nil 8 900 3 1 rfl rfl rfl ?_
  refine t_loop (X := Nat) (fun k => k ≤ right.length) (fun k => [(15, I k), (14, I right.length), (13, .d (ints t right)), (0, .ptr 1000 0), (1, I v), (2, I r), (8, .own 900 (s.lifteds (right.take k)).length)])
    (fun k => (900, .row 3 1 ((s.lifteds (right.take k)).map iD)) :: spH g (s.lifts (right.take k)) ((s.lifts (right.take k)).term.map iD)) (fun k => right.length - k) 0 (Nat.zero_le _) ?_
  intro k hk
  have hle := SP.lifteds_length s (right.take k)
  have hsm := SP.lifts_small (right.take k) s
  have htk : (right.take k).length = k := by simp; omega
  rw [htk] at hle hsm
  by_cases hlt : k < right.length
  · have e1 := SP.lifteds_snoc s (right.take k) right[k]
    have e2 := SP.lifts_snoc s (right.take k) right[k]
    rw [← List.take_succ_eq_append_getElem hlt] at e1 e2
    have hxk := hx _ (List.getElem_mem hlt)
    have htm := SP.lifts_term (right.take k) s
    have e := e1
    generalize s.lifts (right.take k) = q at *
    generalize s.lifteds (right.take k) = ls at *
    repeat (first | refine wk ?_)
    refine s_call [] (hA := lift_sim (s := q)) (hr := ?_)
    repeat (first | refine wk ?_)
    rw [← e2]
    exact t_next (k + 1)
  · obtain rfl : k = right.length := by omega
    rw [List.take_length]
    rw [List.take_length] at hle hsm
    obtain ⟨m, hm⟩ : ∃ m : Nat, right.length = m + 2 := ⟨right.length - 2, by omega⟩
    have hls : (s.lifteds right).length = m + 2 := by omega
    have hlift : (s.split v r right) = ((s.lifts right).more m).pairs v r (s.lifteds right) (rests (s.lifts right).vars (s.lifteds right)) (m + 1) := by
      rw [SP.split, hm]; simp [SP.pairs, SP.more]
    have hN : (((s.lifteds right).length : Nat) : Int) - 2 = (m : Int) := by omega
    rw [hlift, hls, hm]
    clear hlift hle hk hlt htk
    have hterm := SP.lifts_term right s
    generalize s.lifts right = q at *
    generalize s.lifteds right = ls at *
    repeat (first | refine wk ?_)
    rw [hN]
    have e0 : q = q.more 0 := by simp [SP.more]
    have hq : spH g q (q.term.map iD) = spH g (q.more 0) (q.term.map iD) := by rw [← e0]
    rw [hq]
    refine aw_nil 11 901 3 1 rfl rfl rfl ?_
    refine t_loop (X := Nat) (fun k => k ≤ m) (fun k => [(29, I k), (28, I m), (0, .ptr 1000 0), (1, I v), (2, I r), (8, .own 900 (m + 2)), (11, .own 901 k)])
      (fun k => (900, .row 3 1 (ls.map iD)) :: (901, .row 3 1 (((List.range k).map (fun (i : Nat) => q.vars + (i : Int))).map iD)) :: spH g (q.more k) (q.term.map iD)) (fun k => m - k) 0 (Nat.zero_le _) ?_
    intro k hk
    have a1 : (q.more k).vars = q.vars + k := rfl
    have hrl : (List.range k).length = k := List.length_range
    by_cases hlt : k < m
    · repeat (first | refine wk ?_)
      refine s_call [] (hA := fresh_sim (s := q.more k)) (hr := ?_)
      repeat (first | refine wk ?_)
      rw [SP.more_fresh]
      have e : (List.range (k + 1)).map (fun (i : Nat) => q.vars + (i : Int)) = (List.range k).map (fun (i : Nat) => q.vars + (i : Int)) ++ [(q.more k).vars] := by rw [List.range_succ]; simp [SP.more]
      exact t_next (k + 1)
    · obtain rfl : k = m := by omega
      have hidx : ((ls.length : Nat) : Int) - 1 = ((k + 1 : Nat) : Int) := by omega
      repeat (first | refine wk ?_)
      have hget : ls[k + 1] = ls.getD (ls.length - 1) 0 := by rw [List.getD_eq_getElem?_getD, List.getElem?_eq_getElem (by omega)]; simp; congr 1; omega
      have hrs : ((List.range k).map (fun (i : Nat) => q.vars + (i : Int))).map iD ++ [iD ls[k + 1]] = (rests q.vars ls).map iD := by
        rw [rests, hget, show ls.length - 2 = k by omega, List.map_append]; rfl
      have hrl2 : (rests q.vars ls).length = k + 1 := by rw [rests_length _ (by omega)]; omega
      have hrl3 : ((rests q.vars ls).map iD).length = k + 1 := by simp [hrl2]
      rw [hrs, hrl3]
      generalize rests q.vars ls = rs at *
      have b1 : (q.more k).rules.length = q.rules.length := rfl
      have b2 : (q.more k).frags.length = q.frags.length := rfl
      have c1 : (q.more k).rules.length ≤ 100000 := by omega
      have c2 : (q.more k).frags.length ≤ 100000 := by omega
      repeat (first | refine wk ?_)
      refine s_call [] (hA := splitHole_sim) (hr := ?_)
      repeat (first | refine wk ?_)
      refine s_call [] (hA := splitHole_sim) (hr := ?_)
      repeat (first | refine wk ?_)
      refine s_call [] (hA := rule_simP (s := q.more k) (v := v) (r := r) (right := [ls[0], rs[0]]) c1 c2) (hr := ?_)
      repeat (first | refine wk ?_)
      have getD_at : ∀ (xs : List Int) (i : Nat) (h : i < xs.length), xs.getD i 0 = xs[i] := fun xs i h => by rw [List.getD_eq_getElem?_getD, List.getElem?_eq_getElem h]; rfl
      have hp1 : (q.more k).rule v [ls[0], rs[0]] [.mk 1 r holes2] = (q.more k).pairs v r ls rs 1 := by
        have := SP.pairs_rule (q.more k) v r ls rs 0
        rw [if_pos rfl, if_pos rfl, getD_at ls 0 (by omega), getD_at rs 0 (by omega)] at this
        rw [← this]; simp [SP.pairs, SP.more, pairR, pairF]
      rw [hp1]
      refine t_loop (X := Nat) (fun j => 1 ≤ j ∧ j ≤ k + 1) (fun j => [(12, I j), (0, .ptr 1000 0), (1, I v), (2, I r), (8, .own 900 (k + 2)), (11, .own 901 (k + 1))])
        (fun j => (900, .row 3 1 (ls.map iD)) :: (901, .row 3 1 (rs.map iD)) :: spH g ((q.more k).pairs v r ls rs j) (q.term.map iD)) (fun j => k + 1 - j) 1 (by omega) ?_
      rintro j ⟨hj1, hj2⟩
      by_cases hlj : j < k + 1
      · have hj0 : (j : Int) - 1 = ((j - 1 : Nat) : Int) := by omega
        have hp2 : ((q.more k).pairs v r ls rs j).rule rs[j - 1] [ls[j], rs[j]] holes2 = (q.more k).pairs v r ls rs (j + 1) := by
          have := SP.pairs_rule (q.more k) v r ls rs j
          rwa [if_neg (by omega), if_neg (by omega), getD_at ls j (by omega), getD_at rs j (by omega), getD_at rs (j - 1) (by omega)] at this
        have d1 : ((q.more k).pairs v r ls rs j).rules.length ≤ 100000 := by simp [SP.pairs, pairR_length]; omega
        have d2 : ((q.more k).pairs v r ls rs j).frags.length ≤ 100000 := by simp [SP.pairs, pairF_length]; omega
        repeat (first | refine wk ?_)
        refine s_call [] (hA := splitHole_sim) (hr := ?_)
        repeat (first | refine wk ?_)
        refine s_call [] (hA := splitHole_sim) (hr := ?_)
        repeat (first | refine wk ?_)
        refine s_call [] (hA := rule_simH (s := (q.more k).pairs v r ls rs j) (v := rs[j - 1]) (right := [ls[j], rs[j]]) d1 d2) (hr := ?_)
        repeat (first | refine wk ?_)
        rw [hp2]
        exact t_next (j + 1)
      · obtain rfl : j = k + 1 := by omega
        repeat (first | refine wk ?_)
        exact fin
end Go.Proofs.Yticnpbopelgmiaa
