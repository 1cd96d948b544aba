/-
  Sim: x[:n:n] of a slice of data with n elements. Thin: all, asFrag, parts. Thin, the program: rule. Thin, the program: rule, whole.
-/
import Derived.Test.YticnpbopelgmiaaS5
import Derived.Test.YticnpbopelgmiaaQThP
import Derived.Test.YticnpbopelgmiaaQTreeB
import Derived.Test.YticnpbopelgmiaaSyA
import Derived.Test.YticnpbopelgmiaaQChartP
set_option linter.unusedVariables false
set_option linter.unusedSimpArgs false
set_option linter.unusedSectionVars false
namespace Go.Proofs.Yticnpbopelgmiaa
open Go.RowKit

section
variable {P : Program} (T : TT P)
theorem run_sliceF {t e : TypeId} {y ye : Ty} (ht : T.rows[t]? = some y) (hel : y.elem = some e) (hte : T.rows[e]? = some ye) {ba : Option Addr} {len cap : Nat} {kh km : IntKind} (hlc : len ≤ cap) (w : World) :
    (Instr.sliceAt t (.slice ba len cap) none (some (.int kh len)) (some (.int km len))).run P w = .ok (.slice (if len = 0 then ba else ba.map (·.add (0 * ye.size))) len len) w := by
  obtain ⟨_, ds, _, k2, _, _, _, _, k7, _⟩ := tyOf_spec (T.at ht)
  obtain ⟨i, _, g1, _, g3, _⟩ := tyOf_spec (T.at hte)
  have hds := k7 e hel
  subst hds
  have e1 : (0 : Int) ≤ (len : Int) ∧ (len : Int) ≤ (cap : Int) := by omega
  have e2 : (0 : Int) ≤ (len : Int) ∧ (len : Int) ≤ (len : Int) := by omega
  simp [Instr.sliceAt, run_underlying k2, Instr.slice, Instr.sliceBounds, Instr.sliceBound, asIntOf, sizeOf, typeInfo, g1, g3, hlc]
theorem sl_full {M : Bars} {w : World} {t : Bool} {sz : Nat} {es : List D} {ba : Option Addr} {cap : Nat} (hr : D.Rep M w (.sl t sz es) [.slice ba es.length cap]) (hm : es.length ≤ maxLen) :
    D.Rep M w (.sl t sz es) [.slice (if es.length = 0 then ba else ba.map (·.add (0 * sz))) es.length es.length] := by
  simp only [D.Rep, List.cons.injEq, and_true, Value.slice.injEq] at hr ⊢
  obtain ⟨a, cp, us, ⟨rfl, _, rfl⟩, q1, q2, q3, q4, q5⟩ := hr
  refine ⟨_, es.length, us, ⟨rfl, trivial, rfl⟩, by omega, hm, q3, q4, fun hne => ?_⟩
  obtain ⟨b, off, rfl, g1, g2, g3⟩ := q5 hne
  have : es.length ≠ 0 := fun e => hne (List.eq_nil_of_length_eq_zero e)
  rw [if_neg this]
  refine ⟨b, off, by simp [Addr.add_mid], g1, g2, g3⟩
variable {n : Nat} {dr : Bool} {ops : Array Oper} {rest : List Oper} {log : List Rec} {K : Exit → Fr → Hp → Prop} {fr : Fr} {h : Hp}
variable {d : Nat} {ty : TypeId} {pos : String} {after : Array Edge} {g : Option (Nat × Bool)}
theorem d_sliceF {x xh xm : Operand} {t e : Nat} {tb : Bool} {sz m : Nat} {es : List D} {y ye : Ty} (hm : es.length = m) (hdn : Nat.blt d n = true) (hg : gOk ops fr g) (hx : oev fr x = .d (.sl tb sz es)) (hh : oev fr xh = I (m : Int)) (hc : oev fr xm = I (m : Int))
    (ht : T.rows[t]? = some y) (hel : y.elem = some e) (hte : T.rows[e]? = some ye) (hsz : Nat.beq ye.size sz = true)
    (hr : dops P n dr ops rest (⟨(gIns ops g ++ (insOf x (.d (.sl tb sz es)) ++ (insOf xh (I (m : Int)) ++ insOf xm (I (m : Int))))).map Prod.fst, [d], [], []⟩ :: log) K ((d, .full tb sz es) :: fr) h) : dops P n dr ops (⟨some d, .slice t x none (some xh) (some xm), ty, pos, after, g⟩ :: rest) log K fr h := by
  subst hm
  refine dops_cons (ins := gIns ops g ++ (insOf x (.d (.sl tb sz es)) ++ (insOf xh (I (es.length : Int)) ++ insOf xm (I (es.length : Int))))) (objs := []) (v := .full tb sz es) (upd := []) (LStep.pure rfl hdn rfl hg _ [] _ fun G E fr' h' a w C hi' _ => ?_) (ins_of hg (fun p hp => ?_)) (by simp) hr
  · simp only [List.mem_append] at hi'
    obtain ⟨r, _⟩ := C.oev (oev_of hx (fun p hp => hi' p (.inl hp))) (oneOpd_spec (oneOpd_of hx rfl))
    obtain ⟨r1, _⟩ := C.oev (oev_of hh (fun p hp => hi' p (.inr (.inl hp)))) (oneOpd_spec (oneOpd_of hh rfl))
    obtain ⟨r2, _⟩ := C.oev (oev_of hc (fun p hp => hi' p (.inr (.inr hp)))) (oneOpd_spec (oneOpd_of hc rfl))
    simp only [V.Rep, D.RepV, D.Rep, List.cons.injEq, and_true] at r1 r2
    simp only [V.Rep, D.RepV] at r
    have r' := r
    simp only [D.Rep, List.cons.injEq, and_true] at r'
    obtain ⟨ba, cap, us, hev, q1, q2, _⟩ := r'
    rw [hev] at r
    have hs := Nat.eq_of_beq_eq_true hsz
    have hrun := run_sliceF T ht hel hte (ba := ba) (len := es.length) (cap := cap) (kh := .i64) (km := .i64) q1 w
    rw [hs] at hrun
    refine ⟨_, ?_, by simp only [V.Rep, D.RepV]; exact ⟨sl_full r (by omega), _, rfl⟩, by simp [V.keys]⟩
    simp only [execOp, hev, r1.1, r2.1, Option.map_none, Option.map_some, Sem.run_bind, hrun, Result.andThen_ok, Sem.run_pure]
  · simp only [List.mem_append] at hp
    rcases hp with hp | hp | hp
    · exact oev_ins hx p hp
    · exact oev_ins hh p hp
    · exact oev_ins hc p hp
end
end Go.Proofs.Yticnpbopelgmiaa
namespace Go.Proofs.Yticnpbopelgmiaa
open Go.RowKit
set_option maxRecDepth 100000
-- SimX

theorem asF_take {l : List Tree} {i : Nat} (h : i < l.length) : ((l.take (i + 1)).map asF).map (fragD false) = ((l.take i).map asF).map (fragD false) ++ [fragA false (asF l[i])] := by
  rw [List.take_succ_eq_append_getElem h, List.map_append, List.map_append]
  simp only [List.map_cons, List.map_nil, fragA_eq]
theorem asF_A (x : Tree) : fragA false (asF x) = .agg [iD 1, iD x.rule, fragsD false (x.kids.map asF)] := by rw [asF_eq]; rfl
set_option maxHeartbeats 4000000 in
theorem thinAll_sim {t : Bool} : ∀ (x : Tree), cnt x ≤ 100000000 → ACalls Try.prog 100 [.d (treeA t x)] [] (.d (fragA false (asF x))) [] := by
  refine Tree.ind fun x ih hx => ?_
  rw [asF_A]
  refine ACalls.intro (n := 25) Try.func100 rfl rfl (by simp) (by rfl) ?_
  simp only [argFr]
  have hk := kids_len hx
  repeat (first | refine wk ?_ | refine s_field (hr := ?_))
  --@
  refine aw_nilCell 3 2 900 67 3 rfl rfl rfl rfl ?_
  refine t_loop (X := Nat) (fun i => i ≤ x.kids.length) (fun i => [(12, I i), (11, I x.kids.length), (10, .d (treesD t x.kids)), (3, .ptr 3 0), (2, .ptr 2 0)]) (fun i => [(2, .box 67 [.d (iD 0), .d (iD 0), .d (.raw (.slice none 0 0))]), (3, .box 67 [.d (iD 1), .d (iD x.rule), .own 900 (x.kids.take i).length]), (900, .row 67 3 (((x.kids.take i).map asF).map (fragD false)))]) (fun i => x.kids.length - i) 0 (Nat.zero_le _) ?_
  intro i hi
  by_cases hlt : i < x.kids.length
  · have e := asF_take hlt
    have hl : (((x.kids.take i).map asF).map (fragD false)).length = (x.kids.take i).length := by simp
    repeat (first | refine wk ?_ | refine s_field (hr := ?_))
    --@
    refine s_call [] (hA := ih x.kids[i] (List.getElem_mem hlt) (kid_le hx hlt).1) (hr := ?_)
    repeat (first | refine wk ?_ | refine s_field (hr := ?_))
    --@
    exact t_next (i + 1)
  · rw [show x.kids.take i = x.kids from List.take_of_length_le (by omega)]
    refine aw_froz 900 rfl ?_
    repeat (first | refine wk ?_ | refine s_field (hr := ?_))
    --@
    exact fin
set_option maxHeartbeats 4000000 in
theorem thinParts_gen : ∀ (n : Nat) {t : Bool} {l : List Frag}, fszs l < n → fszs l ≤ 100000000 → ACalls Try.prog 99 [.d (fragsD t l)] [] (I (fszs l)) [] := by
  intro n
  induction n with
  | zero => intro t l h; omega
  | succ n ih =>
    intro t l hn hl
    have hll := fszs_len l
    refine ACalls.intro (n := 21) Try.func99 rfl rfl (by simp) (by rfl) ?_
    simp only [argFr]
    repeat (first | refine wk ?_ | refine s_field (hr := ?_))
    --@
    refine t_loop (X := Nat) (fun i => i ≤ l.length) (fun i => [(10, I i), (9, I l.length), (8, .d (fragsD t l)), (3, I ((fszs (l.take i) + (l.length - i) : Nat) : Int)), (2, I 0)]) (fun _ => []) (fun i => l.length - i) 0 (Nat.zero_le _) ?_ (hf := ⟨.of rfl, .of rfl, .of rfl, VLe.of (by simp [fszs]; rfl), .of rfl, trivial⟩)
    intro i hi
    by_cases hlt : i < l.length
    · have e1 := fszs_take hlt
      have e2 := fszs_split l (i + 1)
      have e3 := fsz_eq l[i]
      have e4 := fszs_len (l.drop (i + 1))
      rw [List.length_drop] at e4
      have hc := @ih t l[i].l (by omega) (by omega)
      have ea : ((fszs (l.take i) + (l.length - i) : Nat) : Int) + ((fszs l[i].l : Nat) : Int) = ((fszs (l.take (i + 1)) + (l.length - (i + 1)) : Nat) : Int) := by omega
      have hb : ((fszs (l.take i) + (l.length - i) : Nat) : Int) + ((fszs l[i].l : Nat) : Int) ≤ 100000000 := by omega
      clear e1 e2 e3 e4
      generalize fszs (l.take i) + (l.length - i) = c1 at *
      generalize hc2 : fszs (l.take (i + 1)) + (l.length - (i + 1)) = c2 at *
      generalize fszs l[i].l = c3 at *
      repeat (first | refine wk ?_ | refine s_field (hr := ?_))
      --@
      refine s_call [] (hA := hc) (hr := ?_)
      repeat (first | refine wk ?_ | refine s_field (hr := ?_))
      --@
      rw [ea]
      subst hc2
      exact t_next (i + 1)
    · have e : l.take i = l := List.take_of_length_le (by omega)
      have e2 : l.length - i = 0 := by omega
      rw [e, e2, Nat.add_zero]
      repeat (first | refine wk ?_ | refine s_field (hr := ?_))
      --@
      exact fin
theorem thinParts_sim {t : Bool} {l : List Frag} (h : fszs l ≤ 100000000) : ACalls Try.prog 99 [.d (fragsD t l)] [] (I (fszs l)) [] := thinParts_gen _ (Nat.lt_succ_self _) h
end Go.Proofs.Yticnpbopelgmiaa
namespace Go.Proofs.Yticnpbopelgmiaa
open Go.RowKit
set_option maxRecDepth 100000
-- SimX

abbrev thBx (t : Bool) (g : Gram) (nl : List (List Tree)) (n m : Nat) : Ob := .box 56 [.d (iD g.vars), .d (iD g.terms), .d (iD g.start), .d (rulesD t g.rules), .d (.sl false 1 (nl.map (treesD false))), .d (iD g.vars), .d (iD g.terms), .d (iD g.start), .own 1001 n, .own 1002 m, .d (.raw (.slice none 0 0))]
abbrev thHr (t : Bool) (g : Gram) (nl : List (List Tree)) (R F : List D) : Hp := [(1000, thBx t g nl R.length F.length), (1001, .row 41 2 R), (1002, .row 65 1 F)]
abbrev thH (t : Bool) (g : Gram) (nl : List (List Tree)) (S : TS) : Hp := thHr t g nl (S.rules.map (ruleD false)) (S.frags.map (fragsD false))
def goneT (r : Nat) : Value := .iface 59 (.agg #[.int .i64 6, .int .i64 (r : Int)])
def DoesTh (t : Bool) (g : Gram) (nl : List (List Tree)) (r : Nat) (args : List V) (S : TS) : Except TS TS → Prop
  | .ok S' => ACalls Try.prog 40 args (thH t g nl S) (.tup []) (thH t g nl S')
  | .error e => APan Try.prog 40 args (thH t g nl S) (goneT r) (thH t g nl e)
structure TS.Good (S : TS) : Prop where
  rules : S.rules.length ≤ 160
  frags : S.frags.length = S.rules.length
/-- The trees of nothing, and how great they are. -/
def NlOk (nl : List (List Tree)) : Prop := nl.length ≤ 64 ∧ (∀ l ∈ nl, l.length ≤ 200) ∧ ∀ l ∈ nl, ∀ x ∈ l, cnt x ≤ 400 ∧ NbF 1000000000 (asF x)
theorem TS.put_good {S S' : TS} {left : Int} {r : Nat} {right : List Int} {l : List Frag} (h : S.put left r right l = .ok S') (g : S.Good) : S'.Good := by
  unfold TS.put at h
  split at h
  · cases h; exact g
  · split at h
    · cases h
    · rename_i h1 h2
      cases h
      exact ⟨by have := g.rules; simp only [List.length_append, List.length_singleton]; omega, by simp [g.frags]⟩
theorem thL_good {α : Type} {f : α → TS → Except TS TS} : ∀ {ts : List α} {S S' : TS}, (∀ x ∈ ts, ∀ S S', f x S = .ok S' → S.Good → S'.Good) → thL f ts S = .ok S' → S.Good → S'.Good
  | [], S, S', _, h, g => by cases h; exact g
  | t :: ts, S, S', hf, h, g => by
    rw [thL] at h
    cases hc : f t S with
    | error e => rw [hc] at h; cases h
    | ok S1 => rw [hc] at h; exact thL_good (fun x hx => hf x (by simp [hx])) h (hf t (by simp) S S1 hc g)
theorem thR_good (nl : List (List Tree)) (left : Int) (r : Nat) (ss : List Int) (h : Nat) (right : List Int) (l : List Frag) {S S' : TS} (e : thR nl left r ss h right l S = .ok S') (g : S.Good) : S'.Good := by
  rw [thR_tups] at e
  exact thL_good (fun p _ S S' h g => TS.put_good h g) e g
theorem NbL_snoc {B : Int} {x : Frag} : ∀ {l : List Frag}, NbL B l → NbF B x → NbL B (l ++ [x])
  | [], _, hx => ⟨hx, trivial⟩
  | y :: l, h, hx => ⟨h.1, NbL_snoc h.2 hx⟩
section
variable {t : Bool} {g : Gram} {nl : List (List Tree)}
set_option maxHeartbeats 8000000 in
theorem thRule_end_pan {r : Nat} {right : List Int} {l : List Frag} {h : Nat} {S : TS} (hg : g.ok) (hr : r < g.rules.length) (hS : S.Good) (hrl : right.length ≤ 10) (hl : fszs l ≤ 5000) (h0 : ¬ right.length = 0) (hp : S.rules.length = 160 ∨ 60 < fszs l + 1) :
    APan Try.prog 40 [.ptr 1000 0, I (r : Nat), I (g.rules[r].right.length : Nat), I (h : Nat), .d (ints false right), .d (fragsD false l)] (thH t g nl S) (goneT r) (thH t g nl S) := by
  have hrr := hg.right _ (List.getElem_mem hr)
  have hrules := hg.rules
  have hpt := thinParts_sim (t := false) (l := l) (by omega)
  have hf1 := hS.rules
  have hf2 := hS.frags
  simp only [thH, thHr, thBx]
  refine APan.intro (n := 156) Try.func40 rfl rfl (by simp) (by rfl) rfl ?_
  simp only [argFr]
  by_cases h1 : S.rules.length = 160
  · (repeat (first | refine wk ?_ | refine s_field (hr := ?_)))
    (repeat (first | refine wkz ?_ | refine s_field (hr := ?_)))
    repeat (first | refine wk ?_ | refine s_field (hr := ?_))
    --@
    refine d_iface rfl gOk_none rfl rfl rfl Try.underlying59 rfl ?_
    refine d_panic [(1000, some (thBx t g nl (S.rules.map (ruleD false)).length (S.frags.map (fragsD false)).length)), (1001, some (.row 41 2 (S.rules.map (ruleD false)))), (1002, some (.row 65 1 (S.frags.map (fragsD false))))] 999 gOk_none rfl (fun p hp => by rcases List.mem_cons.1 hp with rfl | hp; exact rfl; rcases List.mem_cons.1 hp with rfl | hp; exact rfl; rw [List.mem_singleton.1 hp]; rfl) (fun fr' h' ho => ⟨rfl, ⟨HElt.of (ho _ List.mem_cons_self), HElt.of (ho _ (List.mem_cons_of_mem _ List.mem_cons_self)), HElt.of (ho _ (List.mem_cons_of_mem _ (List.mem_cons_of_mem _ (List.mem_singleton.2 rfl)))), trivial⟩, rfl⟩) ?_
    refine dops_end (andThen_n ?_)
    exact aw_nev (Nev.obj 999 rfl)
  · have h2 : 60 < fszs l + 1 := by omega
    repeat (first | refine wk ?_ | refine s_field (hr := ?_))
    refine s_call [] (hA := hpt) (hr := ?_)
    repeat (first | refine wk ?_ | refine s_field (hr := ?_))
    --@
    refine d_iface rfl gOk_none rfl rfl rfl Try.underlying59 rfl ?_
    refine d_panic [(1000, some (thBx t g nl (S.rules.map (ruleD false)).length (S.frags.map (fragsD false)).length)), (1001, some (.row 41 2 (S.rules.map (ruleD false)))), (1002, some (.row 65 1 (S.frags.map (fragsD false))))] 999 gOk_none rfl (fun p hp => by rcases List.mem_cons.1 hp with rfl | hp; exact rfl; rcases List.mem_cons.1 hp with rfl | hp; exact rfl; rw [List.mem_singleton.1 hp]; rfl) (fun fr' h' ho => ⟨rfl, ⟨HElt.of (ho _ List.mem_cons_self), HElt.of (ho _ (List.mem_cons_of_mem _ List.mem_cons_self)), HElt.of (ho _ (List.mem_cons_of_mem _ (List.mem_cons_of_mem _ (List.mem_singleton.2 rfl)))), trivial⟩, rfl⟩) ?_
    refine dops_end (andThen_n ?_)
    exact aw_nev (Nev.obj 999 rfl)
set_option maxHeartbeats 8000000 in
theorem thRule_end {r : Nat} {right : List Int} {l : List Frag} {h : Nat} {S : TS} (hg : g.ok) (hr : r < g.rules.length) (hS : S.Good) (hrl : right.length ≤ 10) (hl : fszs l ≤ 5000) (hnb : NbL 1000000000 l) :
    DoesTh t g nl r [.ptr 1000 0, I (r : Nat), I (g.rules[r].right.length : Nat), I (h : Nat), .d (ints false right), .d (fragsD false l)] S (S.put g.rules[r].left r right l) := by
  have hrr := hg.right _ (List.getElem_mem hr)
  have hrules := hg.rules
  have hpt := thinParts_sim (t := false) (l := l) (by omega)
  have hf1 := hS.rules
  have hf2 := hS.frags
  unfold TS.put
  by_cases h0 : right.length = 0
  · rw [if_pos h0]
    show ACalls _ _ _ _ _ _
    simp only [thH, thHr, thBx]
    refine ACalls.intro (n := 156) Try.func40 rfl rfl (by simp) (by rfl) ?_
    simp only [argFr]
    repeat (first | refine wk ?_ | refine s_field (hr := ?_))
    --@
    exact fin
  rw [if_neg h0]
  by_cases hp : S.rules.length = 160 ∨ 60 < fszs l + 1
  · rw [if_pos hp]
    exact thRule_end_pan hg hr hS hrl hl h0 hp
  rw [if_neg hp]
  show ACalls _ _ _ _ _ _
  have h1 : ¬ S.rules.length = 160 := fun e => hp (.inl e)
  have h2 : ¬ 60 < fszs l + 1 := fun e => hp (.inr e)
  have hcl := clone_sim (t := false) (xs := right) (by omega)
  have how := ownP_sim (t := false) (l := [.mk 1 r l]) (by simp only [fszs, fsz]; omega) (by refine ⟨?_, trivial⟩; exact ⟨by omega, hnb⟩)
  have e1 : (S.rules ++ [(⟨g.rules[r].left, right⟩ : Rule)]).map (ruleD false) = S.rules.map (ruleD false) ++ [D.agg [iD g.rules[r].left, ints false right]] := by simp [ruleD]
  have e2 : (S.frags ++ [[Frag.mk 1 r l]]).map (fragsD false) = S.frags.map (fragsD false) ++ [fragsD false [.mk 1 r l]] := by simp
  have hfr : fragsD false [Frag.mk 1 r l] = .sl false 3 [.agg [iD 1, iD r, fragsD false l]] := by simp [fragD, fragDs_map]
  rw [hfr] at how e2
  simp only [thH, thHr, thBx, e1, e2]
  refine ACalls.intro (n := 156) Try.func40 rfl rfl (by simp) (by rfl) ?_
  simp only [argFr]
  repeat (first | refine wk ?_ | refine s_field (hr := ?_))
  refine s_call [] (hA := hpt) (hr := ?_)
  repeat (first | refine wk ?_ | refine s_field (hr := ?_))
  --@
  refine s_call [(5, 905)] (hA := hcl) (hr := ?_)
  repeat (first | refine wk ?_ | refine s_field (hr := ?_))
  --@
  refine s_call [] (hA := how) (hr := ?_)
  repeat (first | refine wk ?_ | refine s_field (hr := ?_))
  --@
  exact fin
end
end Go.Proofs.Yticnpbopelgmiaa
namespace Go.Proofs.Yticnpbopelgmiaa
open Go.RowKit
set_option maxRecDepth 100000
-- SimX

abbrev nilLt : D := .raw (.slice none 0 0)
theorem APan.leT {P : Program} {f : FuncId} {args args' : List V} {h h' : Hp} {u : Value} (hA : APan P f args' h u h') (hl : VLes args args') : APan P f args h u h' :=
  ⟨hA.ok, fun E w us o H hr hk ho hs => hA.run E w us o H (hl.reps hr) (by rw [← hl.keys]; exact hk) ho hs⟩
section
variable {t : Bool} {g : Gram} {nl : List (List Tree)}
theorem DoesTh.le {r : Nat} {args args' : List V} {S : TS} {R : Except TS TS} (hA : DoesTh t g nl r args' S R) (hl : VLes args args') : DoesTh t g nl r args S R := by
  cases R with
  | error e => exact APan.leT (show APan _ _ _ _ _ _ from hA) hl
  | ok p => exact ACalls.le (show ACalls _ _ _ _ _ _ from hA) hl
theorem hole_le (l : List Frag) (h : Nat) : DLe (.sl false 3 (l.map (fragD false) ++ [.agg [iD 2, iD h, nilLt]])) (fragsD false (l ++ [holeF h])) :=
  DLe.sl (DLes.snoc (y := .agg [iD 2, iD h, .sl false 3 []]) (by simp [fragD, fragDs]) (.agg (.cons (.refl _) (.cons (.refl _) (.cons (.nil _ _) .nil)))))
theorem hole_vle (l : List Frag) (h : Nat) : VLe (.d (.sl false 3 (l.map (fragD false) ++ [.agg [iD 2, iD h, nilLt]]))) (.d (fragsD false (l ++ [holeF h]))) :=
  VLe.d (hole_le l h) (fun M w u k => by simp only [D.RepV] at k ⊢; exact (hole_le l h).rep M w [u] k)
set_option maxHeartbeats 16000000 in
theorem thRule_gen (hg : g.ok) (hn : NlOk nl) (hnv : nl.length = g.vars.toNat) {r : Nat} (hr : r < g.rules.length) : ∀ (n at_ h : Nat) (right : List Int) (l : List Frag) (S : TS), g.rules[r].right.length - at_ < n → at_ ≤ g.rules[r].right.length → right.length + (g.rules[r].right.length - at_) ≤ 10 → h ≤ at_ → fszs l + 401 * (g.rules[r].right.length - at_) ≤ 5000 → NbL 1000000000 l → S.Good →
    DoesTh t g nl r [.ptr 1000 0, I (r : Nat), I (at_ : Nat), I (h : Nat), .d (ints false right), .d (fragsD false l)] S (thR nl g.rules[r].left r (g.rules[r].right.drop at_) h right l S) := by
  intro n
  induction n with
  | zero => intro at_ h right l S hn'; omega
  | succ n ih =>
  intro at_ h right l S hn' hat hrl hh hl hnb hS
  by_cases hal : at_ < g.rules[r].right.length
  rotate_left
  · obtain rfl : at_ = g.rules[r].right.length := by omega
    rw [List.drop_of_length_le (Nat.le_refl _), thR]
    exact thRule_end hg hr hS (by omega) (by omega) hnb
  have hrr := hg.right _ (List.getElem_mem hr)
  have hhi := hg.hi _ (List.getElem_mem hr) _ (List.getElem_mem hal)
  have hrules := hg.rules
  have hvars := hg.vars
  have hf1 := hS.rules
  have hf2 := hS.frags
  have hll := fszs_len l
  have hne : ¬ (at_ : Int) = g.rules[r].right.length := by omega
  rw [List.drop_eq_getElem_cons hal, thR]
  have er : ints false (right ++ [g.rules[r].right[at_]]) = .sl false 1 (right.map iD ++ [iD g.rules[r].right[at_]]) := by simp [ints]
  by_cases hs : g.rules[r].right[at_] < 0
  · rw [if_pos hs]
    have hi := ih (at_ + 1) h (right ++ [g.rules[r].right[at_]]) l S (by omega) (by omega) (by simp only [List.length_append, List.length_singleton]; omega) (by omega) (by omega) hnb hS
    rw [er, show ((at_ + 1 : Nat) : Int) = (at_ : Int) + 1 by omega] at hi
    cases hc : thR nl g.rules[r].left r (g.rules[r].right.drop (at_ + 1)) h (right ++ [g.rules[r].right[at_]]) l S with
    | error e =>
      rw [hc] at hi
      replace hi : APan _ _ _ _ _ _ := hi
      clear ih
      show APan _ _ _ _ _ _
      simp only [thH, thHr, thBx] at *
      refine APan.intro (n := 156) Try.func40 rfl rfl (by simp) (by rfl) rfl ?_
      simp only [argFr]
      repeat (first | refine wk ?_ | refine s_field (hr := ?_))
      refine d_sliceF TY (by simp) rfl gOk_none rfl rfl rfl rfl rfl rfl rfl ?_
      repeat (first | refine wk ?_ | refine s_field (hr := ?_))
      refine d_appNew TY rfl rfl gOk_none rfl rfl rfl (ArgIs.own rfl rfl) (.inr ⟨⟨_, rfl⟩, .inr (by simp)⟩) rfl rfl rfl rfl rfl rfl rfl rfl (by simp; omega) (by simp; omega) ?_
      repeat (first | refine wk ?_ | refine s_field (hr := ?_))
      --@
      refine s_panCall [] [] [] (hpn := ?_) (hA := hi)
      exact (fun fr' h' _ _ => ⟨rfl, ⟨HElt.of rfl, HElt.of rfl, HElt.of rfl, trivial⟩, rfl⟩)
    | ok S' =>
      rw [hc] at hi
      replace hi : ACalls _ _ _ _ _ _ := hi
      clear ih
      show ACalls _ _ _ _ _ _
      simp only [thH, thHr, thBx] at *
      refine ACalls.intro (n := 156) Try.func40 rfl rfl (by simp) (by rfl) ?_
      simp only [argFr]
      repeat (first | refine wk ?_ | refine s_field (hr := ?_))
      refine d_sliceF TY (by simp) rfl gOk_none rfl rfl rfl rfl rfl rfl rfl ?_
      repeat (first | refine wk ?_ | refine s_field (hr := ?_))
      refine d_appNew TY rfl rfl gOk_none rfl rfl rfl (ArgIs.own rfl rfl) (.inr ⟨⟨_, rfl⟩, .inr (by simp)⟩) rfl rfl rfl rfl rfl rfl rfl rfl (by simp; omega) (by simp; omega) ?_
      repeat (first | refine wk ?_ | refine s_field (hr := ?_))
      --@
      refine s_call [] (hA := hi) (hr := ?_)
      repeat (first | refine wk ?_ | refine s_field (hr := ?_))
      --@
      exact fin
  rw [if_neg hs]
  obtain ⟨sn, hsn⟩ : ∃ sn : Nat, g.rules[r].right[at_] = (sn : Int) := ⟨g.rules[r].right[at_].toNat, by omega⟩
  have hsl : sn < nl.length := by omega
  have hs0 : 0 ≤ g.rules[r].right[at_] := by omega
  have hgd : nl.getD g.rules[r].right[at_].toNat [] = nl[sn] := by rw [hsn, Int.toNat_natCast, List.getD_eq_getElem?_getD, List.getElem?_eq_getElem hsl]; rfl
  rw [hgd]
  have hts := hn.2.2 _ (List.getElem_mem hsl)
  have htl := hn.2.1 _ (List.getElem_mem hsl)
  have hnl64 := hn.1
  have hi1 := ih (at_ + 1) (h + 1) (right ++ [g.rules[r].right[at_]]) (l ++ [holeF h]) S (by omega) (by omega) (by simp only [List.length_append, List.length_singleton]; omega) (by omega) (by rw [fszs_append]; simp only [fszs, fsz]; omega) (NbL_snoc hnb (by refine ⟨⟨by omega, by omega⟩, trivial⟩)) hS
  replace hi1 := hi1.le (args := [.ptr 1000 0, I (r : Nat), I ((at_ + 1 : Nat) : Int), I ((h + 1 : Nat) : Int), .d (ints false (right ++ [g.rules[r].right[at_]])), .d (.sl false 3 (l.map (fragD false) ++ [.agg [iD 2, iD h, nilLt]]))]) ⟨.refl _, .refl _, .refl _, .refl _, .refl _, hole_vle l h, trivial⟩
  rw [er, show ((at_ + 1 : Nat) : Int) = (at_ : Int) + 1 by omega, show ((h + 1 : Nat) : Int) = (h : Int) + 1 by omega] at hi1
  cases hc1 : thR nl g.rules[r].left r (g.rules[r].right.drop (at_ + 1)) (h + 1) (right ++ [g.rules[r].right[at_]]) (l ++ [holeF h]) S with
  | error e =>
    rw [hc1] at hi1
    replace hi1 : APan _ _ _ _ _ _ := hi1
    clear ih
    show APan _ _ _ _ _ _
    simp only [thH, thHr, thBx] at *
    refine APan.intro (n := 156) Try.func40 rfl rfl (by simp) (by rfl) rfl ?_
    simp only [argFr]
    repeat (first | refine wk ?_ | refine s_field (hr := ?_))
    refine d_sliceF TY (by simp) rfl gOk_none rfl rfl rfl rfl rfl rfl rfl ?_
    repeat (first | refine wk ?_ | refine s_field (hr := ?_))
    refine d_appNew TY rfl rfl gOk_none rfl rfl rfl (ArgIs.own rfl rfl) (.inr ⟨⟨_, rfl⟩, .inr (by simp)⟩) rfl rfl rfl rfl rfl rfl rfl rfl (by simp; omega) (by simp; omega) ?_
    repeat (first | refine wk ?_ | refine s_field (hr := ?_))
    refine d_sliceF TY (by simp) rfl gOk_none rfl rfl rfl rfl rfl rfl rfl ?_
    repeat (first | refine wk ?_ | refine s_field (hr := ?_))
    refine d_appNew TY rfl rfl gOk_none rfl rfl rfl (ArgIs.own rfl rfl) (.inr ⟨⟨_, rfl⟩, .inr (by simp)⟩) rfl rfl rfl rfl rfl rfl rfl rfl (by simp; omega) (by simp; omega) ?_
    repeat (first | refine wk ?_ | refine s_field (hr := ?_))
    --@
    refine s_panCall [] [] [] (hpn := ?_) (hA := hi1)
    exact (fun fr' h' _ _ => ⟨rfl, ⟨HElt.of rfl, HElt.of rfl, HElt.of rfl, trivial⟩, rfl⟩)
  | ok S1 =>
  rw [hc1] at hi1
  replace hi1 : ACalls _ _ _ _ _ _ := hi1
  have hS1 := thR_good _ _ _ _ _ _ _ hc1 hS
  have hi2 := fun (x : Tree) (hx : x ∈ nl[sn]) (S : TS) (hS : S.Good) => by
    have h1 := ih (at_ + 1) h right (l ++ [asF x]) S (by omega) (by omega) (by omega) (by omega) (by rw [fszs_append]; simp only [fszs, asF_fsz]; have := (hts x hx).1; omega) (NbL_snoc hnb (hts x hx).2) hS
    rw [show fragsD false (l ++ [asF x]) = .sl false 3 (l.map (fragD false) ++ [fragA false (asF x)]) by simp [fragA_eq], show ((at_ + 1 : Nat) : Int) = (at_ : Int) + 1 by omega] at h1
    exact h1
  have hgl := fun (x : Tree) (S S' : TS) (h : thR nl g.rules[r].left r (g.rules[r].right.drop (at_ + 1)) h right (l ++ [asF x]) S = .ok S') (q : S.Good) => thR_good _ _ _ _ _ _ _ h q
  dsimp only
  clear ih hc1
  have hal2 := fun (x : Tree) (hx : x ∈ nl[sn]) => thinAll_sim (t := false) x (by have := (hts x hx).1; omega)
  clear hts
  cases hres : thL (fun t S => thR nl g.rules[r].left r (g.rules[r].right.drop (at_ + 1)) h right (l ++ [asF t]) S) nl[sn] S1 with
  | error e =>
    show APan _ _ _ _ _ _
    simp only [thH, thHr, thBx] at hi1 ⊢
    refine APan.intro (n := 156) Try.func40 rfl rfl (by simp) (by rfl) rfl ?_
    simp only [argFr]
    repeat (first | refine wk ?_ | refine s_field (hr := ?_))
    refine d_sliceF TY (by simp) rfl gOk_none rfl rfl rfl rfl rfl rfl rfl ?_
    repeat (first | refine wk ?_ | refine s_field (hr := ?_))
    refine d_appNew TY rfl rfl gOk_none rfl rfl rfl (ArgIs.own rfl rfl) (.inr ⟨⟨_, rfl⟩, .inr (by simp)⟩) rfl rfl rfl rfl rfl rfl rfl rfl (by simp; omega) (by simp; omega) ?_
    repeat (first | refine wk ?_ | refine s_field (hr := ?_))
    refine d_sliceF TY (by simp) rfl gOk_none rfl rfl rfl rfl rfl rfl rfl ?_
    repeat (first | refine wk ?_ | refine s_field (hr := ?_))
    refine d_appNew TY rfl rfl gOk_none rfl rfl rfl (ArgIs.own rfl rfl) (.inr ⟨⟨_, rfl⟩, .inr (by simp)⟩) rfl rfl rfl rfl rfl rfl rfl rfl (by simp; omega) (by simp; omega) ?_
    repeat (first | refine wk ?_ | refine s_field (hr := ?_))
    --@
    refine s_call [] (hA := hi1) (hr := ?_)
    repeat (first | refine wk ?_ | refine s_field (hr := ?_))
    --@
    rw [hsn]
    repeat (first | refine wk ?_ | refine s_field (hr := ?_))
    --@
    generalize nl[sn] = ts at *
    refine t_loop (X := Nat × TS) (fun y => y.1 ≤ ts.length ∧ y.2.Good ∧ thL (fun t S => thR nl g.rules[r].left r (g.rules[r].right.drop (at_ + 1)) h right (l ++ [asF t]) S) (ts.drop y.1) y.2 = .error e)
      (fun y => [(134, I y.1), (133, I ts.length), (132, .d (treesD false ts)), (0, .ptr 1000 0), (1, I r), (2, I at_), (3, I h), (4, .d (ints false right)), (5, .d (fragsD false l))])
      (fun y => thH t g nl y.2) (fun y => ts.length - y.1) (0, S1) ⟨Nat.zero_le _, hS1, hres⟩ ?_
    rintro ⟨i, S3⟩ ⟨j1, j2, j3⟩
    dsimp only at j1 j2 j3 ⊢
    --@
    by_cases hil : i < ts.length
    rotate_left
    · rw [show ts.drop i = [] from List.drop_of_length_le (by omega), thL] at j3
      cases j3
    rw [List.drop_eq_getElem_cons hil, thL] at j3
    have hx := hi2 ts[i] (List.getElem_mem hil) S3 j2
    have hax := hal2 ts[i] (List.getElem_mem hil)
    have hgx := hgl ts[i] S3
    clear hi1
    cases hc2 : thR nl g.rules[r].left r (g.rules[r].right.drop (at_ + 1)) h right (l ++ [asF ts[i]]) S3 with
    | error e2 =>
      rw [hc2] at j3 hx
      obtain rfl : e2 = e := by injection j3
      replace hx : APan _ _ _ _ _ _ := hx
      clear hi2 hal2 hgl hgx
      simp only [thH, thHr, thBx] at hx ⊢
      repeat (first | refine wk ?_ | refine s_field (hr := ?_))
      refine d_sliceF TY (by simp) rfl gOk_none rfl rfl rfl rfl rfl rfl rfl ?_
      repeat (first | refine wk ?_ | refine s_field (hr := ?_))
      --@
      refine s_call [] (hA := hax) (hr := ?_)
      repeat (first | refine wk ?_ | refine s_field (hr := ?_))
      --@
      refine d_appNew TY rfl rfl gOk_none rfl rfl rfl (ArgIs.own rfl rfl) (.inr ⟨⟨_, rfl⟩, .inr (by simp)⟩) rfl rfl rfl rfl rfl rfl rfl rfl (by simp; omega) (by simp; omega) ?_
      repeat (first | refine wk ?_ | refine s_field (hr := ?_))
      --@
      refine s_panCall [] [] [] (hpn := ?_) (hA := hx)
      exact (fun fr' h' _ _ => ⟨rfl, ⟨HElt.of rfl, HElt.of rfl, HElt.of rfl, trivial⟩, rfl⟩)
    | ok S4 =>
      rw [hc2] at j3 hx
      replace hx : ACalls _ _ _ _ _ _ := hx
      have hS4 := hgx S4 hc2 j2
      clear hi2 hal2 hgl hgx
      simp only [thH, thHr, thBx] at hx ⊢
      repeat (first | refine wk ?_ | refine s_field (hr := ?_))
      refine d_sliceF TY (by simp) rfl gOk_none rfl rfl rfl rfl rfl rfl rfl ?_
      repeat (first | refine wk ?_ | refine s_field (hr := ?_))
      --@
      refine s_call [] (hA := hax) (hr := ?_)
      repeat (first | refine wk ?_ | refine s_field (hr := ?_))
      --@
      refine d_appNew TY rfl rfl gOk_none rfl rfl rfl (ArgIs.own rfl rfl) (.inr ⟨⟨_, rfl⟩, .inr (by simp)⟩) rfl rfl rfl rfl rfl rfl rfl rfl (by simp; omega) (by simp; omega) ?_
      repeat (first | refine wk ?_ | refine s_field (hr := ?_))
      --@
      refine s_call [] (hA := hx) (hr := ?_)
      repeat (first | refine wk ?_ | refine s_field (hr := ?_))
      --@
      exact t_next (i + 1, S4) (a := ⟨hil, hS4, j3⟩) (b := by dsimp only; omega)
  | ok S2 =>
    show ACalls _ _ _ _ _ _
    simp only [thH, thHr, thBx] at hi1 ⊢
    refine ACalls.intro (n := 156) Try.func40 rfl rfl (by simp) (by rfl) ?_
    simp only [argFr]
    repeat (first | refine wk ?_ | refine s_field (hr := ?_))
    refine d_sliceF TY (by simp) rfl gOk_none rfl rfl rfl rfl rfl rfl rfl ?_
    repeat (first | refine wk ?_ | refine s_field (hr := ?_))
    refine d_appNew TY rfl rfl gOk_none rfl rfl rfl (ArgIs.own rfl rfl) (.inr ⟨⟨_, rfl⟩, .inr (by simp)⟩) rfl rfl rfl rfl rfl rfl rfl rfl (by simp; omega) (by simp; omega) ?_
    repeat (first | refine wk ?_ | refine s_field (hr := ?_))
    refine d_sliceF TY (by simp) rfl gOk_none rfl rfl rfl rfl rfl rfl rfl ?_
    repeat (first | refine wk ?_ | refine s_field (hr := ?_))
    refine d_appNew TY rfl rfl gOk_none rfl rfl rfl (ArgIs.own rfl rfl) (.inr ⟨⟨_, rfl⟩, .inr (by simp)⟩) rfl rfl rfl rfl rfl rfl rfl rfl (by simp; omega) (by simp; omega) ?_
    repeat (first | refine wk ?_ | refine s_field (hr := ?_))
    --@
    refine s_call [] (hA := hi1) (hr := ?_)
    repeat (first | refine wk ?_ | refine s_field (hr := ?_))
    --@
    rw [hsn]
    repeat (first | refine wk ?_ | refine s_field (hr := ?_))
    --@
    generalize nl[sn] = ts at *
    refine t_loop (X := Nat × TS) (fun y => y.1 ≤ ts.length ∧ y.2.Good ∧ thL (fun t S => thR nl g.rules[r].left r (g.rules[r].right.drop (at_ + 1)) h right (l ++ [asF t]) S) (ts.drop y.1) y.2 = .ok S2)
      (fun y => [(134, I y.1), (133, I ts.length), (132, .d (treesD false ts)), (0, .ptr 1000 0), (1, I r), (2, I at_), (3, I h), (4, .d (ints false right)), (5, .d (fragsD false l))])
      (fun y => thH t g nl y.2) (fun y => ts.length - y.1) (0, S1) ⟨Nat.zero_le _, hS1, hres⟩ ?_
    rintro ⟨i, S3⟩ ⟨j1, j2, j3⟩
    dsimp only at j1 j2 j3 ⊢
    --@
    by_cases hil : i < ts.length
    rotate_left
    · rw [show ts.drop i = [] from List.drop_of_length_le (by omega), thL] at j3
      cases j3
      simp only [thH, thHr, thBx] at *
      repeat (first | refine wk ?_ | refine s_field (hr := ?_))
      --@
      exact fin
    rw [List.drop_eq_getElem_cons hil, thL] at j3
    have hx := hi2 ts[i] (List.getElem_mem hil) S3 j2
    have hax := hal2 ts[i] (List.getElem_mem hil)
    have hgx := hgl ts[i] S3
    clear hi1
    cases hc2 : thR nl g.rules[r].left r (g.rules[r].right.drop (at_ + 1)) h right (l ++ [asF ts[i]]) S3 with
    | error e2 =>
      rw [hc2] at j3
      cases j3
    | ok S4 =>
      rw [hc2] at j3 hx
      replace hx : ACalls _ _ _ _ _ _ := hx
      have hS4 := hgx S4 hc2 j2
      clear hi2 hal2 hgl hgx
      simp only [thH, thHr, thBx] at hx ⊢
      repeat (first | refine wk ?_ | refine s_field (hr := ?_))
      refine d_sliceF TY (by simp) rfl gOk_none rfl rfl rfl rfl rfl rfl rfl ?_
      repeat (first | refine wk ?_ | refine s_field (hr := ?_))
      --@
      refine s_call [] (hA := hax) (hr := ?_)
      repeat (first | refine wk ?_ | refine s_field (hr := ?_))
      --@
      refine d_appNew TY rfl rfl gOk_none rfl rfl rfl (ArgIs.own rfl rfl) (.inr ⟨⟨_, rfl⟩, .inr (by simp)⟩) rfl rfl rfl rfl rfl rfl rfl rfl (by simp; omega) (by simp; omega) ?_
      repeat (first | refine wk ?_ | refine s_field (hr := ?_))
      --@
      refine s_call [] (hA := hx) (hr := ?_)
      repeat (first | refine wk ?_ | refine s_field (hr := ?_))
      --@
      exact t_next (i + 1, S4) (a := ⟨hil, hS4, j3⟩) (b := by dsimp only; omega)
end
end Go.Proofs.Yticnpbopelgmiaa
