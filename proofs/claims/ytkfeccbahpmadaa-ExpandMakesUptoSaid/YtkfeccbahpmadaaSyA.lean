/-
  Sim: the parser: sign, next, want, part, fail. Sim: a call that panics, and the region's rest. Sim: the parser: want, part, group, item, row, alt. Sim: the parser: row. Sim: the parser: alt.
-/
import Derived.Test.YtkfeccbahpmadaaSynP
import Derived.Test.YtkfeccbahpmadaaS6
import Derived.Test.YtkfeccbahpmadaaS5
set_option linter.unusedVariables false
set_option linter.unusedSimpArgs false
set_option linter.unusedSectionVars false
namespace Go.Proofs.Ytkfeccbahpmadaa
open Go.RowKit
set_option maxRecDepth 100000
-- SimX

abbrev prB (en : Int) (l : List Tk) (o p : Int) : Ob := .box 138 [.d (tksD l), I en, I o, I p]
abbrev prG (en : Int) (l : List Tk) (o p : Int) : Hp := [(1000, prB en l o p)]
abbrev jkB : Ob := .box 138 [.junk, .junk, .junk, .junk]
abbrev jkH : Hp := [(1000, jkB)]
def goneV (f : Fault) : Value := .iface 134 (.agg #[.int .i64 f.code, .int .i64 f.at_])
theorem jk_le {en : Int} {l : List Tk} {o p : Int} {h : Hp} {k : Nat} (hk : hget h k = some (prB en l o p)) : HElt h k jkB := ⟨_, hk, .box ⟨VLe.junkD _, VLe.junkD _, VLe.junkD _, VLe.junkD _, trivial⟩⟩
theorem fail_pan {en : Int} {s : PS} {code : Int} (hl : s.l.length ≤ 100000000) : APan Try.prog 103 [.ptr 1000 0, I code] (prG en s.l s.opn s.parts) (goneV (s.gone en code)) jkH := by
  refine APan.intro (n := 28) Try.func103 rfl rfl (by simp) (by rfl) rfl ?_
  simp only [argFr]
  obtain ⟨l, opn, parts⟩ := s
  dsimp only at hl ⊢
  cases l with
  | nil =>
    by_cases h3 : code = 3
    · subst h3
      repeat (first | refine wk ?_ | refine s_field (hr := ?_))
      (refine d_iface rfl gOk_none rfl rfl rfl Try.underlying134 rfl ?_; refine d_panic [(1000, some (prB en _ opn parts))] 999 gOk_none rfl (fun p hp => by rw [List.mem_singleton.1 hp]; rfl) (fun fr' h' ho => ⟨rfl, ⟨jk_le (ho _ (List.mem_singleton.2 rfl)), trivial⟩, rfl⟩) ?_; exact dops_end (Nev.obj 999 rfl))
    · rw [show PS.gone en code ⟨[], opn, parts⟩ = ⟨code, en⟩ by simp [PS.gone, h3]]
      repeat (first | refine wk ?_ | refine s_field (hr := ?_))
      (refine d_iface rfl gOk_none rfl rfl rfl Try.underlying134 rfl ?_; refine d_panic [(1000, some (prB en _ opn parts))] 999 gOk_none rfl (fun p hp => by rw [List.mem_singleton.1 hp]; rfl) (fun fr' h' ho => ⟨rfl, ⟨jk_le (ho _ (List.mem_singleton.2 rfl)), trivial⟩, rfl⟩) ?_; exact dops_end (Nev.obj 999 rfl))
  | cons t r =>
    repeat (first | refine wk ?_ | refine s_field (hr := ?_))
    (refine d_iface rfl gOk_none rfl rfl rfl Try.underlying134 rfl ?_; refine d_panic [(1000, some (prB en _ opn parts))] 999 gOk_none rfl (fun p hp => by rw [List.mem_singleton.1 hp]; rfl) (fun fr' h' ho => ⟨rfl, ⟨jk_le (ho _ (List.mem_singleton.2 rfl)), trivial⟩, rfl⟩) ?_; exact dops_end (Nev.obj 999 rfl))
theorem sign_sim {en : Int} {s : PS} {x : ByteArray} (hl : s.l.length ≤ 100000000) : ACalls Try.prog 202 [.ptr 1000 0, Str x] (prG en s.l s.opn s.parts) (B (s.sign x)) (prG en s.l s.opn s.parts) := by
  refine ACalls.intro (n := 32) Try.func202 rfl rfl (by simp) (by rfl) ?_
  simp only [argFr]
  obtain ⟨l, opn, parts⟩ := s
  dsimp only at hl ⊢
  cases l with
  | nil =>
    rw [show PS.sign ⟨[], opn, parts⟩ x = false from rfl]
    repeat (first | refine wk ?_ | refine s_field (hr := ?_))
    exact fin
  | cons t r =>
    by_cases h3 : t.kind = 3
    · rw [show PS.sign ⟨t :: r, opn, parts⟩ x = decide (t.text = x) by simp [PS.sign, h3]]
      repeat (first | refine wk ?_ | refine s_field (hr := ?_))
      exact fin
    · rw [show PS.sign ⟨t :: r, opn, parts⟩ x = false by simp [PS.sign, h3]]
      repeat (first | refine wk ?_ | refine s_field (hr := ?_))
      exact fin
theorem next_sim {en : Int} {s : PS} {t : Tk} {r : List Tk} (he : s.l = t :: r) (hl : s.l.length ≤ 100000000) : ACalls Try.prog 161 [.ptr 1000 0] (prG en s.l s.opn s.parts) (.d (tkD t)) (prG en s.next.l s.next.opn s.next.parts) := by
  refine ACalls.intro (n := 19) Try.func161 rfl rfl (by simp) (by rfl) ?_
  simp only [argFr]
  obtain ⟨l, opn, parts⟩ := s
  dsimp only at he hl
  subst he
  simp only [PS.next, List.tail_cons]
  have e : List.drop 1 (List.take ((t :: r).map tkD).length ((t :: r).map tkD)) = r.map tkD := by rw [List.take_length]; rfl
  repeat (first | refine wk ?_ | refine s_field (hr := ?_))
  --@
  rw [e, List.take_length]
  exact fin
end Go.Proofs.Ytkfeccbahpmadaa
namespace Go.Proofs.Ytkfeccbahpmadaa
open Go.RowKit

def nevLog (d : Nat) : List Oper → List Rec → List Rec
  | [], log => log
  | o :: rest, log => nevLog d rest (⟨[d], o.dst.toList, [], []⟩ :: log)
theorem dops_nev {P : Program} {n : Nat} {dr : Bool} {ops : Array Oper} {K : Exit → Fr → Hp → Prop} {h : Hp} (d : Nat) : ∀ (rest : List Oper) (log : List Rec) (fr : Fr), fget fr d = never → (∀ fr', fget fr' d = never → K .normal fr' h) → (dr = true → orderOk ops.toList (nevLog d rest log).reverse = true) → dops P n dr ops rest log K fr h
  | [], log, fr, hf, hK, ho => ⟨ho, hK fr hf⟩
  | o :: rest, log, fr, hf, hK, ho => by
    refine dops_cons (ins := [(d, never)]) (objs := []) (v := never) (upd := []) (fun G E fr' h' a w K' Q _ hn C hi _ _ => ((C.never (hi (d, never) (by simp))).elim)) (by simpa using hf) (by simp) ?_
    refine dops_nev d rest _ _ ?_ hK ho
    cases hd : o.dst with
    | none => simpa [dput, hd] using hf
    | some x =>
      show fget ((x, never) :: fr) d = never
      by_cases e : x = d
      · subst e; rw [fget_same]
      · rw [fget_other _ _ e]; exact hf
theorem s_panCall {ty : TypeId} {pos : String} {after : Array Edge} {g : Option (Nat × Bool)} {P : Program} {n : Nat} {dr : Bool} {ops : Array Oper} {rest : List Oper} {log : List Rec} {K : Exit → Fr → Hp → Prop} {fr : Fr} {h : Hp} {hd' : Hp} {d : Tmp} {u0 : Value} {fop : Operand} {xs : List Operand} {args : Array Operand} {ats : Array TypeId} {vs caps cargs : List V} {f : FuncId} {hc hc' : Hp} (φ : List (Nat × Nat)) {objs : List (Nat × Option Ob)} {fz : Hp} {W : List Nat} (exf : List (Nat × V)) (extra : List (Nat × Option Ob)) (hg : gOk ops fr g := by first | exact gOk_none | exact gOk_some rfl rfl rfl | (apply gOk_some rfl rfl; (first | assumption | exact rfl | exact decide_eq_true rfl | exact congrArg not (decide_eq_true rfl) | ((try simp only [decide_eq_true_eq, decide_eq_false_iff_not, Bool.not_true, Bool.not_false, Bool.not_eq_true', Bool.not_eq_false', Bool.not_not, Int.not_lt, Int.not_le, Bool.and_eq_true, Bool.or_eq_true, Bool.and_eq_false_iff, Bool.or_eq_false_iff]); first | assumption | omega)))) (hd : Nat.blt d n = true := by exact rfl) (hxs : args.toList = xs := by exact rfl) (hf : oev fr fop = .fn (.func f) [] caps := by exact rfl) (hx : oevs fr xs vs := by repeat' (first | exact oevs_nil | (apply oevs_cons; conv => lhs; whnf))) (h1 : xs.all oneOpd = true := by exact rfl) (ha : CArgs φ h (vs ++ caps) cargs objs fz W := by repeat' (first | exact CArgs.nil | (apply CArgs.cons) | exact CArg.same rfl | exact CArg.vw rfl (by first | exact rfl | assumption | (simp only [List.length_map, List.length_append, List.length_cons, List.length_nil, List.length_replicate, List.length_set, List.length_take, List.length_drop]; done) | ((try simp only [List.length_map, List.length_append, List.length_cons, List.length_nil, List.length_replicate, List.length_set, List.length_take, List.length_drop]); first | assumption | omega)) (by first | exact views_ints _ | exact views_bools _ | exact views_strs _ | exact views_more (.rules _ _) | exact views_more (.trees _ _) | exact views_more (.tree1 _ _) | exact views_more (.frags _ _) | exact views_more (.frag1 _ _) | exact views_fragss _ _ | exact views_intss _ _ | exact views_exprs _ _ | exact views_expr1 _ _ | exact views_defs _ _ | exact views_toks _ | exact views_aux _ _ | exact rfl) | exact CArg.emb (by repeat' (first | exact EmbV.one (.d _) | exact EmbV.one (.own rfl (by first | exact rfl | assumption | (simp only [List.length_map, List.length_append, List.length_cons, List.length_nil, List.length_replicate, List.length_set, List.length_take, List.length_drop]; done) | ((try simp only [List.length_map, List.length_append, List.length_cons, List.length_nil, List.length_replicate, List.length_set, List.length_take, List.length_drop]); first | assumption | omega))) | exact EmbV.one (.frz rfl (by first | exact rfl | assumption | (simp only [List.length_map, List.length_append, List.length_cons, List.length_nil, List.length_replicate, List.length_set, List.length_take, List.length_drop]; done) | ((try simp only [List.length_map, List.length_append, List.length_cons, List.length_nil, List.length_replicate, List.length_set, List.length_take, List.length_drop]); first | assumption | omega))) | exact EmbV.one (.full _ _ _) | apply EmbV.agg | exact Embs.nil | apply Embs.cons | exact Emb.d _ | exact Emb.own rfl (by first | exact rfl | assumption | (simp only [List.length_map, List.length_append, List.length_cons, List.length_nil, List.length_replicate, List.length_set, List.length_take, List.length_drop]; done) | ((try simp only [List.length_map, List.length_append, List.length_cons, List.length_nil, List.length_replicate, List.length_set, List.length_take, List.length_drop]); first | assumption | omega)) | exact Emb.frz rfl (by first | exact rfl | assumption | (simp only [List.length_map, List.length_append, List.length_cons, List.length_nil, List.length_replicate, List.length_set, List.length_take, List.length_drop]; done) | ((try simp only [List.length_map, List.length_append, List.length_cons, List.length_nil, List.length_replicate, List.length_set, List.length_take, List.length_drop]); first | assumption | omega)) | exact Emb.full _ _ _)))) (hlink : LinkH h φ hc := by repeat' (first | exact LinkH.nil | (apply LinkH.cons; exact rfl))) (hnew : NewH h (newKeys φ hc hc') := by first | exact True.intro | exact ⟨rfl, True.intro⟩ | exact ⟨rfl, rfl, True.intro⟩ | exact ⟨rfl, rfl, rfl, True.intro⟩) (hok : callOk φ hc hc' fz W = true := by exact rfl) (hin : (hpIn hc hc && V.insides hc cargs) = true := by exact rfl) (hcl : W = [] ∨ HpClean hc' := by first | exact Or.inl rfl | exact Or.inr ⟨⟨trivial, trivial, trivial, trivial, trivial⟩, trivial⟩ | exact Or.inr trivial) (hh0 : Hp.ren φ hc' = hd' := by first | (conv => lhs; simp only [dput, V.ren, V.rens, Ob.ren, Hp.ren, renK, Nat.reduceBEq, cond_true, cond_false, List.cons_append, List.nil_append, List.append_nil]) | exact rfl) (hex : ObjsOk h extra := by first | (intro p hp; exact absurd hp List.not_mem_nil) | (intro p hp; rw [List.mem_singleton.1 hp]; exact rfl) | (intro p hp; rcases List.mem_cons.1 hp with rfl | hp; exact rfl; rw [List.mem_singleton.1 hp]; exact rfl)) (hexf : ∀ p ∈ exf, fget fr p.1 = p.2 := by first | (intro p hp; exact absurd hp List.not_mem_nil) | (intro p hp; rw [List.mem_singleton.1 hp]; exact rfl) | (intro p hp; rcases List.mem_cons.1 hp with rfl | hp; exact rfl; rw [List.mem_singleton.1 hp]; exact rfl)) (hpn : ∀ fr' h', (∀ p ∈ exf, fget fr' p.1 = p.2) → ObjsOk h' extra → K (.panic [{ v := u0, recovered := false }]) fr' ((hd' ++ fz) ++ h') := by intro fr' h' _ _; first | exact ⟨rfl, ⟨HElt.of rfl, trivial⟩, rfl⟩ | exact Or.inl ⟨rfl, ⟨HElt.of rfl, trivial⟩, rfl⟩) (hA : APan P f cargs hc u0 hc') (hK : ∀ fr', fget fr' d = never → K .normal fr' h := by intro fr' hf; first | exact aw_nev (Nev.slot _ hf) | exact Nev.slot _ hf | exact Or.inr (Nev.slot _ hf)) (ho : dr = true → orderOk ops.toList (nevLog d rest (⟨(gIns ops g ++ (insOf fop (.fn (.func f) [] caps) ++ (insAll xs vs ++ exf))).map Prod.fst, [d], (callObjs φ hc hc' objs ++ extra).map Prod.fst, []⟩ :: log)).reverse = true := by first | (intro hdr; cases hdr; done) | (intro _; kernel_rfl)) :dops P n dr ops (⟨some d, .call { callee := .value fop, args := args, argTypes := ats }, ty, pos, after, g⟩ :: rest) log K fr h := d_panCall exf extra φ hg hd hxs hf hx h1 hA ha hlink hnew hok hin hcl (by rw [hh0]) hex hexf hpn (dops_nev d rest _ _ (fget_same _ _ _) hK ho)
theorem s_panCallf {ty : TypeId} {pos : String} {after : Array Edge} {g : Option (Nat × Bool)} {P : Program} {n : Nat} {dr : Bool} {ops : Array Oper} {rest : List Oper} {log : List Rec} {K : Exit → Fr → Hp → Prop} {fr : Fr} {h : Hp} {hd' : Hp} {d : Tmp} {u0 : Value} {fop : Operand} {xs : List Operand} {args : Array Operand} {ats : Array TypeId} {vs caps cargs : List V} {f : FuncId} {hc hc' : Hp} (φ : List (Nat × Nat)) {objs : List (Nat × Option Ob)} {fz : Hp} {W : List Nat} (exf : List (Nat × V)) (extra : List (Nat × Option Ob)) (hg : gOk ops fr g := by first | exact gOk_none | exact gOk_some rfl rfl rfl | (apply gOk_some rfl rfl; (first | assumption | exact rfl | exact decide_eq_true rfl | exact congrArg not (decide_eq_true rfl) | ((try simp only [decide_eq_true_eq, decide_eq_false_iff_not, Bool.not_true, Bool.not_false, Bool.not_eq_true', Bool.not_eq_false', Bool.not_not, Int.not_lt, Int.not_le, Bool.and_eq_true, Bool.or_eq_true, Bool.and_eq_false_iff, Bool.or_eq_false_iff]); first | assumption | omega)))) (hd : Nat.blt d n = true := by exact rfl) (hxs : args.toList = xs := by exact rfl) (hf : oev fr fop = .fn (.func f) [] caps := by exact rfl) (hx : oevs fr xs vs := by repeat' (first | exact oevs_nil | (apply oevs_cons; conv => lhs; whnf))) (h1 : xs.all oneOpd = true := by exact rfl) (ha : CArgs φ h (vs ++ caps) cargs objs fz W := by repeat' (first | exact CArgs.nil | (apply CArgs.cons) | exact CArg.same rfl | exact CArg.emb (by repeat' (first | exact EmbV.one (.d _) | exact EmbV.one (.own rfl (by first | exact rfl | assumption | (simp only [List.length_map, List.length_append, List.length_cons, List.length_nil, List.length_replicate, List.length_set, List.length_take, List.length_drop]; done) | ((try simp only [List.length_map, List.length_append, List.length_cons, List.length_nil, List.length_replicate, List.length_set, List.length_take, List.length_drop]); first | assumption | omega))) | exact EmbV.one (.frz rfl (by first | exact rfl | assumption | (simp only [List.length_map, List.length_append, List.length_cons, List.length_nil, List.length_replicate, List.length_set, List.length_take, List.length_drop]; done) | ((try simp only [List.length_map, List.length_append, List.length_cons, List.length_nil, List.length_replicate, List.length_set, List.length_take, List.length_drop]); first | assumption | omega))) | exact EmbV.one (.full _ _ _) | apply EmbV.agg | exact Embs.nil | apply Embs.cons | exact Emb.d _ | exact Emb.own rfl (by first | exact rfl | assumption | (simp only [List.length_map, List.length_append, List.length_cons, List.length_nil, List.length_replicate, List.length_set, List.length_take, List.length_drop]; done) | ((try simp only [List.length_map, List.length_append, List.length_cons, List.length_nil, List.length_replicate, List.length_set, List.length_take, List.length_drop]); first | assumption | omega)) | exact Emb.frz rfl (by first | exact rfl | assumption | (simp only [List.length_map, List.length_append, List.length_cons, List.length_nil, List.length_replicate, List.length_set, List.length_take, List.length_drop]; done) | ((try simp only [List.length_map, List.length_append, List.length_cons, List.length_nil, List.length_replicate, List.length_set, List.length_take, List.length_drop]); first | assumption | omega)) | exact Emb.full _ _ _)) | exact CArg.vw rfl (by first | exact rfl | assumption | (simp only [List.length_map, List.length_append, List.length_cons, List.length_nil, List.length_replicate, List.length_set, List.length_take, List.length_drop]; done) | ((try simp only [List.length_map, List.length_append, List.length_cons, List.length_nil, List.length_replicate, List.length_set, List.length_take, List.length_drop]); first | assumption | omega)) (by first | exact views_ints _ | exact views_bools _ | exact views_strs _ | exact views_more (.rules _ _) | exact views_more (.trees _ _) | exact views_more (.tree1 _ _) | exact views_more (.frags _ _) | exact views_more (.frag1 _ _) | exact views_fragss _ _ | exact views_intss _ _ | exact views_exprs _ _ | exact views_expr1 _ _ | exact views_defs _ _ | exact views_toks _ | exact views_aux _ _ | exact rfl))) (hlink : LinkH h φ hc := by repeat' (first | exact LinkH.nil | (apply LinkH.cons; exact rfl))) (hnew : NewH h (newKeys φ hc hc') := by first | exact True.intro | exact ⟨rfl, True.intro⟩ | exact ⟨rfl, rfl, True.intro⟩ | exact ⟨rfl, rfl, rfl, True.intro⟩) (hok : callOk φ hc hc' fz W = true := by exact rfl) (hin : (hpIn hc hc && V.insides hc cargs) = true := by exact rfl) (hcl : W = [] ∨ HpClean hc' := by first | exact Or.inl rfl | exact Or.inr ⟨⟨trivial, trivial, trivial, trivial, trivial⟩, trivial⟩ | exact Or.inr trivial) (hh0 : Hp.ren φ hc' = hd' := by first | (conv => lhs; simp only [dput, V.ren, V.rens, Ob.ren, Hp.ren, renK, Nat.reduceBEq, cond_true, cond_false, List.cons_append, List.nil_append, List.append_nil]) | exact rfl) (hex : ObjsOk h extra := by first | (intro p hp; exact absurd hp List.not_mem_nil) | (intro p hp; rw [List.mem_singleton.1 hp]; exact rfl) | (intro p hp; rcases List.mem_cons.1 hp with rfl | hp; exact rfl; rw [List.mem_singleton.1 hp]; exact rfl)) (hexf : ∀ p ∈ exf, fget fr p.1 = p.2 := by first | (intro p hp; exact absurd hp List.not_mem_nil) | (intro p hp; rw [List.mem_singleton.1 hp]; exact rfl) | (intro p hp; rcases List.mem_cons.1 hp with rfl | hp; exact rfl; rw [List.mem_singleton.1 hp]; exact rfl)) (hpn : ∀ fr' h', (∀ p ∈ exf, fget fr' p.1 = p.2) → ObjsOk h' extra → K (.panic [{ v := u0, recovered := false }]) fr' ((hd' ++ fz) ++ h') := by intro fr' h' _ _; first | exact ⟨rfl, ⟨HElt.of rfl, trivial⟩, rfl⟩ | exact Or.inl ⟨rfl, ⟨HElt.of rfl, trivial⟩, rfl⟩) (hA : APan P f cargs hc u0 hc') (hK : ∀ fr', fget fr' d = never → K .normal fr' h := by intro fr' hf; first | exact aw_nev (Nev.slot _ hf) | exact Nev.slot _ hf | exact Or.inr (Nev.slot _ hf)) (ho : dr = true → orderOk ops.toList (nevLog d rest (⟨(gIns ops g ++ (insOf fop (.fn (.func f) [] caps) ++ (insAll xs vs ++ exf))).map Prod.fst, [d], (callObjs φ hc hc' objs ++ extra).map Prod.fst, []⟩ :: log)).reverse = true := by first | (intro hdr; cases hdr; done) | (intro _; kernel_rfl)) :dops P n dr ops (⟨some d, .call { callee := .value fop, args := args, argTypes := ats }, ty, pos, after, g⟩ :: rest) log K fr h := d_panCall exf extra φ hg hd hxs hf hx h1 hA ha hlink hnew hok hin hcl (by rw [hh0]) hex hexf hpn (dops_nev d rest _ _ (fget_same _ _ _) hK ho)
/-- An operation that asks a slot that nothing holds. -/
theorem d_nev1 {P : Program} {n : Nat} {dr : Bool} {ops : Array Oper} {o : Oper} {rest : List Oper} {log : List Rec} {K : Exit → Fr → Hp → Prop} {fr : Fr} {h : Hp} (d : Nat) (hf : fget fr d = never) (hr : dops P n dr ops rest (⟨[d], o.dst.toList, [], []⟩ :: log) K (dput o.dst never fr) h) : dops P n dr ops (o :: rest) log K fr h :=
  dops_cons (ins := [(d, never)]) (objs := []) (v := never) (upd := []) (fun G E fr' h' a w K' Q _ hn C hi _ _ => ((C.never (hi (d, never) (by simp))).elim)) (by simpa using hf) (by simp) hr
theorem s_panCallR {ty : TypeId} {pos : String} {after : Array Edge} {g : Option (Nat × Bool)} {P : Program} {n : Nat} {dr : Bool} {ops : Array Oper} {rest : List Oper} {log : List Rec} {K : Exit → Fr → Hp → Prop} {fr : Fr} {h : Hp} {hd' : Hp} {d : Tmp} {u0 : Value} {fop : Operand} {xs : List Operand} {args : Array Operand} {ats : Array TypeId} {vs caps cargs : List V} {f : FuncId} {hc hc' : Hp} (φ : List (Nat × Nat)) {objs : List (Nat × Option Ob)} {fz : Hp} {W : List Nat} (exf : List (Nat × V)) (extra : List (Nat × Option Ob)) (hg : gOk ops fr g := by first | exact gOk_none | exact gOk_some rfl rfl rfl | (apply gOk_some rfl rfl; (first | assumption | exact rfl | exact decide_eq_true rfl | exact congrArg not (decide_eq_true rfl) | ((try simp only [decide_eq_true_eq, decide_eq_false_iff_not, Bool.not_true, Bool.not_false, Bool.not_eq_true', Bool.not_eq_false', Bool.not_not, Int.not_lt, Int.not_le, Bool.and_eq_true, Bool.or_eq_true, Bool.and_eq_false_iff, Bool.or_eq_false_iff]); first | assumption | omega)))) (hd : Nat.blt d n = true := by exact rfl) (hxs : args.toList = xs := by exact rfl) (hf : oev fr fop = .fn (.func f) [] caps := by exact rfl) (hx : oevs fr xs vs := by repeat' (first | exact oevs_nil | (apply oevs_cons; conv => lhs; whnf))) (h1 : xs.all oneOpd = true := by exact rfl) (ha : CArgs φ h (vs ++ caps) cargs objs fz W := by repeat' (first | exact CArgs.nil | (apply CArgs.cons) | exact CArg.same rfl | exact CArg.vw rfl (by first | exact rfl | assumption | (simp only [List.length_map, List.length_append, List.length_cons, List.length_nil, List.length_replicate, List.length_set, List.length_take, List.length_drop]; done) | ((try simp only [List.length_map, List.length_append, List.length_cons, List.length_nil, List.length_replicate, List.length_set, List.length_take, List.length_drop]); first | assumption | omega)) (by first | exact views_ints _ | exact views_bools _ | exact views_strs _ | exact views_more (.rules _ _) | exact views_more (.trees _ _) | exact views_more (.tree1 _ _) | exact views_more (.frags _ _) | exact views_more (.frag1 _ _) | exact views_fragss _ _ | exact views_intss _ _ | exact views_exprs _ _ | exact views_expr1 _ _ | exact views_defs _ _ | exact views_toks _ | exact views_aux _ _ | exact rfl) | exact CArg.emb (by repeat' (first | exact EmbV.one (.d _) | exact EmbV.one (.own rfl (by first | exact rfl | assumption | (simp only [List.length_map, List.length_append, List.length_cons, List.length_nil, List.length_replicate, List.length_set, List.length_take, List.length_drop]; done) | ((try simp only [List.length_map, List.length_append, List.length_cons, List.length_nil, List.length_replicate, List.length_set, List.length_take, List.length_drop]); first | assumption | omega))) | exact EmbV.one (.frz rfl (by first | exact rfl | assumption | (simp only [List.length_map, List.length_append, List.length_cons, List.length_nil, List.length_replicate, List.length_set, List.length_take, List.length_drop]; done) | ((try simp only [List.length_map, List.length_append, List.length_cons, List.length_nil, List.length_replicate, List.length_set, List.length_take, List.length_drop]); first | assumption | omega))) | exact EmbV.one (.full _ _ _) | apply EmbV.agg | exact Embs.nil | apply Embs.cons | exact Emb.d _ | exact Emb.own rfl (by first | exact rfl | assumption | (simp only [List.length_map, List.length_append, List.length_cons, List.length_nil, List.length_replicate, List.length_set, List.length_take, List.length_drop]; done) | ((try simp only [List.length_map, List.length_append, List.length_cons, List.length_nil, List.length_replicate, List.length_set, List.length_take, List.length_drop]); first | assumption | omega)) | exact Emb.frz rfl (by first | exact rfl | assumption | (simp only [List.length_map, List.length_append, List.length_cons, List.length_nil, List.length_replicate, List.length_set, List.length_take, List.length_drop]; done) | ((try simp only [List.length_map, List.length_append, List.length_cons, List.length_nil, List.length_replicate, List.length_set, List.length_take, List.length_drop]); first | assumption | omega)) | exact Emb.full _ _ _)))) (hlink : LinkH h φ hc := by repeat' (first | exact LinkH.nil | (apply LinkH.cons; exact rfl))) (hnew : NewH h (newKeys φ hc hc') := by first | exact True.intro | exact ⟨rfl, True.intro⟩ | exact ⟨rfl, rfl, True.intro⟩ | exact ⟨rfl, rfl, rfl, True.intro⟩) (hok : callOk φ hc hc' fz W = true := by exact rfl) (hin : (hpIn hc hc && V.insides hc cargs) = true := by exact rfl) (hcl : W = [] ∨ HpClean hc' := by first | exact Or.inl rfl | exact Or.inr ⟨⟨trivial, trivial, trivial, trivial, trivial⟩, trivial⟩ | exact Or.inr trivial) (hh0 : Hp.ren φ hc' = hd' := by first | (conv => lhs; simp only [dput, V.ren, V.rens, Ob.ren, Hp.ren, renK, Nat.reduceBEq, cond_true, cond_false, List.cons_append, List.nil_append, List.append_nil]) | exact rfl) (hex : ObjsOk h extra := by first | (intro p hp; exact absurd hp List.not_mem_nil) | (intro p hp; rw [List.mem_singleton.1 hp]; exact rfl) | (intro p hp; rcases List.mem_cons.1 hp with rfl | hp; exact rfl; rw [List.mem_singleton.1 hp]; exact rfl)) (hexf : ∀ p ∈ exf, fget fr p.1 = p.2 := by first | (intro p hp; exact absurd hp List.not_mem_nil) | (intro p hp; rw [List.mem_singleton.1 hp]; exact rfl) | (intro p hp; rcases List.mem_cons.1 hp with rfl | hp; exact rfl; rw [List.mem_singleton.1 hp]; exact rfl)) (hpn : ∀ fr' h', (∀ p ∈ exf, fget fr' p.1 = p.2) → ObjsOk h' extra → K (.panic [{ v := u0, recovered := false }]) fr' ((hd' ++ fz) ++ h') := by intro fr' h' _ _; first | exact ⟨rfl, ⟨HElt.of rfl, trivial⟩, rfl⟩ | exact Or.inl ⟨rfl, ⟨HElt.of rfl, trivial⟩, rfl⟩) (hA : APan P f cargs hc u0 hc') (hr : dops P n dr ops rest (⟨(gIns ops g ++ (insOf fop (.fn (.func f) [] caps) ++ (insAll xs vs ++ exf))).map Prod.fst, [d], (callObjs φ hc hc' objs ++ extra).map Prod.fst, []⟩ :: log) K ((d, never) :: fr) h) :dops P n dr ops (⟨some d, .call { callee := .value fop, args := args, argTypes := ats }, ty, pos, after, g⟩ :: rest) log K fr h := d_panCall exf extra φ hg hd hxs hf hx h1 hA ha hlink hnew hok hin hcl (by rw [hh0]) hex hexf hpn hr
end Go.Proofs.Ytkfeccbahpmadaa
namespace Go.Proofs.Ytkfeccbahpmadaa
open Go.RowKit
set_option maxRecDepth 100000
-- SimX

/-- What a parser's function does: it returns, or it gives up. -/
def Does (f : FuncId) (args : List V) (en : Int) (s : PS) : Except Fault (V × PS) → Prop
  | .ok (v, s') => ACalls Try.prog f args (prG en s.l s.opn s.parts) v (prG en s'.l s'.opn s'.parts)
  | .error e => APan Try.prog f args (prG en s.l s.opn s.parts) (goneV e) jkH
theorem want_sim {en : Int} {s : PS} {x : ByteArray} (hl : s.l.length ≤ 100000000) : Does 162 [.ptr 1000 0, Str x] en s ((s.want en x).map fun s' => (.tup [], s')) := by
  unfold PS.want
  have hs := sign_sim (en := en) (s := s) (x := x) hl
  cases hc : s.sign x with
  | true =>
    rw [if_pos rfl]
    rw [hc] at hs
    obtain ⟨t, r, e, _⟩ := PS.sign_cons hc
    have hn := next_sim (en := en) e hl
    show ACalls _ _ _ _ _ _
    refine ACalls.intro (n := 12) Try.func162 rfl rfl (by simp) (by rfl) ?_
    simp only [argFr]
    repeat (first | refine wk ?_ | refine s_field (hr := ?_))
    refine s_call [] (hA := hs) (hr := ?_)
    repeat (first | refine wk ?_ | refine s_field (hr := ?_))
    refine s_call [] (hA := hn) (hr := ?_)
    repeat (first | refine wk ?_ | refine s_field (hr := ?_))
    exact fin
  | false =>
    rw [if_neg (by decide)]
    rw [hc] at hs
    have hf := fail_pan (en := en) (s := s) (code := 3) hl
    show APan _ _ _ _ _ _
    refine APan.intro (n := 12) Try.func162 rfl rfl (by simp) (by rfl) rfl ?_
    simp only [argFr]
    repeat (first | refine wk ?_ | refine s_field (hr := ?_))
    refine s_call [] (hA := hs) (hr := ?_)
    repeat (first | refine wk ?_ | refine s_field (hr := ?_))
    --@
    refine s_panCall [] [] [] (hA := hf)
theorem part_sim {en : Int} {s : PS} (g : s.Good) (hl : s.l.length ≤ 100000000) : Does 204 [.ptr 1000 0] en s ((s.part en).map fun s' => (.tup [], s')) := by
  obtain ⟨_, _, g3, g4⟩ := g
  unfold PS.part
  by_cases hp : s.parts = 60
  · rw [if_pos hp]
    have hf := fail_pan (en := en) (s := s) (code := 6) hl
    show APan _ _ _ _ _ _
    refine APan.intro (n := 16) Try.func204 rfl rfl (by simp) (by rfl) rfl ?_
    simp only [argFr]
    repeat (first | refine wk ?_ | refine s_field (hr := ?_))
    refine s_panCall [] [] [] (hA := hf)
  · rw [if_neg hp]
    show ACalls _ _ _ _ _ _
    refine ACalls.intro (n := 16) Try.func204 rfl rfl (by simp) (by rfl) ?_
    simp only [argFr]
    repeat (first | refine wk ?_ | refine s_field (hr := ?_))
    exact fin
end Go.Proofs.Ytkfeccbahpmadaa
namespace Go.Proofs.Ytkfeccbahpmadaa
open Go.RowKit
set_option maxRecDepth 100000
-- SimX

def zeroE : Expr := .mk 0 ⟨#[]⟩ []
def resE : Except Fault (Expr × PS) → Except Fault (V × PS) := fun r => r.map fun p => (.d (exprA false p.1), p.2)
def resI : Except Fault (Option Expr × PS) → Except Fault (V × PS) := fun r => r.map fun p => (.tup [.d (exprA false (p.1.getD zeroE)), B p.1.isSome], p.2)
theorem one_cases {op : Int} {l : List Expr} : (∃ x, l = [x] ∧ one op l = x) ∨ (l.length ≠ 1 ∧ one op l = .mk op ⟨#[]⟩ l) := by
  match l with
  | [] => exact .inr ⟨by simp, rfl⟩
  | [x] => exact .inl ⟨x, rfl, rfl⟩
  | _ :: _ :: _ => exact .inr ⟨by simp, rfl⟩
/-- What is to come, once an item is there. -/
def comeI (en : Int) (k : Nat) (o : Option Expr) (s1 : PS) (acc : List Expr) : Except Fault (List Expr × PS) := match o with
  | none => .ok (acc, s1)
  | some x => pItems en k s1 (acc ++ [x])
theorem pItems_come (en : Int) (k : Nat) (s : PS) (acc : List Expr) : pItems en (k + 1) s acc = match pItem en k s with | .error f => .error f | .ok (o, s1) => comeI en k o s1 acc := by
  rw [pItems]
  split <;> simp_all [comeI]
set_option maxHeartbeats 4000000 in
theorem row_of {en : Int} {n : Nat} (hI : ∀ m, m < n → ∀ s : PS, s.Good → s.l.length ≤ 10000 → 5 * s.l.length + 1 ≤ m → Does 220 [.ptr 1000 0] en s (resI (pItem en m s))) :
    ∀ s : PS, s.Good → s.l.length ≤ 10000 → 5 * s.l.length + 3 ≤ n → Does 203 [.ptr 1000 0] en s (resE (pRow en n s)) := by
  intro s g hl hn
  obtain ⟨k, rfl⟩ : ∃ k, n = k + 2 := ⟨n - 2, by omega⟩
  have hi := hI k (by omega) s g hl (by omega)
  obtain ⟨i1, i2, _⟩ := inv_all en k
  rw [pRow, pItems_come]
  cases hc : pItem en k s with
  | error f =>
    rw [hc] at hi
    show APan _ _ _ _ _ _
    refine APan.intro (n := 30) Try.func203 rfl rfl (by simp) (by rfl) rfl ?_
    simp only [argFr]
    replace hi : APan _ _ _ _ _ _ := hi
    repeat (first | refine wk ?_ | refine s_field (hr := ?_))
    refine s_panCall [] [] [] (hA := hi)
  | ok p =>
    obtain ⟨o, s1⟩ := p
    rw [hc] at hi
    replace hi : ACalls _ _ _ _ _ _ := hi
    have hgood : s1.Good ∧ s1.l.length ≤ s.l.length ∧ (∀ x, o = some x → s1.l.length + 1 ≤ s.l.length) := by
      cases o with
      | none => rw [i2 _ _ g hc]; exact ⟨g, Nat.le_refl _, fun x h => by cases h⟩
      | some x => have := i1 _ _ _ g hc; exact ⟨this.1, by have := this.2.2; omega, fun _ _ => this.2.2⟩
    show Does _ _ _ _ (resE (match comeI en k o s1 [] with | .error f => .error f | .ok (l, s') => .ok (one 3 l, s')))
    cases hres : comeI en k o s1 [] with
    | error f =>
      show APan _ _ _ _ _ _
      refine APan.intro (n := 30) Try.func203 rfl rfl (by simp) (by rfl) rfl ?_
      simp only [argFr]
      repeat (first | refine wk ?_ | refine s_field (hr := ?_))
      refine s_call [] (hA := hi) (hr := ?_)
      repeat (first | refine wk ?_ | refine s_field (hr := ?_))
      refine aw_nil 3 900 85 3 rfl rfl rfl ?_
      refine t_loop (X := Nat × Option Expr × PS × List Expr) (fun y => comeI en y.1 y.2.1 y.2.2.1 y.2.2.2 = .error f ∧ y.2.2.1.Good ∧ y.1 ≤ k ∧ (y.2.1.isSome = true → 5 * y.2.2.1.l.length + 2 ≤ y.1) ∧ y.2.2.2.length + y.2.1.isSome.toNat + y.2.2.1.l.length ≤ s.l.length)
        (fun y => [(5, B y.2.1.isSome), (4, .ptr 4 0), (3, .own 900 y.2.2.2.length), (2, .ptr 2 0), (0, .ptr 1000 0)])
        (fun y => (4, .box 85 [.d (iD (y.2.1.getD zeroE).op), .d (sD (y.2.1.getD zeroE).name), .d (exprsD false (y.2.1.getD zeroE).l)]) :: (900, .row 85 3 (y.2.2.2.map (exprD false))) :: (2, .box 85 [.d (iD 0), .d (sD ⟨#[]⟩), .d (.raw (.slice none 0 0))]) :: prG en y.2.2.1.l y.2.2.1.opn y.2.2.1.parts) (fun y => 2 * y.2.2.1.l.length + y.2.1.isSome.toNat) (k, o, s1, []) ⟨hres, hgood.1, Nat.le_refl _, fun h => ?_, ?_⟩ ?_
      · obtain ⟨x, rfl⟩ := Option.isSome_iff_exists.1 h
        have := hgood.2.2 x rfl
        dsimp only; omega
      · cases o with
        | none => have := hgood.2.1; simp; omega
        | some x => have := hgood.2.2 x rfl; simp; omega
      rintro ⟨q, u, st, acc⟩ ⟨j1, j2, j3, j4, j5⟩
      dsimp only at j1 j2 j3 j4 j5 ⊢
      cases u with
      | none =>
        simp only [Option.isSome_none, Option.getD_none, Bool.toNat_false] at *
        cases j1
      | some x =>
        simp only [Option.isSome_some, Option.getD_some, Bool.toNat_true] at *
        obtain ⟨q, rfl⟩ : ∃ q', q = q' + 1 := ⟨q - 1, by have := j4 trivial; omega⟩
        have j4' := j4 trivial
        have hj := hI q (by omega) st j2 (by omega) (by omega)
        obtain ⟨i1', i2', _⟩ := inv_all en q
        have hst : comeI en (q + 1) (some x) st acc = pItems en (q + 1) st (acc ++ [x]) := rfl
        rw [hst, pItems_come] at j1
        have e : acc.map (exprD false) ++ [exprA false x] = (acc ++ [x]).map (exprD false) := by rw [List.map_append]; simp only [List.map_cons, List.map_nil, exprA_eq]
        cases hc2 : pItem en q st with
        | error f2 =>
          rw [hc2] at j1 hj
          replace hj : APan _ _ _ _ _ _ := hj
          obtain rfl : f2 = f := by injection j1
          iterate 22 (refine wk1 ?_)
          refine andThen_n ?_
          rw [e, List.length_map]
          refine aw_weak [(21, .agg [.d (iD x.op), .d (sD x.name), .d (exprsD false x.l)]), (3, .own 900 (acc ++ [x]).length), (2, .ptr 2 0), (0, .ptr 1000 0)] [(900, .row 85 3 ((acc ++ [x]).map (exprD false))), (2, .box 85 [.d (iD 0), .d (sD ⟨#[]⟩), .d (.raw (.slice none 0 0))]), (1000, prB en st.l st.opn st.parts)] (by repeat' (first | exact trivial | exact VLe.refl _ | exact HElt.of rfl | refine And.intro ?_ ?_)) (by repeat' (first | exact trivial | exact VLe.refl _ | exact HElt.of rfl | refine And.intro ?_ ?_)) rfl ?_
          refine aw_orN ?_
          repeat (first | refine wk ?_ | refine s_field (hr := ?_))
          refine Or.inl ?_
          refine andThen_n ?_
          refine aw_orN ?_
          repeat (first | refine wk ?_ | refine s_field (hr := ?_))
          refine s_panCall [] [] [] (hA := hj)
        | ok p2 =>
          obtain ⟨o2, st2⟩ := p2
          rw [hc2] at j1 hj
          replace hj : ACalls _ _ _ _ _ _ := hj
          dsimp only at j1
          have hg2 : st2.Good ∧ st2.l.length + o2.isSome.toNat ≤ st.l.length := by
            cases o2 with
            | none => rw [i2' _ _ j2 hc2]; exact ⟨j2, Nat.le_refl _⟩
            | some x2 => have := i1' _ _ _ j2 hc2; exact ⟨this.1, this.2.2⟩
          iterate 22 (refine wk1 ?_)
          refine andThen_n ?_
          rw [e, List.length_map]
          refine aw_weak [(21, .agg [.d (iD x.op), .d (sD x.name), .d (exprsD false x.l)]), (3, .own 900 (acc ++ [x]).length), (2, .ptr 2 0), (0, .ptr 1000 0)] [(900, .row 85 3 ((acc ++ [x]).map (exprD false))), (2, .box 85 [.d (iD 0), .d (sD ⟨#[]⟩), .d (.raw (.slice none 0 0))]), (1000, prB en st.l st.opn st.parts)] (by repeat' (first | exact trivial | exact VLe.refl _ | exact HElt.of rfl | refine And.intro ?_ ?_)) (by repeat' (first | exact trivial | exact VLe.refl _ | exact HElt.of rfl | refine And.intro ?_ ?_)) rfl ?_
          repeat (first | refine wk ?_ | refine s_field (hr := ?_))
          refine s_call [] (hA := hj) (hr := ?_)
          repeat (first | refine wk ?_ | refine s_field (hr := ?_))
          exact t_next (q, o2, st2, acc ++ [x]) (a := ⟨j1, hg2.1, by omega, fun h => by dsimp only at h ⊢; have h1 : o2.isSome.toNat = 1 := (by rw [h]; rfl); omega, by dsimp only; simp only [List.length_append, List.length_singleton]; omega⟩) (b := by dsimp only; omega)
    | ok z =>
      obtain ⟨l, s'⟩ := z
      show ACalls _ _ _ _ _ _
      refine ACalls.intro (n := 30) Try.func203 rfl rfl (by simp) (by rfl) ?_
      simp only [argFr]
      repeat (first | refine wk ?_ | refine s_field (hr := ?_))
      refine s_call [] (hA := hi) (hr := ?_)
      repeat (first | refine wk ?_ | refine s_field (hr := ?_))
      refine aw_nil 3 900 85 3 rfl rfl rfl ?_
      refine t_loop (X := Nat × Option Expr × PS × List Expr) (fun y => comeI en y.1 y.2.1 y.2.2.1 y.2.2.2 = .ok (l, s') ∧ y.2.2.1.Good ∧ y.1 ≤ k ∧ (y.2.1.isSome = true → 5 * y.2.2.1.l.length + 2 ≤ y.1) ∧ y.2.2.2.length + y.2.1.isSome.toNat + y.2.2.1.l.length ≤ s.l.length)
        (fun y => [(5, B y.2.1.isSome), (4, .ptr 4 0), (3, .own 900 y.2.2.2.length), (2, .ptr 2 0), (0, .ptr 1000 0)])
        (fun y => (4, .box 85 [.d (iD (y.2.1.getD zeroE).op), .d (sD (y.2.1.getD zeroE).name), .d (exprsD false (y.2.1.getD zeroE).l)]) :: (900, .row 85 3 (y.2.2.2.map (exprD false))) :: (2, .box 85 [.d (iD 0), .d (sD ⟨#[]⟩), .d (.raw (.slice none 0 0))]) :: prG en y.2.2.1.l y.2.2.1.opn y.2.2.1.parts) (fun y => 2 * y.2.2.1.l.length + y.2.1.isSome.toNat) (k, o, s1, []) ⟨hres, hgood.1, Nat.le_refl _, fun h => ?_, ?_⟩ ?_
      · obtain ⟨x, rfl⟩ := Option.isSome_iff_exists.1 h
        have := hgood.2.2 x rfl
        dsimp only; omega
      · cases o with
        | none => have := hgood.2.1; simp; omega
        | some x => have := hgood.2.2 x rfl; simp; omega
      rintro ⟨q, u, st, acc⟩ ⟨j1, j2, j3, j4, j5⟩
      dsimp only at j1 j2 j3 j4 j5 ⊢
      cases u with
      | none =>
        simp only [Option.isSome_none, Option.getD_none, Bool.toNat_false] at *
        obtain ⟨rfl, rfl⟩ : acc = l ∧ st = s' := by injection j1 with j1; injection j1 with j1 j2; exact ⟨j1, j2⟩
        rcases one_cases (op := 3) (l := acc) with ⟨x, rfl, e1⟩ | ⟨e0, e1⟩
        · rw [e1]
          repeat (first | refine wk ?_ | refine s_field (hr := ?_))
          exact fin
        · rw [e1, show exprA false (Expr.mk 3 ⟨#[]⟩ acc) = .agg [iD 3, sD ⟨#[]⟩, exprsD false acc] from rfl]
          refine aw_froz 900 rfl ?_
          repeat (first | refine wk ?_ | refine s_field (hr := ?_))
          exact fin
      | some x =>
        simp only [Option.isSome_some, Option.getD_some, Bool.toNat_true] at *
        obtain ⟨q, rfl⟩ : ∃ q', q = q' + 1 := ⟨q - 1, by have := j4 trivial; omega⟩
        have j4' := j4 trivial
        have hj := hI q (by omega) st j2 (by omega) (by omega)
        obtain ⟨i1', i2', _⟩ := inv_all en q
        have hst : comeI en (q + 1) (some x) st acc = pItems en (q + 1) st (acc ++ [x]) := rfl
        rw [hst, pItems_come] at j1
        have e : acc.map (exprD false) ++ [exprA false x] = (acc ++ [x]).map (exprD false) := by rw [List.map_append]; simp only [List.map_cons, List.map_nil, exprA_eq]
        cases hc2 : pItem en q st with
        | error f2 =>
          rw [hc2] at j1 hj
          replace hj : APan _ _ _ _ _ _ := hj
          cases j1
        | ok p2 =>
          obtain ⟨o2, st2⟩ := p2
          rw [hc2] at j1 hj
          replace hj : ACalls _ _ _ _ _ _ := hj
          dsimp only at j1
          have hg2 : st2.Good ∧ st2.l.length + o2.isSome.toNat ≤ st.l.length := by
            cases o2 with
            | none => rw [i2' _ _ j2 hc2]; exact ⟨j2, Nat.le_refl _⟩
            | some x2 => have := i1' _ _ _ j2 hc2; exact ⟨this.1, this.2.2⟩
          iterate 22 (refine wk1 ?_)
          refine andThen_n ?_
          rw [e, List.length_map]
          refine aw_weak [(21, .agg [.d (iD x.op), .d (sD x.name), .d (exprsD false x.l)]), (3, .own 900 (acc ++ [x]).length), (2, .ptr 2 0), (0, .ptr 1000 0)] [(900, .row 85 3 ((acc ++ [x]).map (exprD false))), (2, .box 85 [.d (iD 0), .d (sD ⟨#[]⟩), .d (.raw (.slice none 0 0))]), (1000, prB en st.l st.opn st.parts)] (by repeat' (first | exact trivial | exact VLe.refl _ | exact HElt.of rfl | refine And.intro ?_ ?_)) (by repeat' (first | exact trivial | exact VLe.refl _ | exact HElt.of rfl | refine And.intro ?_ ?_)) rfl ?_
          repeat (first | refine wk ?_ | refine s_field (hr := ?_))
          refine s_call [] (hA := hj) (hr := ?_)
          repeat (first | refine wk ?_ | refine s_field (hr := ?_))
          exact t_next (q, o2, st2, acc ++ [x]) (a := ⟨j1, hg2.1, by omega, fun h => by dsimp only at h ⊢; have h1 : o2.isSome.toNat = 1 := (by rw [h]; rfl); omega, by dsimp only; simp only [List.length_append, List.length_singleton]; omega⟩) (b := by dsimp only; omega)
end Go.Proofs.Ytkfeccbahpmadaa
namespace Go.Proofs.Ytkfeccbahpmadaa
open Go.RowKit
set_option maxRecDepth 100000
-- SimX

theorem part_err {en : Int} {s : PS} {f : Fault} (g : s.Good) (hl : s.l.length ≤ 100000000) (h : s.part en = .error f) : APan Try.prog 204 [.ptr 1000 0] (prG en s.l s.opn s.parts) (goneV f) jkH := by
  have := part_sim (en := en) g hl
  rw [h] at this; exact this
theorem part_okc {en : Int} {s s1 : PS} (g : s.Good) (hl : s.l.length ≤ 100000000) (h : s.part en = .ok s1) : ACalls Try.prog 204 [.ptr 1000 0] (prG en s.l s.opn s.parts) (.tup []) (prG en s1.l s1.opn s1.parts) := by
  have := part_sim (en := en) g hl
  rw [h] at this; exact this
theorem want_err {en : Int} {s : PS} {x : ByteArray} {f : Fault} (hl : s.l.length ≤ 100000000) (h : s.want en x = .error f) : APan Try.prog 162 [.ptr 1000 0, Str x] (prG en s.l s.opn s.parts) (goneV f) jkH := by
  have := want_sim (en := en) (x := x) hl
  rw [h] at this; exact this
theorem want_okc {en : Int} {s s1 : PS} {x : ByteArray} (hl : s.l.length ≤ 100000000) (h : s.want en x = .ok s1) : ACalls Try.prog 162 [.ptr 1000 0, Str x] (prG en s.l s.opn s.parts) (.tup []) (prG en s1.l s1.opn s1.parts) := by
  have := want_sim (en := en) (x := x) hl
  rw [h] at this; exact this
set_option maxHeartbeats 4000000 in
theorem alt_of {en : Int} {n : Nat} (hR : ∀ m, m < n → ∀ s : PS, s.Good → s.l.length ≤ 10000 → 5 * s.l.length + 3 ≤ m → Does 203 [.ptr 1000 0] en s (resE (pRow en m s))) :
    ∀ s : PS, s.Good → s.l.length ≤ 10000 → 5 * s.l.length + 4 ≤ n → Does 163 [.ptr 1000 0] en s (resE (pAlt en n s)) := by
  intro s g hl hn
  obtain ⟨k, rfl⟩ : ∃ k, n = k + 1 := ⟨n - 1, by omega⟩
  have hi := hR k (by omega) s g hl (by omega)
  obtain ⟨i1, i2, i3, i4, i5, _⟩ := inv_all en k
  rw [pAlt]
  cases hc : pRow en k s with
  | error f =>
    rw [hc] at hi
    show APan _ _ _ _ _ _
    refine APan.intro (n := 26) Try.func163 rfl rfl (by simp) (by rfl) rfl ?_
    simp only [argFr]
    replace hi : APan _ _ _ _ _ _ := hi
    repeat (first | refine wk ?_ | refine s_field (hr := ?_))
    refine s_panCall [] [] [] (hA := hi)
  | ok p =>
    obtain ⟨x, s1⟩ := p
    rw [hc] at hi
    replace hi : ACalls _ _ _ _ _ _ := hi
    have t1 := i5 _ _ _ g hc
    have hl1 := t1.2.2
    have e0 : [exprA false x] = [x].map (exprD false) := by simp only [List.map_cons, List.map_nil, exprA_eq]
    show Does _ _ _ _ (resE (match pAlts en k s1 [x] with | .error f => .error f | .ok (l, s') => .ok (one 4 l, s')))
    cases hres : pAlts en k s1 [x] with
    | error f =>
      show APan _ _ _ _ _ _
      refine APan.intro (n := 26) Try.func163 rfl rfl (by simp) (by rfl) rfl ?_
      simp only [argFr]
      repeat (first | refine wk ?_ | refine s_field (hr := ?_))
      refine s_call [] (hA := hi) (hr := ?_)
      repeat (first | refine wk ?_ | refine s_field (hr := ?_))
      rw [e0]
      refine t_loop (X := Nat × PS × List Expr) (fun y => pAlts en y.1 y.2.1 y.2.2 = .error f ∧ y.2.1.Good ∧ y.1 ≤ k ∧ 5 * y.2.1.l.length + 1 ≤ y.1 ∧ y.2.2.length + y.2.1.l.length ≤ s.l.length + 1)
        (fun y => [(3, .own 6 y.2.2.length), (2, .ptr 2 0), (0, .ptr 1000 0)]) (fun y => (6, .row 85 3 (y.2.2.map (exprD false))) :: (2, .box 85 [.d (iD 0), .d (sD ⟨#[]⟩), .d (.raw (.slice none 0 0))]) :: prG en y.2.1.l y.2.1.opn y.2.1.parts) (fun y => y.2.1.l.length) (k, s1, [x]) ⟨hres, t1.1, Nat.le_refl _, by dsimp only; omega, by simp only [List.length_singleton]; omega⟩ ?_
      rintro ⟨q, st, acc⟩ ⟨j1, j2, j3, j4, j5⟩
      dsimp only at j1 j2 j3 j4 j5 ⊢
      obtain ⟨q, rfl⟩ : ∃ q', q = q' + 1 := ⟨q - 1, by omega⟩
      have hsg := sign_sim (en := en) (s := st) (x := sgn 124) (by omega)
      rw [pAlts] at j1
      cases hs : st.sign (sgn 124) with
      | false =>
        rw [hs] at j1 hsg
        rw [if_neg (by decide)] at j1
        cases j1
      | true =>
        rw [hs] at j1 hsg
        rw [if_pos rfl] at j1
        obtain ⟨tk, r, he, _⟩ := PS.sign_cons hs
        cases hp : st.part en with
        | error f2 =>
          have hpe := part_err j2 (by omega) hp
          rw [hp] at j1
          obtain rfl : f2 = f := by injection j1
          repeat (first | refine wk ?_ | refine s_field (hr := ?_))
          refine s_call [] (hA := hsg) (hr := ?_)
          repeat (first | refine wk ?_ | refine s_field (hr := ?_))
          refine s_panCall [] [] [] (hA := hpe)
        | ok st1 =>
          have hpk := part_okc j2 (by omega) hp
          obtain ⟨b1, b2, b3⟩ := PS.part_ok hp j2
          rw [hp] at j1
          have hnx := next_sim (en := en) (s := st1) (t := tk) (r := r) (by rw [b3, he]) (by rw [b3]; omega)
          have hlen : st1.next.l.length + 1 = st.l.length := by simp [PS.next, b3, he]
          have hrw := hR q (by omega) st1.next b1 (by omega) (by omega)
          obtain ⟨_, _, _, _, i5', _⟩ := inv_all en q
          cases hr2 : pRow en q st1.next with
          | error f2 =>
            rw [hr2] at hrw
            replace hrw : APan _ _ _ _ _ _ := hrw
            replace j1 : (match pRow en q st1.next with | .error f => Except.error f | .ok (x, s2) => pAlts en q s2 (acc ++ [x])) = .error f := j1
            rw [hr2] at j1
            obtain rfl : f2 = f := by injection j1
            repeat (first | refine wk ?_ | refine s_field (hr := ?_))
            refine s_call [] (hA := hsg) (hr := ?_)
            repeat (first | refine wk ?_ | refine s_field (hr := ?_))
            refine s_call [] (hA := hpk) (hr := ?_)
            refine dops_end ?_
            refine andThen_n ?_
            refine aw_orN ?_
            repeat (first | refine wk ?_ | refine s_field (hr := ?_))
            refine s_call [] (hA := hnx) (hr := ?_)
            repeat (first | refine wk ?_ | refine s_field (hr := ?_))
            refine s_panCall [] [] [] (hA := hrw)
          | ok p2 =>
            obtain ⟨x2, st2⟩ := p2
            rw [hr2] at hrw
            replace hrw : ACalls _ _ _ _ _ _ := hrw
            replace j1 : (match pRow en q st1.next with | .error f => Except.error f | .ok (x, s2) => pAlts en q s2 (acc ++ [x])) = .error f := j1
            rw [hr2] at j1
            have t2 := i5' st1.next _ _ b1 hr2
            have hl2 := t2.2.2
            have e : acc.map (exprD false) ++ [exprA false x2] = (acc ++ [x2]).map (exprD false) := by rw [List.map_append]; simp only [List.map_cons, List.map_nil, exprA_eq]
            dsimp only at j1
            repeat (first | refine wk ?_ | refine s_field (hr := ?_))
            refine s_call [] (hA := hsg) (hr := ?_)
            repeat (first | refine wk ?_ | refine s_field (hr := ?_))
            refine s_call [] (hA := hpk) (hr := ?_)
            repeat (first | refine wk ?_ | refine s_field (hr := ?_))
            refine s_call [] (hA := hnx) (hr := ?_)
            repeat (first | refine wk ?_ | refine s_field (hr := ?_))
            refine s_call [] (hA := hrw) (hr := ?_)
            repeat (first | refine wk ?_ | refine s_field (hr := ?_))
            rw [e, List.length_map]
            exact t_next (q, st2, acc ++ [x2]) (a := ⟨j1, t2.1, by omega, by dsimp only; omega, by dsimp only; simp only [List.length_append, List.length_singleton]; omega⟩) (b := by dsimp only; omega)
    | ok z =>
      obtain ⟨l, s'⟩ := z
      show ACalls _ _ _ _ _ _
      refine ACalls.intro (n := 26) Try.func163 rfl rfl (by simp) (by rfl) ?_
      simp only [argFr]
      repeat (first | refine wk ?_ | refine s_field (hr := ?_))
      refine s_call [] (hA := hi) (hr := ?_)
      repeat (first | refine wk ?_ | refine s_field (hr := ?_))
      rw [e0]
      refine t_loop (X := Nat × PS × List Expr) (fun y => pAlts en y.1 y.2.1 y.2.2 = .ok (l, s') ∧ y.2.1.Good ∧ y.1 ≤ k ∧ 5 * y.2.1.l.length + 1 ≤ y.1 ∧ y.2.2.length + y.2.1.l.length ≤ s.l.length + 1)
        (fun y => [(3, .own 6 y.2.2.length), (2, .ptr 2 0), (0, .ptr 1000 0)]) (fun y => (6, .row 85 3 (y.2.2.map (exprD false))) :: (2, .box 85 [.d (iD 0), .d (sD ⟨#[]⟩), .d (.raw (.slice none 0 0))]) :: prG en y.2.1.l y.2.1.opn y.2.1.parts) (fun y => y.2.1.l.length) (k, s1, [x]) ⟨hres, t1.1, Nat.le_refl _, by dsimp only; omega, by simp only [List.length_singleton]; omega⟩ ?_
      rintro ⟨q, st, acc⟩ ⟨j1, j2, j3, j4, j5⟩
      dsimp only at j1 j2 j3 j4 j5 ⊢
      obtain ⟨q, rfl⟩ : ∃ q', q = q' + 1 := ⟨q - 1, by omega⟩
      have hsg := sign_sim (en := en) (s := st) (x := sgn 124) (by omega)
      rw [pAlts] at j1
      cases hs : st.sign (sgn 124) with
      | false =>
        rw [hs] at j1 hsg
        rw [if_neg (by decide)] at j1
        obtain ⟨rfl, rfl⟩ : acc = l ∧ st = s' := by injection j1 with j1; injection j1 with j1 j2; exact ⟨j1, j2⟩
        rcases one_cases (op := 4) (l := acc) with ⟨x, rfl, e1⟩ | ⟨e0, e1⟩
        · rw [e1]
          repeat (first | refine wk ?_ | refine s_field (hr := ?_))
          refine s_call [] (hA := hsg) (hr := ?_)
          repeat (first | refine wk ?_ | refine s_field (hr := ?_))
          exact fin
        · rw [e1, show exprA false (Expr.mk 4 ⟨#[]⟩ acc) = .agg [iD 4, sD ⟨#[]⟩, exprsD false acc] from rfl]
          refine aw_froz 6 rfl ?_
          repeat (first | refine wk ?_ | refine s_field (hr := ?_))
          refine s_call [] (hA := hsg) (hr := ?_)
          repeat (first | refine wk ?_ | refine s_field (hr := ?_))
          --@
          exact fin
      | true =>
        rw [hs] at j1 hsg
        rw [if_pos rfl] at j1
        obtain ⟨tk, r, he, _⟩ := PS.sign_cons hs
        cases hp : st.part en with
        | error f2 =>
          have hpe := part_err j2 (by omega) hp
          rw [hp] at j1
          cases j1
        | ok st1 =>
          have hpk := part_okc j2 (by omega) hp
          obtain ⟨b1, b2, b3⟩ := PS.part_ok hp j2
          rw [hp] at j1
          have hnx := next_sim (en := en) (s := st1) (t := tk) (r := r) (by rw [b3, he]) (by rw [b3]; omega)
          have hlen : st1.next.l.length + 1 = st.l.length := by simp [PS.next, b3, he]
          have hrw := hR q (by omega) st1.next b1 (by omega) (by omega)
          obtain ⟨_, _, _, _, i5', _⟩ := inv_all en q
          cases hr2 : pRow en q st1.next with
          | error f2 =>
            rw [hr2] at hrw
            replace hrw : APan _ _ _ _ _ _ := hrw
            replace j1 : (match pRow en q st1.next with | .error f => Except.error f | .ok (x, s2) => pAlts en q s2 (acc ++ [x])) = .ok (l, s') := j1
            rw [hr2] at j1
            cases j1
          | ok p2 =>
            obtain ⟨x2, st2⟩ := p2
            rw [hr2] at hrw
            replace hrw : ACalls _ _ _ _ _ _ := hrw
            replace j1 : (match pRow en q st1.next with | .error f => Except.error f | .ok (x, s2) => pAlts en q s2 (acc ++ [x])) = .ok (l, s') := j1
            rw [hr2] at j1
            have t2 := i5' st1.next _ _ b1 hr2
            have hl2 := t2.2.2
            have e : acc.map (exprD false) ++ [exprA false x2] = (acc ++ [x2]).map (exprD false) := by rw [List.map_append]; simp only [List.map_cons, List.map_nil, exprA_eq]
            dsimp only at j1
            repeat (first | refine wk ?_ | refine s_field (hr := ?_))
            refine s_call [] (hA := hsg) (hr := ?_)
            repeat (first | refine wk ?_ | refine s_field (hr := ?_))
            refine s_call [] (hA := hpk) (hr := ?_)
            repeat (first | refine wk ?_ | refine s_field (hr := ?_))
            refine s_call [] (hA := hnx) (hr := ?_)
            repeat (first | refine wk ?_ | refine s_field (hr := ?_))
            refine s_call [] (hA := hrw) (hr := ?_)
            repeat (first | refine wk ?_ | refine s_field (hr := ?_))
            rw [e, List.length_map]
            exact t_next (q, st2, acc ++ [x2]) (a := ⟨j1, t2.1, by omega, by dsimp only; omega, by dsimp only; simp only [List.length_append, List.length_singleton]; omega⟩) (b := by dsimp only; omega)
end Go.Proofs.Ytkfeccbahpmadaa
