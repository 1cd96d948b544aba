/-
  Sim: operations on whole values (structs compared), and a slice held against nil.
-/
import Derived.Test.YtpaeihifcmohkaaSimQ
set_option linter.unusedVariables false
set_option linter.unusedSimpArgs false
namespace Go.Proofs.Ytpaeihifcmohkaa
open Go.RowKit

def dvals : List D → Option (List Value)
  | [] => some []
  | .raw v :: r => (dvals r).map (v :: ·)
  | _ :: _ => none
def cvals : List V → Option (List Value)
  | [] => some []
  | .d (.raw v) :: r => (cvals r).map (v :: ·)
  | _ :: _ => none
def vval : V → Option Value
  | .d (.raw v) => some v
  | .d (.agg ds) => (dvals ds).map fun us => .agg us.toArray
  | .agg cs => (cvals cs).map fun us => .agg us.toArray
  | _ => none
def vvals : List V → Option (List Value)
  | [] => some []
  | v :: r => match vval v, vvals r with
    | some u, some us => some (u :: us)
    | _, _ => none
section
variable {E : Env} {h : Hp} {M : Bars} {w : World}
theorem dvals_rep : ∀ {ds : List D} {us us' : List Value}, D.Reps M w ds us → dvals ds = some us' → us = us'
  | [], us, us', r, e => by simp only [D.Reps] at r; simp only [dvals, Option.some.injEq] at e; rw [r, e]
  | .raw v :: ds, us, us', r, e => by
    simp only [D.Reps, D.Rep] at r
    obtain ⟨c, r', rfl, ⟨rfl, _⟩, h2⟩ := r
    simp only [dvals, Option.map_eq_some_iff] at e
    obtain ⟨us1, h3, rfl⟩ := e
    rw [dvals_rep h2 h3]; rfl
  | .sl .. :: ds, us, us', r, e => by simp [dvals] at e
  | .agg _ :: ds, us, us', r, e => by simp [dvals] at e
theorem cvals_rep : ∀ {cs : List V} {us us' : List Value}, V.Reps E h M w cs us → cvals cs = some us' → us = us'
  | [], us, us', r, e => by simp only [V.Reps] at r; simp only [cvals, Option.some.injEq] at e; rw [r, e]
  | v :: cs, us, us', r, e => by
    unfold cvals at e
    split at e
    · simp_all
    · rename_i v' r' heq
      obtain ⟨rfl, rfl⟩ := List.cons.inj heq
      simp only [V.Reps, V.Rep, D.RepV, D.Rep, List.cons.injEq, and_true] at r
      obtain ⟨c, r', rfl, ⟨rfl, _⟩, h2⟩ := r
      simp only [Option.map_eq_some_iff] at e
      obtain ⟨us1, h3, rfl⟩ := e
      rw [cvals_rep h2 h3]
    · cases e
theorem vval_rep {v : V} {u u' : Value} (r : v.Rep E h M w u) (e : vval v = some u') : u = u' := by
  unfold vval at e
  split at e
  · simp only [V.Rep, D.RepV, D.Rep, List.cons.injEq, and_true] at r
    simp only [Option.some.injEq] at e
    rw [r.1, e]
  · simp only [V.Rep, D.RepV] at r
    obtain ⟨us, rfl, h1⟩ := r
    simp only [Option.map_eq_some_iff] at e
    obtain ⟨us', h2, rfl⟩ := e
    rw [dvals_rep h1 h2]
  · simp only [V.Rep] at r
    obtain ⟨us, rfl, h1⟩ := r
    simp only [Option.map_eq_some_iff] at e
    obtain ⟨us', h2, rfl⟩ := e
    rw [cvals_rep h1.1 h2]
  · cases e
theorem vvals_rep : ∀ {vs : List V} {us us' : List Value}, V.Reps E h M w vs us → vvals vs = some us' → us = us'
  | [], us, us', r, e => by simp only [V.Reps] at r; simp only [vvals, Option.some.injEq] at e; rw [r, e]
  | v :: vs, us, us', r, e => by
    simp only [V.Reps] at r
    obtain ⟨u, r', rfl, h1, h2⟩ := r
    simp only [vvals] at e
    split at e
    · rename_i u1 us1 e1 e2
      simp only [Option.some.injEq] at e
      rw [← e, vval_rep h1 e1, vvals_rep h2 e2]
    · cases e
end
section
variable {P : Program} {n : Nat} {dr : Bool} {ops : Array Oper} {rest : List Oper} {log : List Rec} {K : Fr → Hp → Prop} {fr : Fr} {h : Hp}
variable {d : Nat} {ty : TypeId} {pos : String} {after : Array Edge} {g : Option (Nat × Bool)}
/-- Operands whose values are known: the operation computes. -/
theorem d_val {op : Op} (xs : List Operand) (vs : List V) (us : List Value) (u : Value) (hvs : vvals vs = some us) (hop : ∀ (ρ : Operand → Value) (w : World), xs.map ρ = us → (execOp ρ ⟨some d, op, ty, pos, after, g⟩).run P w = .ok (.value u) w) (hu : u.oneCell' = true)
    (hdn : Nat.blt d n = true) (hg : gOk ops fr g) (hx : oevs fr xs vs) (h1 : xs.all oneOpd = true)
    (hr : dops P n dr ops rest (⟨(gIns ops g ++ insAll xs vs).map Prod.fst, [d], [], []⟩ :: log) K ((d, .d (.raw u)) :: fr) h) : dops P n dr ops (⟨some d, op, ty, pos, after, g⟩ :: rest) log K fr h := by
  refine dops_cons (ins := gIns ops g ++ insAll xs vs) (objs := []) (v := .d (.raw u)) (upd := []) (LStep.pure rfl hdn rfl hg (insAll xs vs) [] _ fun G E fr' h' a w C hi _ => ?_) (fun p hp => ?_) (by simp) hr
  · have hx' := oevs_of hx hi
    have he : xs.map a.eval = us := vvals_rep (oevs_rep C hx' h1).1 hvs
    exact ⟨u, hop _ w he, by simp [V.Rep, D.RepV, D.Rep, hu], by simp [V.keys]⟩
  · rcases List.mem_append.1 hp with hp | hp
    · exact gOk_ins hg p hp
    · exact oevs_ins hx p hp
/-- Structs compared. -/
def EqRun (P : Program) (xt : TypeId) (u1 u2 : Value) (b : Bool) : Prop := ∀ w, (Op.equal xt u1 u2).run P w = .ok b w ∧ (P.eqGuardType P.depth xt = false)
theorem eqGuard_agg {xt : TypeId} {x y : Operand} {bop : BinOp} {c1 c2 : Array Value} (hG : P.eqGuardType P.depth xt = false) (w : World) : (eqGuard bop xt x y (.agg c1) (.agg c2)).run P w = .ok () w := by
  unfold eqGuard
  have e : (program).run P w = .ok P w := rfl
  cases bop <;> simp [Sem.run_bind, e, hG]
theorem d_eqA {x y : Operand} {xt yt : TypeId} {v1 v2 : V} {c1 c2 : Array Value} {b : Bool} (hdn : Nat.blt d n = true) (hg : gOk ops fr g) (hx : oev fr x = v1) (hy : oev fr y = v2) (h1 : vval v1 = some (.agg c1)) (h2 : vval v2 = some (.agg c2)) (ho1 : oneOpd x = true) (ho2 : oneOpd y = true)
    (he : EqRun P xt (.agg c1) (.agg c2) b)
    (hr : dops P n dr ops rest (⟨(gIns ops g ++ insAll [x, y] [v1, v2]).map Prod.fst, [d], [], []⟩ :: log) K ((d, .d (.raw (.bool b))) :: fr) h) : dops P n dr ops (⟨some d, .binOp .eql xt x y yt, ty, pos, after, g⟩ :: rest) log K fr h := by
  refine d_val [x, y] [v1, v2] [.agg c1, .agg c2] (.bool b) (by simp [vvals, h1, h2]) (fun ρ w hρ => ?_) rfl hdn hg ⟨hx, hy, trivial⟩ (by simp [ho1, ho2]) hr
  simp only [List.map_cons, List.map_nil, List.cons.injEq, and_true] at hρ
  simp only [execOp, Sem.run_bind, hρ.1, hρ.2, eqGuard_agg (he w).2 w, Result.andThen_ok, binOp, (he w).1, Sem.run_pure]
theorem d_neA {x y : Operand} {xt yt : TypeId} {v1 v2 : V} {c1 c2 : Array Value} {b : Bool} (hdn : Nat.blt d n = true) (hg : gOk ops fr g) (hx : oev fr x = v1) (hy : oev fr y = v2) (h1 : vval v1 = some (.agg c1)) (h2 : vval v2 = some (.agg c2)) (ho1 : oneOpd x = true) (ho2 : oneOpd y = true)
    (he : EqRun P xt (.agg c1) (.agg c2) b)
    (hr : dops P n dr ops rest (⟨(gIns ops g ++ insAll [x, y] [v1, v2]).map Prod.fst, [d], [], []⟩ :: log) K ((d, .d (.raw (.bool !b))) :: fr) h) : dops P n dr ops (⟨some d, .binOp .neq xt x y yt, ty, pos, after, g⟩ :: rest) log K fr h := by
  refine d_val [x, y] [v1, v2] [.agg c1, .agg c2] (.bool !b) (by simp [vvals, h1, h2]) (fun ρ w hρ => ?_) rfl hdn hg ⟨hx, hy, trivial⟩ (by simp [ho1, ho2]) hr
  simp only [List.map_cons, List.map_nil, List.cons.injEq, and_true] at hρ
  simp only [execOp, Sem.run_bind, hρ.1, hρ.2, eqGuard_agg (he w).2 w, Result.andThen_ok, binOp, (he w).1, Sem.run_pure]
/-- Bools compared. -/
theorem d_eqB {x y : Operand} {xt yt : TypeId} {p q : Bool} (hdn : Nat.blt d n = true) (hg : gOk ops fr g) (hx : oev fr x = B p) (hy : oev fr y = B q) (hu : P.underlying xt = some .bool)
    (hr : dops P n dr ops rest (⟨(gIns ops g ++ insAll [x, y] [B p, B q]).map Prod.fst, [d], [], []⟩ :: log) K ((d, B (p == q)) :: fr) h) : dops P n dr ops (⟨some d, .binOp .eql xt x y yt, ty, pos, after, g⟩ :: rest) log K fr h := by
  refine d_val [x, y] [B p, B q] [.bool p, .bool q] (.bool (p == q)) rfl (fun ρ w hρ => ?_) rfl hdn hg ⟨hx, hy, trivial⟩ (by simp [oneOpd_of hx rfl, oneOpd_of hy rfl]) hr
  simp only [List.map_cons, List.map_nil, List.cons.injEq, and_true] at hρ
  have e : (Op.equal xt (.bool p) (.bool q)).run P w = .ok (p == q) w := by
    unfold Op.equal
    rw [show Op.maxDepth = 9999 + 1 from rfl]
    unfold Op.equalIn
    simp only [Sem.run_bind, run_underlying hu, Result.andThen_ok, Sem.run_pure]
  simp only [execOp, Sem.run_bind, hρ.1, hρ.2, eqGuard, binOp, e, Sem.run_pure, Result.andThen_ok, Bool.not_true]
  simp [go_sem, e]
theorem d_neB {x y : Operand} {xt yt : TypeId} {p q : Bool} (hdn : Nat.blt d n = true) (hg : gOk ops fr g) (hx : oev fr x = B p) (hy : oev fr y = B q) (hu : P.underlying xt = some .bool)
    (hr : dops P n dr ops rest (⟨(gIns ops g ++ insAll [x, y] [B p, B q]).map Prod.fst, [d], [], []⟩ :: log) K ((d, B (!(p == q))) :: fr) h) : dops P n dr ops (⟨some d, .binOp .neq xt x y yt, ty, pos, after, g⟩ :: rest) log K fr h := by
  refine d_val [x, y] [B p, B q] [.bool p, .bool q] (.bool !(p == q)) rfl (fun ρ w hρ => ?_) rfl hdn hg ⟨hx, hy, trivial⟩ (by simp [oneOpd_of hx rfl, oneOpd_of hy rfl]) hr
  simp only [List.map_cons, List.map_nil, List.cons.injEq, and_true] at hρ
  have e : (Op.equal xt (.bool p) (.bool q)).run P w = .ok (p == q) w := by
    unfold Op.equal
    rw [show Op.maxDepth = 9999 + 1 from rfl]
    unfold Op.equalIn
    simp only [Sem.run_bind, run_underlying hu, Result.andThen_ok, Sem.run_pure]
  simp only [execOp, Sem.run_bind, hρ.1, hρ.2, eqGuard, binOp, e, Sem.run_pure, Result.andThen_ok, Bool.not_true]
  simp [go_sem, e]

/-! ### A slice held against nil -/
theorem slice_nil_run {xt e : TypeId} (hu : P.underlying xt = some (.slice e)) (a : Option Addr) (l c : Nat) (w : World) : (binOp .eql xt (.slice a l c) (.slice none 0 0)).run P w = .ok (.bool a.isNone) w := by
  have he : (Op.equal xt (.slice a l c) (.slice none 0 0)).run P w = .ok a.isNone w := by
    unfold Op.equal
    rw [show Op.maxDepth = 9999 + 1 from rfl]
    unfold Op.equalIn
    cases a <;> simp only [Sem.run_bind, run_underlying hu, Result.andThen_ok, Sem.run_pure] <;> rfl
  simp only [binOp, Sem.run_bind, he, Result.andThen_ok, Sem.run_pure]
variable {Q : Exit → Fr → Hp → Prop}
/-- A region 'c := s; d := c == nil': nil has no elements; what has none may be nil or not. -/
theorem aw_eqNil {id c e st yt cty : Nat} {x : Operand} {t : Bool} {sz : Nat} {xs : List D} {pos1 pos2 : String} {af1 af2 : Array Edge} (hcn : Nat.blt c n = true) (hdn : Nat.blt d n = true) (hx : oev fr x = .d (.sl t sz xs)) (hu : P.underlying st = some (.slice e))
    (hT : xs = [] → Q .normal ((d, B true) :: (c, .d (.sl t sz xs)) :: fr) h) (hF : Q .normal ((d, B false) :: (c, .d (.sl t sz xs)) :: fr) h) :
    aw P n (.region id #[⟨some c, .move x, cty, pos1, af1, none⟩, ⟨some d, .binOp .eql st (.tmp c) (.const (.slice none 0 0)) yt, ty, pos2, af2, none⟩] false) Q fr h := by
  intro G E a w hn C
  refine wp_region_list (wpList_step fun K hK => ?_)
  have hc : c < G.n := by rw [hn]; simpa [Nat.blt_eq] using hcn
  have hd : d < G.n := by rw [hn]; simpa [Nat.blt_eq] using hdn
  obtain ⟨r1, r2⟩ := C.oev hx (oneOpd_spec (oneOpd_of hx rfl))
  have C1 := C.put hc r1 r2
  have hr1 := r1
  simp only [V.Rep, D.RepV, D.Rep, List.cons.injEq, and_true] at hr1
  obtain ⟨ad, cap, us, q1, _, _, _, _, q6⟩ := hr1
  rw [if_pos (by simp [Region.wanted])]
  unfold Oper.wp
  simp only [execOp, Oper.upon]
  refine hK _ _ (wpList_step fun K' hK' => ?_)
  rw [if_pos (by simp [Region.wanted])]
  unfold Oper.wp
  have hev : (a.put (some c) (a.eval x)).eval (.tmp c) = a.eval x := by
    show (a.put (some c) (a.eval x)).tmps.getD c undef = _
    rw [getD_put (by rw [C.size]; exact hc), if_pos rfl]
  have hex : (execOp (a.put (some c) (a.eval x)).eval ⟨some d, .binOp .eql st (.tmp c) (.const (.slice none 0 0)) yt, ty, pos2, af2, none⟩).run P w = .ok (.value (.bool ad.isNone)) w := by
    simp only [execOp, Sem.run_bind, hev]
    rw [q1]
    have e1 : (eqGuard .eql st (.tmp c) (.const (.slice none 0 0)) (.slice ad xs.length cap) ((a.put (some c) (.slice ad xs.length cap)).eval (.const (.slice none 0 0)))).run P w = .ok () w := by
      unfold eqGuard; rfl
    rw [e1]
    simp only [Result.andThen_ok]
    have e2 := slice_nil_run (P := P) hu ad xs.length cap w
    show ((binOp .eql st (.slice ad xs.length cap) (.slice none 0 0)).run P w).andThen _ = _
    rw [e2]
    simp
  rw [hex]
  simp only [Oper.upon]
  refine hK' _ _ (wpList_nil ?_)
  have C2 : ∀ b : Bool, Conc G E ((d, B b) :: (c, .d (.sl t sz xs)) :: fr) h ((a.put (some c) (a.eval x)).put (some d) (.bool b)) w := fun b => C1.put hd (by simp [V.Rep, D.RepV, D.Rep, Value.oneCell']) (by simp [V.keys])
  cases ad with
  | none =>
    have hnil : xs = [] := by
      by_cases hne : xs = []
      · exact hne
      · obtain ⟨b, off, hb, _⟩ := q6 hne
        cases hb
    exact ⟨E, _, h, hT hnil, C2 true⟩
  | some ad => exact ⟨E, _, h, hF, C2 false⟩
end
end Go.Proofs.Ytpaeihifcmohkaa
