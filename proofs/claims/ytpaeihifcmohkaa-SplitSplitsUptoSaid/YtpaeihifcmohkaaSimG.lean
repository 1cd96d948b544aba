/-
  Sim: the steps of operations that compute: integers, bools, texts, fields, elements' addresses, lengths, pieces of slices.
-/
import Derived.Test.YtpaeihifcmohkaaSimF
import Derived.IntWalk
import Derived.WalkSpells
set_option linter.unusedVariables false
set_option linter.unusedSimpArgs false
namespace Go.Proofs.Ytpaeihifcmohkaa
open Go.RowKit

section
variable {P : Program} {n : Nat} {dr : Bool} {ops : Array Oper} {rest : List Oper} {log : List Rec} {K : Fr → Hp → Prop} {fr : Fr} {h : Hp}
variable {d : Nat} {ty : TypeId} {pos : String} {after : Array Edge} {g : Option (Nat × Bool)}
abbrev I (a : Int) : V := .d (.raw (.int .i64 a))
abbrev B (b : Bool) : V := .d (.raw (.bool b))
abbrev Str (s : ByteArray) : V := .d (.raw (.string s))
abbrev U8 (a : Int) : V := .d (.raw (.int .u8 a))
abbrev nilS : V := .d (.raw (.slice none 0 0))

def notAgg : V → Bool
  | .agg _ | .junk => false
  | _ => true
theorem oneOpd_of {x : Operand} {v : V} (hx : oev fr x = v) (hv : notAgg v = true) : oneOpd x = true := by
  subst hx
  cases x with
  | const c => cases c <;> first | rfl | (simp [oev, notAgg] at hv)
  | _ => rfl
theorem wrap64 {s : Int} (h1 : -9223372036854775808 ≤ s) (h2 : s ≤ 9223372036854775807) : IntKind.i64.wrap s = s := IntWalk.i64_in s ⟨h1, h2⟩

/-- Two integers. -/
theorem d_int2 {x y : Operand} {yt xt : TypeId} {bop : BinOp} {k : IntKind} {a c : Int} {u : Value} (hu : u.oneCell' = true) (hrun : ∀ w, (binOp bop xt (.int k a) (.int k c)).run P w = .ok u w)
    (hdn : Nat.blt d n = true) (hg : gOk ops fr g) (hx : oev fr x = .d (.raw (.int k a))) (hy : oev fr y = .d (.raw (.int k c)))
    (hr : dops P n dr ops rest (⟨(gIns ops g ++ insAll [x, y] (raws [.int k a, .int k c])).map Prod.fst, [d], [], []⟩ :: log) K ((d, .d (.raw u)) :: fr) h) : dops P n dr ops (⟨some d, .binOp bop xt x y yt, ty, pos, after, g⟩ :: rest) log K fr h := by
  refine d_raw [x, y] [.int k a, .int k c] u (fun ρ w hρ => ?_) hu hdn hg ⟨hx, hy, trivial⟩ ?_ hr
  · simp only [List.map_cons, List.map_nil, List.cons.injEq, and_true] at hρ
    have e1 : (eqGuard bop xt x y (ρ x) (ρ y)).run P w = .ok () w := by
      rw [hρ.1, hρ.2]; unfold eqGuard; cases bop <;> rfl
    simp only [execOp, Sem.run_bind, e1, Result.andThen_ok]
    rw [hρ.1, hρ.2, hrun]
    simp
  · simp [oneOpd_of hx rfl, oneOpd_of hy rfl]
theorem d_add {x y : Operand} {xt yt : TypeId} {a c : Int} (hdn : Nat.blt d n = true) (hg : gOk ops fr g) (hx : oev fr x = I a) (hy : oev fr y = I c) (h1 : -9223372036854775808 ≤ a + c) (h2 : a + c ≤ 9223372036854775807)
    (hr : dops P n dr ops rest (⟨(gIns ops g ++ insAll [x, y] (raws [.int .i64 a, .int .i64 c])).map Prod.fst, [d], [], []⟩ :: log) K ((d, I (a + c)) :: fr) h) : dops P n dr ops (⟨some d, .binOp .add xt x y yt, ty, pos, after, g⟩ :: rest) log K fr h :=
  d_int2 (a := a) (c := c) rfl (fun w => by simp [binOp, Op.intArith, wrap64 h1 h2]) hdn hg hx hy hr
theorem d_sub {x y : Operand} {xt yt : TypeId} {a c : Int} (hdn : Nat.blt d n = true) (hg : gOk ops fr g) (hx : oev fr x = I a) (hy : oev fr y = I c) (h1 : -9223372036854775808 ≤ a - c) (h2 : a - c ≤ 9223372036854775807)
    (hr : dops P n dr ops rest (⟨(gIns ops g ++ insAll [x, y] (raws [.int .i64 a, .int .i64 c])).map Prod.fst, [d], [], []⟩ :: log) K ((d, I (a - c)) :: fr) h) : dops P n dr ops (⟨some d, .binOp .sub xt x y yt, ty, pos, after, g⟩ :: rest) log K fr h :=
  d_int2 (a := a) (c := c) rfl (fun w => by simp [binOp, Op.intArith, wrap64 h1 h2]) hdn hg hx hy hr
theorem d_mul {x y : Operand} {xt yt : TypeId} {a c : Int} (hdn : Nat.blt d n = true) (hg : gOk ops fr g) (hx : oev fr x = I a) (hy : oev fr y = I c) (h1 : -9223372036854775808 ≤ a * c) (h2 : a * c ≤ 9223372036854775807)
    (hr : dops P n dr ops rest (⟨(gIns ops g ++ insAll [x, y] (raws [.int .i64 a, .int .i64 c])).map Prod.fst, [d], [], []⟩ :: log) K ((d, I (a * c)) :: fr) h) : dops P n dr ops (⟨some d, .binOp .mul xt x y yt, ty, pos, after, g⟩ :: rest) log K fr h :=
  d_int2 (a := a) (c := c) rfl (fun w => by simp [binOp, Op.intArith, wrap64 h1 h2]) hdn hg hx hy hr
def cmpB : BinOp → Int → Int → Option Bool
  | .lss, a, c => some (decide (a < c))
  | .leq, a, c => some (decide (a ≤ c))
  | .gtr, a, c => some (decide (c < a))
  | .geq, a, c => some (decide (c ≤ a))
  | .eql, a, c => some (decide (a = c))
  | .neq, a, c => some (!decide (a = c))
  | _, _, _ => none
theorem d_cmp {x y : Operand} {xt yt : TypeId} {bop : BinOp} {k : IntKind} {a c : Int} {b : Bool} (hdn : Nat.blt d n = true) (hg : gOk ops fr g) (hx : oev fr x = .d (.raw (.int k a))) (hy : oev fr y = .d (.raw (.int k c))) (hb : cmpB bop a c = some b)
    (hr : dops P n dr ops rest (⟨(gIns ops g ++ insAll [x, y] (raws [.int k a, .int k c])).map Prod.fst, [d], [], []⟩ :: log) K ((d, B b) :: fr) h) : dops P n dr ops (⟨some d, .binOp bop xt x y yt, ty, pos, after, g⟩ :: rest) log K fr h := by
  refine d_int2 (k := k) (a := a) (c := c) (u := .bool b) rfl (fun w => ?_) hdn hg hx hy hr
  have e1 : (a == c) = decide (a = c) := by by_cases h : a = c <;> simp [h]
  have e2 : (a != c) = !decide (a = c) := by by_cases h : a = c <;> simp [h]
  cases bop <;> simp only [cmpB, Option.some.injEq, reduceCtorEq] at hb <;> rw [← hb] <;> simp only [binOp, Op.intCmp, ne_eq, not_true_eq_false, if_false, Sem.run_pure, e1, e2] <;> rfl
theorem d_not {x : Operand} {xt : TypeId} {b : Bool} (hdn : Nat.blt d n = true) (hg : gOk ops fr g) (hx : oev fr x = B b)
    (hr : dops P n dr ops rest (⟨(gIns ops g ++ insAll [x] (raws [.bool b])).map Prod.fst, [d], [], []⟩ :: log) K ((d, B (!b)) :: fr) h) : dops P n dr ops (⟨some d, .unOp .not xt x, ty, pos, after, g⟩ :: rest) log K fr h := by
  refine d_raw [x] [.bool b] (.bool !b) (fun ρ w hρ => ?_) rfl hdn hg ⟨hx, trivial⟩ ?_ hr
  · simp only [List.map_cons, List.map_nil, List.cons.injEq, and_true] at hρ
    simp [execOp, hρ, Op.unary]
  · simp [oneOpd_of hx rfl]
theorem d_neg {x : Operand} {xt : TypeId} {a : Int} (hdn : Nat.blt d n = true) (hg : gOk ops fr g) (hx : oev fr x = I a) (h1 : -9223372036854775807 ≤ a) (h2 : a ≤ 9223372036854775807)
    (hr : dops P n dr ops rest (⟨(gIns ops g ++ insAll [x] (raws [.int .i64 a])).map Prod.fst, [d], [], []⟩ :: log) K ((d, I (-a)) :: fr) h) : dops P n dr ops (⟨some d, .unOp .neg xt x, ty, pos, after, g⟩ :: rest) log K fr h := by
  refine d_raw [x] [.int .i64 a] (.int .i64 (-a)) (fun ρ w hρ => ?_) rfl hdn hg ⟨hx, trivial⟩ ?_ hr
  · simp only [List.map_cons, List.map_nil, List.cons.injEq, and_true] at hρ
    have : IntKind.i64.wrap (-a) = -a := wrap64 (by omega) (by omega)
    simp [execOp, hρ, Op.unary, Op.intArith, this]
  · simp [oneOpd_of hx rfl]
def sel {α : Type} (t : Bool) (x y : α) : α := match t with
  | true => x
  | false => y
def ptrLike : V → Bool
  | .ptr .. | .eptr .. => true
  | .fn (.func _) _ _ => true
  | _ => false
/-- A choice that is decided. -/
theorem d_pick {c x y : Operand} {b : Bool} {v : V} (t : Bool) (hdn : Nat.blt d n = true) (hg : gOk ops fr g) (hc : oev fr c = B b) (hb : b = t) (hv : oev fr (sel t x y) = v) (h1 : oneOpd (sel t x y) = true)
    (hr : dops P n dr ops rest (⟨(gIns ops g ++ (insOf c (B b) ++ insOf (sel t x y) v)).map Prod.fst, [d], [], []⟩ :: log) K ((d, v) :: fr) h) : dops P n dr ops (⟨some d, .pick c x y, ty, pos, after, g⟩ :: rest) log K fr h := by
  subst hb
  refine dops_cons (ins := gIns ops g ++ (insOf c (B b) ++ insOf (sel b x y) v)) (objs := []) (v := v) (upd := []) (LStep.pure rfl hdn rfl hg _ [] v fun G E fr' h' a w C hi _ => ?_) (fun p hp => ?_) (by simp) hr
  · have hc' := oev_of hc (fun p hp => hi p (List.mem_append.2 (.inl hp)))
    have q : oneOpd c = true := oneOpd_of hc rfl
    obtain ⟨r1, _⟩ := C.oev hc' (oneOpd_spec q)
    simp only [V.Rep, D.RepV, D.Rep, List.cons.injEq, and_true] at r1
    obtain ⟨s1, s2⟩ := C.oev (oev_of hv (fun p hp => hi p (List.mem_append.2 (.inr hp)))) (oneOpd_spec h1)
    refine ⟨_, ?_, s1, s2⟩
    cases b <;> simp [execOp, r1.1, asBool, sel]
  · rcases List.mem_append.1 hp with hp | hp
    · exact gOk_ins hg p hp
    · rcases List.mem_append.1 hp with hp | hp
      · exact oev_ins hc p hp
      · exact oev_ins hv p hp
/-- A choice between bools. -/
theorem d_pickB {c x y : Operand} {b p q : Bool} (hdn : Nat.blt d n = true) (hg : gOk ops fr g) (hc : oev fr c = B b) (hx : oev fr x = B p) (hy : oev fr y = B q)
    (hr : dops P n dr ops rest (⟨(gIns ops g ++ insAll [c, x, y] (raws [.bool b, .bool p, .bool q])).map Prod.fst, [d], [], []⟩ :: log) K ((d, B (sel b p q)) :: fr) h) : dops P n dr ops (⟨some d, .pick c x y, ty, pos, after, g⟩ :: rest) log K fr h := by
  refine d_raw [c, x, y] [.bool b, .bool p, .bool q] (.bool (sel b p q)) (fun ρ w hρ => ?_) rfl hdn hg ⟨hc, hx, hy, trivial⟩ ?_ hr
  · simp only [List.map_cons, List.map_nil, List.cons.injEq, and_true] at hρ
    cases b <;> simp [execOp, hρ, asBool, sel]
  · simp [oneOpd_of hc rfl, oneOpd_of hx rfl, oneOpd_of hy rfl]

/-- What is put is read off one operand. -/
theorem d_un {op : Op} (x : Operand) (v v' : V) (objs : List (Nat × Option Ob)) (ho : ∀ p ∈ objs, hget h p.1 = p.2) (hone : oneOpd x = true)
    (H : ∀ (G : Ctx) (E : Env) (fr : Fr) (h : Hp) (a : Act) (w : World), Conc G E fr h a w → (∀ p ∈ objs, hget h p.1 = p.2) → V.Rep E h (bars E h G.o) w v (a.eval x) → (∀ k ∈ v.keys, (hget h k).isSome = true) →
      ∃ u, (execOp a.eval ⟨some d, op, ty, pos, after, g⟩).run P w = .ok (.value u) w ∧ V.Rep E h (bars E h G.o) w v' u ∧ ∀ k ∈ v'.keys, (hget h k).isSome = true)
    (hdn : Nat.blt d n = true) (hg : gOk ops fr g) (hx : oev fr x = v)
    (hr : dops P n dr ops rest (⟨(gIns ops g ++ insOf x v).map Prod.fst, [d], objs.map Prod.fst, []⟩ :: log) K ((d, v') :: fr) h) : dops P n dr ops (⟨some d, op, ty, pos, after, g⟩ :: rest) log K fr h := by
  refine dops_cons (ins := gIns ops g ++ insOf x v) (objs := objs) (v := v') (upd := []) (LStep.pure rfl hdn rfl hg (insOf x v) objs v' fun G E fr' h' a w C hi ho' => ?_) (fun p hp => ?_) ho hr
  · obtain ⟨r1, r2⟩ := C.oev (oev_of hx hi) (oneOpd_spec hone)
    exact H G E fr' h' a w C ho' r1 r2
  · rcases List.mem_append.1 hp with hp | hp
    · exact gOk_ins hg p hp
    · exact oev_ins hx p hp
/-- Two operands, the second one an integer. -/
theorem d_un2 {op : Op} (x y : Operand) (v : V) (k : IntKind) (c : Int) (v' : V) (objs : List (Nat × Option Ob)) (ho : ∀ p ∈ objs, hget h p.1 = p.2) (hone : oneOpd x = true)
    (H : ∀ (G : Ctx) (E : Env) (fr : Fr) (h : Hp) (a : Act) (w : World), Conc G E fr h a w → (∀ p ∈ objs, hget h p.1 = p.2) → V.Rep E h (bars E h G.o) w v (a.eval x) → (∀ k ∈ v.keys, (hget h k).isSome = true) → a.eval y = .int k c →
      ∃ u, (execOp a.eval ⟨some d, op, ty, pos, after, g⟩).run P w = .ok (.value u) w ∧ V.Rep E h (bars E h G.o) w v' u ∧ ∀ k ∈ v'.keys, (hget h k).isSome = true)
    (hdn : Nat.blt d n = true) (hg : gOk ops fr g) (hx : oev fr x = v) (hy : oev fr y = .d (.raw (.int k c)))
    (hr : dops P n dr ops rest (⟨(gIns ops g ++ (insOf x v ++ insOf y (.d (.raw (.int k c))))).map Prod.fst, [d], objs.map Prod.fst, []⟩ :: log) K ((d, v') :: fr) h) : dops P n dr ops (⟨some d, op, ty, pos, after, g⟩ :: rest) log K fr h := by
  refine dops_cons (ins := gIns ops g ++ (insOf x v ++ insOf y (.d (.raw (.int k c))))) (objs := objs) (v := v') (upd := []) (LStep.pure rfl hdn rfl hg _ objs v' fun G E fr' h' a w C hi ho' => ?_) (fun p hp => ?_) ho hr
  · obtain ⟨r1, r2⟩ := C.oev (oev_of hx (fun p hp => hi p (List.mem_append.2 (.inl hp)))) (oneOpd_spec hone)
    have q : oneOpd y = true := oneOpd_of hy rfl
    obtain ⟨s1, _⟩ := C.oev (oev_of hy (fun p hp => hi p (List.mem_append.2 (.inr hp)))) (oneOpd_spec q)
    simp only [V.Rep, D.RepV, D.Rep, List.cons.injEq, and_true] at s1
    exact H G E fr' h' a w C ho' r1 r2 s1.1
  · rcases List.mem_append.1 hp with hp | hp
    · exact gOk_ins hg p hp
    · rcases List.mem_append.1 hp with hp | hp
      · exact oev_ins hx p hp
      · exact oev_ins hy p hp

/-! ### Part of a tuple, of a struct -/
theorem d_extract {x : Operand} {vs : List V} {i : Nat} {v : V} (hdn : Nat.blt d n = true) (hg : gOk ops fr g) (hx : oev fr x = .tup vs) (hi : vs[i]? = some v)
    (hr : dops P n dr ops rest (⟨(gIns ops g ++ insOf x (.tup vs)).map Prod.fst, [d], [], []⟩ :: log) K ((d, v) :: fr) h) : dops P n dr ops (⟨some d, .extract x i, ty, pos, after, g⟩ :: rest) log K fr h := by
  have hone : oneOpd x = true := oneOpd_of hx rfl
  refine d_un x (.tup vs) v [] (by simp) hone (fun G E fr h a w C _ r hk => ?_) hdn hg hx hr
  simp only [V.Rep] at r
  obtain ⟨us, h1, h2⟩ := r
  obtain ⟨u, h3, h4⟩ := h2.get hi
  refine ⟨u, ?_, h4, fun k hkk => hk k ?_⟩
  · simp [execOp, h1, Instr.extract, h3]
  · simp only [V.keys]; exact V.keyss_mem.2 ⟨v, List.mem_of_getElem? hi, hkk⟩
theorem d_nilCheck {x : Operand} {v : V} (hdn : Nat.blt d n = true) (hg : gOk ops fr g) (hx : oev fr x = v) (hv : ptrLike v = true)
    (hr : dops P n dr ops rest (⟨(gIns ops g ++ insOf x v).map Prod.fst, [d], [], []⟩ :: log) K ((d, v) :: fr) h) : dops P n dr ops (⟨some d, .nilCheck x, ty, pos, after, g⟩ :: rest) log K fr h := by
  have hone : oneOpd x = true := oneOpd_of hx (by cases v <;> simp_all [ptrLike, notAgg])
  refine d_un x v v [] (by simp) hone (fun G E fr h a w C _ r hk => ⟨a.eval x, ?_, r, hk⟩) hdn hg hx hr
  cases v with
  | ptr k off => simp only [V.Rep] at r; simp [execOp, r]
  | eptr t sz es i off => simp only [V.Rep] at r; obtain ⟨b, o, us, h1, _⟩ := r; simp [execOp, h1]
  | fn f fs cs =>
    simp only [V.Rep] at r
    obtain ⟨p, q, h1, _⟩ := r
    cases f with
    | func f => simp [execOp, h1]
    | _ => simp [ptrLike] at hv
  | _ => simp [ptrLike] at hv
theorem d_nilCheckO {x : Operand} {k m i off sz : Nat} {e : TypeId} {xs : List D} (hdn : Nat.blt d n = true) (hg : gOk ops fr g) (hx : oev fr x = .optr k m i off) (hk : hget h k = some (.row e sz xs)) (hm : xs.length = m)
    (hr : dops P n dr ops rest (⟨(gIns ops g ++ insOf x (.optr k m i off)).map Prod.fst, [d], [k], []⟩ :: log) K ((d, .optr k m i off) :: fr) h) : dops P n dr ops (⟨some d, .nilCheck x, ty, pos, after, g⟩ :: rest) log K fr h := by
  have hone : oneOpd x = true := oneOpd_of hx rfl
  refine d_un x (.optr k m i off) (.optr k m i off) [(k, some (.row e sz xs))] (by simpa using hk) hone (fun G E fr h a w C ho r hkk => ⟨a.eval x, ?_, r, hkk⟩) hdn hg hx hr
  have hk' := ho (k, some (.row e sz xs)) (by simp)
  simp only [V.Rep] at r
  obtain ⟨m', h1, h2, h0, h3⟩ := r
  have e1 := verAny_one h1 (.inl ⟨e, sz, xs, hk', hm⟩)
  obtain ⟨b, o, cap, _, h4⟩ := h3 e1.symm sz ⟨e, xs, hk', hm⟩
  simp [execOp, h4]

variable (T : TT P)
/-- A field's address. -/
theorem run_fieldAt {t : TypeId} {y : Ty} {f off sz : Nat} (ht : T.rows[t]? = some y) (hf : y.fields[f]? = some (off, sz)) (hsz : sz ≠ 0) (b o : Nat) (w : World) :
    (Instr.fieldAt t (.pointer (some ⟨b, o, none⟩)) f).run P w = .ok (.pointer (some ⟨b, o + off, none⟩)) w := by
  obtain ⟨i, ds, h1, h2, _, _, _, _, _, _, h9⟩ := tyOf_spec (T.at ht)
  obtain ⟨fs, rfl, h10⟩ := h9 (by intro e; rw [e] at hf; simp at hf)
  rw [h10] at hf
  simp only [List.getElem?_map, Array.getElem?_toList, Option.map_eq_some_iff, Prod.mk.injEq] at hf
  obtain ⟨fd, hfd, hoff, hs⟩ := hf
  have hso : (sizeOf fd.type).run P w = .ok sz w := by
    unfold sizeOf typeInfo
    have : P.cellsOf fd.type = sz := hs
    unfold Program.cellsOf at this
    cases hq : P.info? fd.type with
    | none => rw [hq] at this; simp at this; exact absurd this.symm hsz
    | some j => rw [hq] at this; simp at this; simp [hq, this]
  have hp : (fieldPlace ⟨b, o, none⟩ fd).run P w = .ok ⟨b, o + off, none⟩ w := by
    unfold fieldPlace
    rw [Sem.run_bind, hso]
    simp only [Result.andThen_ok]
    rw [if_neg hsz]
    simp [Addr.add_mid, hoff]
  simp only [Instr.fieldAt, Sem.run_bind, run_underlying h2, Result.andThen_ok, hfd, Instr.sureAddr, Sem.run_pure, hp]
theorem d_fieldAddr {x : Operand} {st f : Nat} {y : Ty} {k off fo sz o' : Nat} (hdn : Nat.blt d n = true) (hg : gOk ops fr g) (hx : oev fr x = .ptr k off) (ht : T.rows[st]? = some y) (hf : y.fields[f]? = some (fo, sz)) (hsz : Nat.beq sz 0 = false) (ho : off + fo = o')
    (hr : dops P n dr ops rest (⟨(gIns ops g ++ insOf x (.ptr k off)).map Prod.fst, [d], [], []⟩ :: log) K ((d, .ptr k o') :: fr) h) : dops P n dr ops (⟨some d, .fieldAddr st x f, ty, pos, after, g⟩ :: rest) log K fr h := by
  subst ho
  have hone : oneOpd x = true := oneOpd_of hx rfl
  refine d_un x (.ptr k off) (.ptr k (off + fo)) [] (by simp) hone (fun G E fr h a w C _ r hk => ?_) hdn hg hx hr
  simp only [V.Rep] at r
  refine ⟨.pointer (some ⟨E.blk k, off + fo, none⟩), ?_, by simp only [V.Rep], by simpa [V.keys] using hk⟩
  simp only [execOp, r, Sem.run_bind, run_fieldAt T ht hf (Nat.ne_of_beq_eq_false hsz), Result.andThen_ok, Sem.run_pure]
theorem d_fieldAddrE {x : Operand} {st f : Nat} {y : Ty} {t : Bool} {sz i off fo fs o' : Nat} {es : List D} (hdn : Nat.blt d n = true) (hg : gOk ops fr g) (hx : oev fr x = .eptr t sz es i off) (ht : T.rows[st]? = some y) (hf : y.fields[f]? = some (fo, fs)) (hsz : Nat.beq fs 0 = false) (ho : off + fo = o')
    (hr : dops P n dr ops rest (⟨(gIns ops g ++ insOf x (.eptr t sz es i off)).map Prod.fst, [d], [], []⟩ :: log) K ((d, .eptr t sz es i o') :: fr) h) : dops P n dr ops (⟨some d, .fieldAddr st x f, ty, pos, after, g⟩ :: rest) log K fr h := by
  subst ho
  have hone : oneOpd x = true := oneOpd_of hx rfl
  refine d_un x _ (.eptr t sz es i (off + fo)) [] (by simp) hone (fun G E fr h a w C _ r hk => ?_) hdn hg hx hr
  simp only [V.Rep] at r
  obtain ⟨b, o, us, h1, h2⟩ := r
  refine ⟨.pointer (some ⟨b, o + (i * sz + off) + fo, none⟩), ?_, ?_, by simp [V.keys]⟩
  · simp only [execOp, h1, Sem.run_bind, run_fieldAt T ht hf (Nat.ne_of_beq_eq_false hsz), Result.andThen_ok, Sem.run_pure]
  · simp only [V.Rep]; exact ⟨b, o, us, by simp only [Nat.add_assoc], h2⟩
theorem d_fieldAddrO {x : Operand} {st f : Nat} {y : Ty} {k m i off fo fs sz o' : Nat} {e : TypeId} {xs : List D} (hdn : Nat.blt d n = true) (hg : gOk ops fr g) (hx : oev fr x = .optr k m i off) (hk : hget h k = some (.row e sz xs)) (hm : xs.length = m)
    (ht : T.rows[st]? = some y) (hf : y.fields[f]? = some (fo, fs)) (hsz : Nat.beq fs 0 = false) (ho : off + fo = o')
    (hr : dops P n dr ops rest (⟨(gIns ops g ++ insOf x (.optr k m i off)).map Prod.fst, [d], [k], []⟩ :: log) K ((d, .optr k m i o') :: fr) h) : dops P n dr ops (⟨some d, .fieldAddr st x f, ty, pos, after, g⟩ :: rest) log K fr h := by
  subst ho
  have hone : oneOpd x = true := oneOpd_of hx rfl
  refine d_un x _ (.optr k m i (off + fo)) [(k, some (.row e sz xs))] (by simpa using hk) hone (fun G E fr h a w C ho2 r hkk => ?_) hdn hg hx hr
  have hk' := ho2 (k, some (.row e sz xs)) (by simp)
  simp only [V.Rep] at r
  obtain ⟨m', h1, h2, h0, h3⟩ := r
  have e1 := verAny_one h1 (.inl ⟨e, sz, xs, hk', hm⟩)
  obtain ⟨b, o, cap, h5, h4⟩ := h3 e1.symm sz ⟨e, xs, hk', hm⟩
  refine ⟨.pointer (some ⟨b, o + (i * sz + off) + fo, none⟩), ?_, ?_, by simpa [V.keys] using hkk⟩
  · simp only [execOp, h4, Sem.run_bind, run_fieldAt T ht hf (Nat.ne_of_beq_eq_false hsz), Result.andThen_ok, Sem.run_pure]
  · simp only [V.Rep]
    refine ⟨m', h1, h2, rfl, fun e' sz' hv => ?_⟩
    obtain ⟨e2, xs2, hk2, _⟩ := hv
    rw [hk'] at hk2; cases hk2
    exact ⟨b, o, cap, h5, by simp only [Nat.add_assoc]⟩

/-! ### An element's address -/
theorem run_indexAt_slice {t e : TypeId} {y ye : Ty} (ht : T.rows[t]? = some y) (he : y.elem = some e) (hte : T.rows[e]? = some ye) (b o len cap i : Nat) (k : IntKind) (hi : i < len) (w : World) :
    (Instr.indexAt t (.slice (some ⟨b, o, none⟩) len cap) (.int k (i : Int))).run P w = .ok (.pointer (some ⟨b, o + i * ye.size, none⟩)) w := by
  obtain ⟨_, ds, _, h2, _, _, _, _, h7, _⟩ := tyOf_spec (T.at ht)
  obtain ⟨j, _, g1, _, g3, _⟩ := tyOf_spec (T.at hte)
  have hds := h7 e he
  subst hds
  simp [Instr.indexAt, asIntOf, run_underlying h2, sizeOf, typeInfo, g1, g3, hi, Addr.add_mid]
theorem d_indexAddr {x ix : Operand} {st e : Nat} {y ye : Ty} {t : Bool} {sz : Nat} {es : List D} {ik : IntKind} {c : Int} (i : Nat) (hdn : Nat.blt d n = true) (hg : gOk ops fr g) (hx : oev fr x = .d (.sl t sz es)) (hy : oev fr ix = .d (.raw (.int ik c))) (hc : c = (i : Int)) (hlt : i < es.length)
    (ht : T.rows[st]? = some y) (he : y.elem = some e) (hte : T.rows[e]? = some ye) (hsz : Nat.beq ye.size sz = true)
    (hr : dops P n dr ops rest (⟨(gIns ops g ++ (insOf x (.d (.sl t sz es)) ++ insOf ix (.d (.raw (.int ik c))))).map Prod.fst, [d], [], []⟩ :: log) K ((d, .eptr t sz es i 0) :: fr) h) : dops P n dr ops (⟨some d, .indexAddr st x ix, ty, pos, after, g⟩ :: rest) log K fr h := by
  have hone : oneOpd x = true := oneOpd_of hx rfl
  refine d_un2 x ix _ ik c (.eptr t sz es i 0) [] (by simp) hone (fun G E fr h a w C _ r hk hyv => ?_) hdn hg hx hy hr
  simp only [V.Rep, D.RepV, D.Rep] at r
  obtain ⟨ad, cap, us, h1, h2, h3, h4, h5, h6⟩ := r
  simp only [List.cons.injEq, and_true] at h1
  obtain ⟨b, o, rfl, h7, h8, h9⟩ := h6 (by rintro rfl; simp at hlt)
  have hs := Nat.eq_of_beq_eq_true hsz
  refine ⟨.pointer (some ⟨b, o + i * sz, none⟩), ?_, ?_, by simp [V.keys]⟩
  · simp only [execOp, h1, hyv, hc, Sem.run_bind, run_indexAt_slice T ht he hte b o es.length cap i ik hlt, Result.andThen_ok, Sem.run_pure, hs]
  · simp only [V.Rep]
    exact ⟨b, o, us, by simp, hlt, h4, h5, h7, h8, h9⟩
theorem d_indexAddrO {x ix : Operand} {st e : Nat} {y ye : Ty} {k m sz : Nat} {e' : TypeId} {xs : List D} {ik : IntKind} {c : Int} (i : Nat) (hdn : Nat.blt d n = true) (hg : gOk ops fr g) (hx : oev fr x = .own k m) (hk : hget h k = some (.row e' sz xs)) (hm : xs.length = m) (hy : oev fr ix = .d (.raw (.int ik c))) (hc : c = (i : Int)) (hlt : i < m)
    (ht : T.rows[st]? = some y) (he : y.elem = some e) (hte : T.rows[e]? = some ye) (hsz : Nat.beq ye.size sz = true)
    (hr : dops P n dr ops rest (⟨(gIns ops g ++ (insOf x (.own k m) ++ insOf ix (.d (.raw (.int ik c))))).map Prod.fst, [d], [k], []⟩ :: log) K ((d, .optr k m i 0) :: fr) h) : dops P n dr ops (⟨some d, .indexAddr st x ix, ty, pos, after, g⟩ :: rest) log K fr h := by
  have hone : oneOpd x = true := oneOpd_of hx rfl
  refine d_un2 x ix _ ik c (.optr k m i 0) [(k, some (.row e' sz xs))] (by simpa using hk) hone (fun G E fr h a w C ho r hkk hyv => ?_) hdn hg hx hy hr
  have hk' := ho (k, some (.row e' sz xs)) (by simp)
  simp only [V.Rep] at r
  obtain ⟨m', h1, h2, h0, h3⟩ := r
  have e1 := verAny_one h1 (.inl ⟨e', sz, xs, hk', hm⟩)
  have hrow := C.heap.obs k _ hk'
  simp only [ObRep] at hrow
  obtain ⟨b, o, cap, us, q1, _⟩ := hrow.cells (by rintro rfl; simp at hm; omega)
  have hs := Nat.eq_of_beq_eq_true hsz
  have hev : a.eval x = .slice (some ⟨b, o, none⟩) xs.length cap := (h3 e1.symm).trans q1
  refine ⟨.pointer (some ⟨b, o + i * sz, none⟩), ?_, ?_, by simpa [V.keys] using hkk⟩
  · simp only [execOp, hev, hyv, hc, Sem.run_bind, run_indexAt_slice T ht he hte b o xs.length cap i ik (by omega), Result.andThen_ok, Sem.run_pure, hs]
  · simp only [V.Rep]
    refine ⟨m', h1, h2, rfl, fun _ sz' hv => ?_⟩
    obtain ⟨e2, xs2, hk2, _⟩ := hv
    rw [hk'] at hk2; cases hk2
    exact ⟨b, o, cap, by rw [q1, hm], by simp⟩
end
end Go.Proofs.Ytpaeihifcmohkaa
