/-
  Sim: a contract that is handed a row of the caller's own serves where nil is handed in. Sim: an argument that is read as something else: nil as a slice without elements. Sim: a field of a struct value. Sim: more operations on integers: bits, shifts, quotient, remainder, conversions, min, max.
-/
import Derived.Test.YticnpbopelgmiaaS3
set_option linter.unusedVariables false
set_option linter.unusedSimpArgs false
set_option linter.unusedSectionVars false
namespace Go.Proofs.Yticnpbopelgmiaa
open Go.RowKit

end Go.Proofs.Yticnpbopelgmiaa
namespace Go.Proofs.Yticnpbopelgmiaa
open Go.RowKit

theorem ACalls.le {P : Program} {f : FuncId} {args args' : List V} {h h' : Hp} {r : V} (hA : ACalls P f args' h r h') (hl : VLes args args') : ACalls P f args h r h' :=
  ⟨hA.ok, fun E w us o H hr hk ho hs => hA.run E w us o H (hl.reps hr) (by rw [← hl.keys]; exact hk) ho hs⟩
end Go.Proofs.Yticnpbopelgmiaa
namespace Go.Proofs.Yticnpbopelgmiaa
open Go.RowKit

/-- The field f of type st is the cell fo of m. -/
def FieldRun (P : Program) (st f m fo : Nat) : Prop := ∀ (l : List Value) (u : Value) (w : World), l.length = m → l[fo]? = some u → (Instr.field st (.agg l.toArray) f).run P w = .ok u w
theorem fieldRun {P : Program} {st f m fo ft : Nat} {fs : Array Field} {fd : Field} {d : TypeDesc} (hu : P.underlying st = some (.struct fs)) (hf : fs[f]? = some fd) (ho : fd.offset = fo) (hft : fd.type = ft) (hd : P.underlying ft = some d) (hr : d.isRow = false) : FieldRun P st f m fo := by
  intro l u w hl hg
  subst ho; subst hft
  have hagg : (isAgg fd.type).run P w = .ok false w := by
    unfold isAgg
    rw [Sem.run_bind, run_underlying hd w]
    cases d <;> simp_all [TypeDesc.isRow]
  simp only [Instr.field, Sem.run_bind, run_underlying hu, Result.andThen_ok, hf]
  simp [part, asAgg, Sem.run_bind, hagg, hg]
section
variable {P : Program} {n : Nat} {dr : Bool} {ops : Array Oper} {rest : List Oper} {log : List Rec} {K : Exit → Fr → Hp → Prop} {fr : Fr} {h : Hp}
variable {d : Nat} {ty : TypeId} {pos : String} {after : Array Edge} {g : Option (Nat × Bool)}
def isAggV : V → Bool
  | .d (.agg _) => true
  | .agg _ => true
  | _ => false
theorem d_field {x : Operand} {st f m fo : Nat} {v c : V} {cs : List V} (hdn : Nat.blt d n = true) (hg : gOk ops fr g) (hF : FieldRun P st f m fo) (hx : oev fr x = v) (h1 : oneOpd x = true) (hv : isAggV v = true) (hcs : v.cellsOf = some cs) (hm : cs.length = m) (hc : cs[fo]? = some c)
    (hr : dops P n dr ops rest (⟨(gIns ops g ++ insOf x v).map Prod.fst, [d], [], []⟩ :: log) K ((d, c) :: fr) h) : dops P n dr ops (⟨some d, .field st x f, ty, pos, after, g⟩ :: rest) log K fr h := by
  refine dops_cons (ins := gIns ops g ++ insOf x v) (objs := []) (v := c) (upd := []) (LStep.pure rfl hdn rfl hg (insOf x v) [] c fun G E fr' h' a w C hi _ => ?_) (fun p hp => ?_) (by simp) hr
  · obtain ⟨r1, r2⟩ := C.oev (oev_of hx hi) (oneOpd_spec h1)
    obtain ⟨c1, _⟩ := V.cells_rep hcs r1
    obtain ⟨u, hu, hur⟩ := c1.get hc
    have hagg : ∃ us : List Value, a.eval x = .agg us.toArray := by
      unfold isAggV at hv
      split at hv
      · simp only [V.Rep, D.RepV] at r1; obtain ⟨us, h1, _⟩ := r1; exact ⟨us, h1⟩
      · simp only [V.Rep] at r1; obtain ⟨us, h1, _⟩ := r1; exact ⟨us, h1⟩
      · cases hv
    obtain ⟨us, hus⟩ := hagg
    rw [hus] at hu c1
    have hl := c1.length
    simp only [Value.cells] at hu hl
    refine ⟨u, ?_, hur, fun k hk => r2 k ?_⟩
    · simp only [execOp, hus, Sem.run_bind, hF us u w (by simpa [hm] using hl) (by simpa using hu), Result.andThen_ok, Sem.run_pure]
    · exact keyss_cellsOf hcs k (V.keyss_mem.2 ⟨c, List.mem_of_getElem? hc, hk⟩)
  · rcases List.mem_append.1 hp with hp | hp
    · exact gOk_ins hg p hp
    · exact oev_ins hx p hp
end
end Go.Proofs.Yticnpbopelgmiaa
namespace Go.Proofs.Yticnpbopelgmiaa
open Go.RowKit

def orU (a c : Int) : Int := ((a.toNat ||| c.toNat : Nat) : Int)
def andU (a c : Int) : Int := ((a.toNat &&& c.toNat : Nat) : Int)
def shrU (a c : Int) : Int := ((a.toNat >>> c.toNat : Nat) : Int)
def shlU (a c : Int) : Int := ((a.toNat <<< c.toNat : Nat) : Int)
def minI (a c : Int) : Int := if c < a then c else a
def maxI (a c : Int) : Int := if a < c then c else a
section
variable {P : Program} {n : Nat} {dr : Bool} {ops : Array Oper} {rest : List Oper} {log : List Rec} {K : Exit → Fr → Hp → Prop} {fr : Fr} {h : Hp}
variable {d : Nat} {ty : TypeId} {pos : String} {after : Array Edge} {g : Option (Nat × Bool)}
/-- Two integers, of whatever kinds. -/
theorem d_int2k {x y : Operand} {yt xt : TypeId} {bop : BinOp} {k k' : IntKind} {a c : Int} {u : Value} (hu : u.oneCell' = true) (hrun : ∀ w, (binOp bop xt (.int k a) (.int k' c)).run P w = .ok u w)
    (hdn : Nat.blt d n = true) (hg : gOk ops fr g) (hx : oev fr x = .d (.raw (.int k a))) (hy : oev fr y = .d (.raw (.int k' c)))
    (hr : dops P n dr ops rest (⟨(gIns ops g ++ insAll [x, y] (raws [.int k a, .int k' c])).map Prod.fst, [d], [], []⟩ :: log) K ((d, .d (.raw u)) :: fr) h) : dops P n dr ops (⟨some d, .binOp bop xt x y yt, ty, pos, after, g⟩ :: rest) log K fr h := by
  refine d_raw [x, y] [.int k a, .int k' c] u (fun ρ w hρ => ?_) hu hdn hg ⟨hx, hy, trivial⟩ ?_ hr
  · simp only [List.map_cons, List.map_nil, List.cons.injEq, and_true] at hρ
    have e1 : (eqGuard bop xt x y (ρ x) (ρ y)).run P w = .ok () w := by
      rw [hρ.1, hρ.2]; unfold eqGuard; cases bop <;> rfl
    simp only [execOp, Sem.run_bind, e1, Result.andThen_ok]
    rw [hρ.1, hρ.2, hrun]
    simp
  · simp [oneOpd_of hx rfl, oneOpd_of hy rfl]
theorem bv_u64 {a : Int} (h1 : 0 ≤ a) (h2 : a < 18446744073709551616) : (BitVec.ofInt IntKind.u64.bits a).toNat = a.toNat := by
  show (BitVec.ofInt 64 a).toNat = a.toNat
  rw [BitVec.toNat_ofInt]; congr 1; omega
theorem wrapN_u64 {m : Nat} (h : m < 18446744073709551616) : IntKind.u64.wrap (m : Int) = (m : Int) := IntWalk.u64_in _ ⟨by omega, by omega⟩
theorem d_or {x y : Operand} {xt yt : TypeId} {a c : Int} (hdn : Nat.blt d n = true) (hg : gOk ops fr g) (hx : oev fr x = .d (.raw (.int .u64 a))) (hy : oev fr y = .d (.raw (.int .u64 c))) (h1 : 0 ≤ a) (h2 : a < 18446744073709551616) (h3 : 0 ≤ c) (h4 : c < 18446744073709551616)
    (hr : dops P n dr ops rest (⟨(gIns ops g ++ insAll [x, y] (raws [.int .u64 a, .int .u64 c])).map Prod.fst, [d], [], []⟩ :: log) K ((d, .d (.raw (.int .u64 (orU a c)))) :: fr) h) : dops P n dr ops (⟨some d, .binOp .or xt x y yt, ty, pos, after, g⟩ :: rest) log K fr h := by
  refine d_int2 rfl (fun w => ?_) hdn hg hx hy hr
  simp only [binOp, Op.intBits, ne_eq, not_true_eq_false, if_false, Sem.run_pure, BitVec.toNat_or]
  rw [bv_u64 h1 h2, bv_u64 h3 h4, wrapN_u64 (Nat.or_lt_two_pow (n := 64) (by omega) (by omega))]; rfl
theorem d_and {x y : Operand} {xt yt : TypeId} {a c : Int} (hdn : Nat.blt d n = true) (hg : gOk ops fr g) (hx : oev fr x = .d (.raw (.int .u64 a))) (hy : oev fr y = .d (.raw (.int .u64 c))) (h1 : 0 ≤ a) (h2 : a < 18446744073709551616) (h3 : 0 ≤ c) (h4 : c < 18446744073709551616)
    (hr : dops P n dr ops rest (⟨(gIns ops g ++ insAll [x, y] (raws [.int .u64 a, .int .u64 c])).map Prod.fst, [d], [], []⟩ :: log) K ((d, .d (.raw (.int .u64 (andU a c)))) :: fr) h) : dops P n dr ops (⟨some d, .binOp .and xt x y yt, ty, pos, after, g⟩ :: rest) log K fr h := by
  refine d_int2 rfl (fun w => ?_) hdn hg hx hy hr
  simp only [binOp, Op.intBits, ne_eq, not_true_eq_false, if_false, Sem.run_pure, BitVec.toNat_and]
  rw [bv_u64 h1 h2, bv_u64 h3 h4, wrapN_u64 (Nat.and_lt_two_pow (n := 64) _ (by omega))]; rfl
theorem d_shr {x y : Operand} {xt yt : TypeId} {a c : Int} {k : IntKind} (hdn : Nat.blt d n = true) (hg : gOk ops fr g) (hx : oev fr x = .d (.raw (.int .u64 a))) (hy : oev fr y = .d (.raw (.int k c))) (h1 : 0 ≤ a) (h3 : 0 ≤ c) (h4 : c ≤ 64)
    (hr : dops P n dr ops rest (⟨(gIns ops g ++ insAll [x, y] (raws [.int .u64 a, .int k c])).map Prod.fst, [d], [], []⟩ :: log) K ((d, .d (.raw (.int .u64 (shrU a c)))) :: fr) h) : dops P n dr ops (⟨some d, .binOp .shr xt x y yt, ty, pos, after, g⟩ :: rest) log K fr h := by
  refine d_int2k rfl (fun w => ?_) hdn hg hx hy hr
  simp only [binOp]
  rw [shift_shr .u64 k a c h3 (by simpa [IntKind.bits] using h4)]
  have e : shrU a c = a / 2 ^ c.toNat := by
    rw [shrU, Nat.shiftRight_eq_div_pow, Int.natCast_ediv, Int.toNat_of_nonneg h1]; simp
  rw [e]; rfl
theorem d_shl {x y : Operand} {xt yt : TypeId} {a c : Int} {k : IntKind} (hdn : Nat.blt d n = true) (hg : gOk ops fr g) (hx : oev fr x = .d (.raw (.int .u64 a))) (hy : oev fr y = .d (.raw (.int k c))) (h1 : a = 1) (h3 : 0 ≤ c) (h4 : c < 64)
    (hr : dops P n dr ops rest (⟨(gIns ops g ++ insAll [x, y] (raws [.int .u64 a, .int k c])).map Prod.fst, [d], [], []⟩ :: log) K ((d, .d (.raw (.int .u64 (shlU 1 c)))) :: fr) h) : dops P n dr ops (⟨some d, .binOp .shl xt x y yt, ty, pos, after, g⟩ :: rest) log K fr h := by
  subst h1
  refine d_int2k rfl (fun w => ?_) hdn hg hx hy hr
  simp only [binOp]
  rw [shift_shl .u64 k 1 c h3 (by simp [IntKind.bits]; omega)]
  have e : (1 : Int) * (2 : Int) ^ c.toNat = ((1 <<< c.toNat : Nat) : Int) := by
    rw [Nat.shiftLeft_eq]; simp
  have hl : (1 <<< c.toNat : Nat) < 18446744073709551616 := by
    rw [Nat.shiftLeft_eq, Nat.one_mul]
    exact Nat.pow_lt_pow_right (a := 2) (n := 64) (by decide) (by omega)
  rw [e, wrapN_u64 hl]; rfl
theorem d_rem {x y : Operand} {xt yt : TypeId} {a c : Int} {k : IntKind} (hdn : Nat.blt d n = true) (hg : gOk ops fr g) (hx : oev fr x = .d (.raw (.int k a))) (hy : oev fr y = .d (.raw (.int k c))) (h1 : 0 ≤ a) (h3 : 0 < c)
    (hr : dops P n dr ops rest (⟨(gIns ops g ++ insAll [x, y] (raws [.int k a, .int k c])).map Prod.fst, [d], [], []⟩ :: log) K ((d, .d (.raw (.int k (a % c)))) :: fr) h) : dops P n dr ops (⟨some d, .binOp .rem xt x y yt, ty, pos, after, g⟩ :: rest) log K fr h := by
  refine d_int2 rfl (fun w => ?_) hdn hg hx hy hr
  simp only [binOp, Op.intDiv, ne_eq, not_true_eq_false, if_false]
  rw [if_neg (by omega)]
  simp [Int.tmod_eq_emod_of_nonneg h1]
theorem d_quo {x y : Operand} {xt yt : TypeId} {a c : Int} (hdn : Nat.blt d n = true) (hg : gOk ops fr g) (hx : oev fr x = I a) (hy : oev fr y = I c) (h1 : 0 ≤ a) (h2 : a ≤ 9223372036854775807) (h3 : 0 < c)
    (hr : dops P n dr ops rest (⟨(gIns ops g ++ insAll [x, y] (raws [.int .i64 a, .int .i64 c])).map Prod.fst, [d], [], []⟩ :: log) K ((d, I (a / c)) :: fr) h) : dops P n dr ops (⟨some d, .binOp .quo xt x y yt, ty, pos, after, g⟩ :: rest) log K fr h := by
  refine d_int2 (k := .i64) rfl (fun w => ?_) hdn hg hx hy hr
  simp only [binOp, Op.intDiv, ne_eq, not_true_eq_false, if_false]
  rw [if_neg (by omega)]
  have e : a.tdiv c = a / c := Int.tdiv_eq_ediv_of_nonneg h1
  have h4 : 0 ≤ a / c := Int.ediv_nonneg h1 (by omega)
  have h5 : a / c ≤ a := Int.ediv_le_self _ h1
  simp only [e, wrap64 (show -9223372036854775808 ≤ a / c by omega) (show a / c ≤ 9223372036854775807 by omega), Sem.run_pure]
/-- An integer of another kind. -/
theorem d_conv {x : Operand} {st dt : TypeId} {a c : Int} {k k' : IntKind} {ds : TypeDesc} (hdn : Nat.blt d n = true) (hg : gOk ops fr g) (hx : oev fr x = .d (.raw (.int k a))) (hs : P.underlying st = some ds) (hu : P.underlying dt = some (.int k')) (hw : k'.wrap a = c)
    (hr : dops P n dr ops rest (⟨(gIns ops g ++ insAll [x] (raws [.int k a])).map Prod.fst, [d], [], []⟩ :: log) K ((d, .d (.raw (.int k' c))) :: fr) h) : dops P n dr ops (⟨some d, .convert st dt x, ty, pos, after, g⟩ :: rest) log K fr h := by
  subst hw
  refine d_raw [x] [.int k a] _ (fun ρ w hρ => ?_) rfl hdn hg ⟨hx, trivial⟩ (by simp [oneOpd_of hx rfl]) hr
  simp only [List.map_cons, List.map_nil, List.cons.injEq, and_true] at hρ
  have : (convert st dt (.int k a)).run P w = .ok (.int k' (k'.wrap a)) w := by
    unfold convert
    simp only [Sem.run_bind, run_underlying hs, run_underlying hu, Result.andThen_ok]
    cases ds <;> simp [Conv.intToInt]
  simp only [execOp, hρ, Sem.run_bind, this, Result.andThen_ok, Sem.run_pure]
theorem run_callB {ρ : Operand → Value} {b : Builtin} {xs : List Operand} {ts : Array TypeId} {w : World} {v : Value} {m : Sem Value} (hb : ∀ cs, builtin b ts ty cs (xs.map ρ).toArray = (do pure (.value (← m)))) (h : m.run P w = .ok v w) :
    (execOp ρ ⟨some d, .call { callee := .builtin b, args := xs.toArray, argTypes := ts }, ty, pos, after, g⟩).run P w = .ok (.value v) w := by
  simp only [execOp, resolve, Sem.run_bind, Sem.run_pure, Result.andThen_ok, invoke, List.map_toArray, hb, h]
theorem d_min {x y : Operand} {ts : Array TypeId} {k : IntKind} {a c : Int} (hdn : Nat.blt d n = true) (hg : gOk ops fr g) (hx : oev fr x = .d (.raw (.int k a))) (hy : oev fr y = .d (.raw (.int k c)))
    (hr : dops P n dr ops rest (⟨(gIns ops g ++ insAll [x, y] (raws [.int k a, .int k c])).map Prod.fst, [d], [], []⟩ :: log) K ((d, .d (.raw (.int k (minI a c)))) :: fr) h) : dops P n dr ops (⟨some d, .call { callee := .builtin .min, args := #[x, y], argTypes := ts }, ty, pos, after, g⟩ :: rest) log K fr h := by
  refine d_raw [x, y] [.int k a, .int k c] _ (fun ρ w hρ => ?_) rfl hdn hg ⟨hx, hy, trivial⟩ (by simp [oneOpd_of hx rfl, oneOpd_of hy rfl]) hr
  exact run_callB (xs := [x, y]) (fun cs => rfl) (by rw [hρ]; rfl)
theorem d_max {x y : Operand} {ts : Array TypeId} {k : IntKind} {a c : Int} (hdn : Nat.blt d n = true) (hg : gOk ops fr g) (hx : oev fr x = .d (.raw (.int k a))) (hy : oev fr y = .d (.raw (.int k c)))
    (hr : dops P n dr ops rest (⟨(gIns ops g ++ insAll [x, y] (raws [.int k a, .int k c])).map Prod.fst, [d], [], []⟩ :: log) K ((d, .d (.raw (.int k (maxI a c)))) :: fr) h) : dops P n dr ops (⟨some d, .call { callee := .builtin .max, args := #[x, y], argTypes := ts }, ty, pos, after, g⟩ :: rest) log K fr h := by
  refine d_raw [x, y] [.int k a, .int k c] _ (fun ρ w hρ => ?_) rfl hdn hg ⟨hx, hy, trivial⟩ (by simp [oneOpd_of hx rfl, oneOpd_of hy rfl]) hr
  exact run_callB (xs := [x, y]) (fun cs => rfl) (by rw [hρ]; rfl)
end
end Go.Proofs.Yticnpbopelgmiaa
