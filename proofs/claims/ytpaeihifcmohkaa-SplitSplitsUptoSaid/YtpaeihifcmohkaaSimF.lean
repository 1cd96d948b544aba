/-
  Sim: the steps of operations that touch no object: what they ask, what they put.
-/
import Derived.Test.YtpaeihifcmohkaaSimE
set_option linter.unusedVariables false
set_option linter.unusedSimpArgs false
namespace Go.Proofs.Ytpaeihifcmohkaa
open Go.RowKit

/-! ### What is known of types -/
structure Ty where
  size : Nat
  bytes : Nat
  row : Bool
  str : Bool
  zero : Option Value
  elem : Option Nat
  fields : List (Nat × Nat)
def tyOf (P : Program) (t : TypeId) : Option Ty :=
  match P.info? t, P.underlying t with
  | some i, some ds => some { size := i.size, bytes := i.bytes, row := ds.isRow, str := (match ds with | .string => true | _ => false), zero := i.zero, elem := (match ds with | .slice e => some e | _ => none), fields := (match ds with | .struct fs => fs.toList.map fun f => (f.offset, P.cellsOf f.type) | _ => []) }
  | _, _ => none
structure TT (P : Program) where
  rows : List Ty
  ok : rows.map some = (List.range rows.length).map (tyOf P)
theorem TT.at {P : Program} (T : TT P) {t : Nat} {y : Ty} (h : T.rows[t]? = some y) : tyOf P t = some y := by
  have h1 := congrArg (fun l => l[t]?) T.ok
  obtain ⟨hl, _⟩ := List.getElem?_eq_some_iff.1 h
  simp only [List.getElem?_map, h, List.getElem?_range hl, Option.map_some] at h1
  simpa using h1.symm
theorem tyOf_spec {P : Program} {t : TypeId} {y : Ty} (h : tyOf P t = some y) : ∃ i ds, P.info? t = some i ∧ P.underlying t = some ds ∧ i.size = y.size ∧ i.bytes = y.bytes ∧ ds.isRow = y.row ∧ i.zero = y.zero ∧
    (∀ e, y.elem = some e → ds = .slice e) ∧ (y.str = true → ds = .string) ∧ (y.fields ≠ [] → ∃ fs, ds = .struct fs ∧ y.fields = fs.toList.map fun f => (f.offset, P.cellsOf f.type)) := by
  unfold tyOf at h
  cases hi : P.info? t with
  | none => rw [hi] at h; cases h
  | some i =>
    cases hu : P.underlying t with
    | none => rw [hi, hu] at h; cases h
    | some ds =>
      rw [hi, hu] at h
      simp only [Option.some.injEq] at h
      subst h
      refine ⟨i, ds, rfl, rfl, rfl, rfl, rfl, rfl, fun e he => ?_, fun hs => ?_, fun hf => ?_⟩
      · cases ds <;> simp_all
      · cases ds <;> simp_all
      · cases ds with
        | struct fs => exact ⟨fs, rfl, rfl⟩
        | _ => simp at hf

/-! ### Operands, guards -/
section
variable {P : Program} {n : Nat} {dr : Bool} {ops : Array Oper} {rest : List Oper} {log : List Rec} {K : Fr → Hp → Prop} {fr : Fr} {h : Hp}
def insOf (x : Operand) (v : V) : List (Nat × V) := match x with
  | .tmp t => [(t, v)]
  | _ => []
def insAll : List Operand → List V → List (Nat × V)
  | x :: xs, v :: vs => insOf x v ++ insAll xs vs
  | _, _ => []
def oevs (fr : Fr) : List Operand → List V → Prop
  | [], [] => True
  | x :: xs, v :: vs => oev fr x = v ∧ oevs fr xs vs
  | _, _ => False
theorem oev_of {fr fr' : Fr} {x : Operand} {v : V} (hx : oev fr x = v) (hi : ∀ p ∈ insOf x v, fget fr' p.1 = p.2) : oev fr' x = v := by
  cases x with
  | tmp t => simpa [oev, insOf] using hi
  | const c => rw [← hx]; cases c <;> rfl
  | global g => rw [← hx]; rfl
  | func f => rw [← hx]; rfl
theorem oev_ins {fr : Fr} {x : Operand} {v : V} (hx : oev fr x = v) : ∀ p ∈ insOf x v, fget fr p.1 = p.2 := by
  cases x <;> simp [insOf]
  simpa [oev] using hx
theorem oevs_of {fr fr' : Fr} : ∀ {xs : List Operand} {vs : List V}, oevs fr xs vs → (∀ p ∈ insAll xs vs, fget fr' p.1 = p.2) → oevs fr' xs vs
  | [], [], _, _ => trivial
  | x :: xs, v :: vs, h1, h2 => by
    simp only [oevs, insAll, List.mem_append] at h1 h2 ⊢
    exact ⟨oev_of h1.1 (fun p hp => h2 p (.inl hp)), oevs_of h1.2 (fun p hp => h2 p (.inr hp))⟩
  | [], _ :: _, h1, _ => by simp [oevs] at h1
  | _ :: _, [], h1, _ => by simp [oevs] at h1
theorem oevs_ins {fr : Fr} : ∀ {xs : List Operand} {vs : List V}, oevs fr xs vs → ∀ p ∈ insAll xs vs, fget fr p.1 = p.2
  | [], [], _ => by simp [insAll]
  | x :: xs, v :: vs, h1 => by
    simp only [oevs, insAll, List.mem_append] at h1 ⊢
    rintro p (hp | hp)
    · exact oev_ins h1.1 p hp
    · exact oevs_ins h1.2 p hp
  | [], _ :: _, h1 => by simp [oevs] at h1
  | _ :: _, [], h1 => by simp [oevs] at h1
theorem Conc.oev {G : Ctx} {E : Env} {a : Act} {w : World} (C : Conc G E fr h a w) {x : Operand} {v : V} (hx : oev fr x = v) (hone : ∀ c, x = .const c → c.oneCell' = true) : V.Rep E h (bars E h G.o) w v (a.eval x) ∧ ∀ k ∈ v.keys, (hget h k).isSome = true := by
  subst hx
  cases x with
  | tmp t => exact ⟨C.frame t, C.closed t⟩
  | const c =>
    have := hone c rfl
    cases c <;> first
      | (simp [Value.oneCell'] at this; done)
      | exact ⟨by simp [Proofs.Ytpaeihifcmohkaa.oev, V.Rep, D.RepV, D.Rep, Act.eval, Value.oneCell'], by simp [Proofs.Ytpaeihifcmohkaa.oev, V.keys]⟩
  | global g => exact ⟨by simp [Proofs.Ytpaeihifcmohkaa.oev, V.Rep], by simp [Proofs.Ytpaeihifcmohkaa.oev, V.keys]⟩
  | func f => exact ⟨by simp [Proofs.Ytpaeihifcmohkaa.oev, V.Rep, V.Reps, Act.eval], by simp [Proofs.Ytpaeihifcmohkaa.oev, V.keys, V.keyss]⟩
/-- A constant is one cell. -/
def oneOpd : Operand → Bool
  | .const (.agg _) | .const (.tuple _) => false
  | _ => true
theorem oneOpd_spec {x : Operand} (hx : oneOpd x = true) : ∀ c, x = .const c → c.oneCell' = true := by
  rintro c rfl; cases c <;> simp_all [oneOpd, Value.oneCell']

/-- The slot that a guard asks. -/
def gIns (ops : Array Oper) : Option (Nat × Bool) → List (Nat × V)
  | none => []
  | some (j, want) => match (ops[j]?).bind (·.dst) with
    | some s => [(s, .d (.raw (.bool want)))]
    | none => [(0, .fn (.func 0) [.junk] [])]
def gOk (ops : Array Oper) (fr : Fr) : Option (Nat × Bool) → Prop
  | none => True
  | some (j, want) => match (ops[j]?).bind (·.dst) with
    | some s => fget fr s = .d (.raw (.bool want))
    | none => False
theorem gOk_ins {g : Option (Nat × Bool)} (hg : gOk ops fr g) : ∀ p ∈ gIns ops g, fget fr p.1 = p.2 := by
  cases g with
  | none => simp [gIns]
  | some q =>
    obtain ⟨j, want⟩ := q
    unfold gOk at hg
    unfold gIns
    simp only at hg ⊢
    cases hs : (ops[j]?).bind (·.dst) with
    | none => rw [hs] at hg; exact hg.elim
    | some s => rw [hs] at hg; simpa using hg
theorem gOk_of {fr fr' : Fr} {g : Option (Nat × Bool)} (hg : gOk ops fr g) (hi : ∀ p ∈ gIns ops g, fget fr' p.1 = p.2) : gOk ops fr' g := by
  cases g with
  | none => trivial
  | some q =>
    obtain ⟨j, want⟩ := q
    unfold gOk at hg ⊢
    unfold gIns at hi
    simp only at hg hi ⊢
    cases hs : (ops[j]?).bind (·.dst) with
    | none => rw [hs] at hg; exact hg.elim
    | some s => rw [hs] at hi; simpa using hi
theorem gOk_wanted {G : Ctx} {E : Env} {a : Act} {w : World} (C : Conc G E fr h a w) {o : Oper} (hg : gOk ops fr o.guard) : Region.wanted o (yielded ops a.tmps) = true := by
  unfold Region.wanted
  cases hq : o.guard with
  | none => rfl
  | some q =>
    obtain ⟨j, want⟩ := q
    rw [hq] at hg
    unfold gOk at hg
    simp only at hg ⊢
    cases hs : (ops[j]?).bind (·.dst) with
    | none => rw [hs] at hg; exact hg.elim
    | some s =>
      rw [hs] at hg
      simp only at hg
      have hf := C.frame s
      rw [hg] at hf
      simp only [V.Rep, D.RepV, D.Rep, List.cons.injEq, and_true] at hf
      have ht : a.tmps[s]? = some (.bool want) := by
        have := hf.1
        simp only [Array.getD_eq_getD_getElem?] at this
        cases hb : a.tmps[s]? with
        | none => rw [hb] at this; simp [undef] at this
        | some u => rw [hb] at this; simp at this; rw [this]
      unfold yielded
      rw [hs]
      simp [ht]

/-- An operation whose value hangs on slots and objects alone. -/
theorem LStep.pure {o : Oper} {d : Nat} {g : Option (Nat × Bool)} (hd : o.dst = some d) (hdn : Nat.blt d n = true) (hg : o.guard = g) (hgk : gOk ops fr g) (ins : List (Nat × V)) (objs : List (Nat × Option Ob)) (v : V)
    (H : ∀ (G : Ctx) (E : Env) (fr : Fr) (h : Hp) (a : Act) (w : World), Conc G E fr h a w → (∀ p ∈ ins, fget fr p.1 = p.2) → (∀ p ∈ objs, hget h p.1 = p.2) →
      ∃ u, (execOp a.eval o).run P w = .ok (.value u) w ∧ V.Rep E h (bars E h G.o) w v u ∧ ∀ k ∈ v.keys, (hget h k).isSome = true) : LStep P n ops o (gIns ops g ++ ins) objs v [] := by
  intro G E fr' h a w K Q hn C hi ho hK
  have hgo : gOk ops fr' o.guard := by rw [hg]; exact gOk_of hgk (fun p hp => hi p (List.mem_append.2 (.inl hp)))
  obtain ⟨u, h1, h2, h3⟩ := H G E fr' h a w C (fun p hp => hi p (List.mem_append.2 (.inr hp))) ho
  unfold wpS
  rw [if_pos (gOk_wanted C hgo)]
  refine .inl ?_
  unfold Oper.wp
  rw [h1]
  simp only [Oper.upon]
  refine hK E _ w ?_
  rw [hd]
  exact C.put (by rw [hn]; simpa [Nat.blt_eq] using hdn) h2 h3
/-- An operation that is not wanted. -/
theorem LStep.skip {o : Oper} {j : Nat} {want : Bool} {s : Nat} (hd : ∀ d, o.dst = some d → Nat.blt d n = true) (hg : o.guard = some (j, want)) (hs : (ops[j]?).bind (·.dst) = some s) : LStep P n ops o [(s, .d (.raw (.bool !want)))] [] .junk [] := by
  intro G E fr' h a w K Q hn C hi _ hK
  have hf := C.frame s
  rw [hi (s, .d (.raw (.bool !want))) (by simp)] at hf
  simp only [V.Rep, D.RepV, D.Rep, List.cons.injEq, and_true] at hf
  have ht : a.tmps[s]? = some (.bool !want) := by
    have := hf.1
    simp only [Array.getD_eq_getD_getElem?] at this
    cases hb : a.tmps[s]? with
    | none => rw [hb] at this; simp [undef] at this
    | some u => rw [hb] at this; simp at this; rw [this]
  have hw : ¬ Region.wanted o (yielded ops a.tmps) = true := by
    unfold Region.wanted yielded
    rw [hg]
    simp only [hs, Option.bind_some, ht]
    cases want <;> simp
  unfold wpS
  rw [if_neg hw]
  refine hK E _ w ?_
  cases hdd : o.dst with
  | none => exact C.putNone _
  | some d => exact C.put (by rw [hn]; simpa [Nat.blt_eq] using hd d hdd) (by simp [V.Rep]) (by simp [V.keys])

theorem dops_cons {o : Oper} {ins : List (Nat × V)} {objs : List (Nat × Option Ob)} {v : V} {upd : List (Nat × Ob)} (hs : LStep P n ops o ins objs v upd) (h1 : ∀ p ∈ ins, fget fr p.1 = p.2) (h2 : ∀ p ∈ objs, hget h p.1 = p.2)
    (h3 : dops P n dr ops rest (⟨ins.map Prod.fst, o.dst.toList, objs.map Prod.fst, upd.map Prod.fst⟩ :: log) K (dput o.dst v fr) (upd ++ h)) : dops P n dr ops (o :: rest) log K fr h := .inl ⟨ins, objs, v, upd, hs, h1, h2, h3⟩
theorem dops_nil (ho : dr = true → orderOk ops.toList log.reverse = true) (hK : K fr h) : dops P n dr ops [] log K fr h := ⟨ho, hK⟩
theorem dops_end (hK : K fr h) : dops P n false ops [] log K fr h := ⟨by simp, hK⟩
theorem dops_drawn (ho : orderOk ops.toList log.reverse = true) (hK : K fr h) : dops P n true ops [] log K fr h := ⟨fun _ => ho, hK⟩

/-! The rules. d: the slot that is written; g: the guard. -/
variable {d : Nat} {ty : TypeId} {pos : String} {after : Array Edge} {g : Option (Nat × Bool)}
/-- Not wanted. -/
theorem d_skip {dst : Option Tmp} {op : Op} {j : Nat} {want : Bool} {s : Nat} {b : Bool} (hs : (ops[j]?).bind (·.dst) = some s) (hb : fget fr s = .d (.raw (.bool b))) (hbw : b = !want) (hd : ∀ d, dst = some d → Nat.blt d n = true)
    (hr : dops P n dr ops rest (⟨[s], dst.toList, [], []⟩ :: log) K (dput dst .junk fr) h) : dops P n dr ops (⟨dst, op, ty, pos, after, some (j, want)⟩ :: rest) log K fr h :=
  dops_cons (ins := [(s, .d (.raw (.bool !want)))]) (objs := []) (LStep.skip hd rfl hs) (by simp; rw [hb, hbw]) (by simp) hr
theorem d_mov {op : Op} (x : Operand) (v : V) (hop : ∀ ρ : Operand → Value, execOp ρ ⟨some d, op, ty, pos, after, g⟩ = .pure (.value (ρ x))) (hdn : Nat.blt d n = true) (hg : gOk ops fr g) (hx : oev fr x = v) (h1 : oneOpd x = true)
    (hr : dops P n dr ops rest (⟨(gIns ops g ++ insOf x v).map Prod.fst, [d], [], []⟩ :: log) K ((d, v) :: fr) h) : dops P n dr ops (⟨some d, op, ty, pos, after, g⟩ :: rest) log K fr h := by
  refine dops_cons (ins := gIns ops g ++ insOf x v) (objs := []) (v := v) (upd := []) (LStep.pure rfl hdn rfl hg (insOf x v) [] v fun G E fr' h' a w C hi _ => ?_) (fun p hp => ?_) (by simp) hr
  · obtain ⟨r1, r2⟩ := C.oev (oev_of hx hi) (oneOpd_spec h1)
    exact ⟨_, by rw [hop]; rfl, r1, r2⟩
  · rcases List.mem_append.1 hp with hp | hp
    · exact gOk_ins hg p hp
    · exact oev_ins hx p hp
theorem d_move {x : Operand} {v : V} (hdn : Nat.blt d n = true) (hg : gOk ops fr g) (hx : oev fr x = v) (h1 : oneOpd x = true)
    (hr : dops P n dr ops rest (⟨(gIns ops g ++ insOf x v).map Prod.fst, [d], [], []⟩ :: log) K ((d, v) :: fr) h) : dops P n dr ops (⟨some d, .move x, ty, pos, after, g⟩ :: rest) log K fr h :=
  d_mov x v (fun _ => rfl) hdn hg hx h1 hr
theorem d_assign {x : Operand} {v : V} (hdn : Nat.blt d n = true) (hg : gOk ops fr g) (hx : oev fr x = v) (h1 : oneOpd x = true)
    (hr : dops P n dr ops rest (⟨(gIns ops g ++ insOf x v).map Prod.fst, [d], [], []⟩ :: log) K ((d, v) :: fr) h) : dops P n dr ops (⟨some d, .assign x, ty, pos, after, g⟩ :: rest) log K fr h :=
  d_mov x v (fun _ => rfl) hdn hg hx h1 hr

/-- Operands that are plain values: the operation computes. -/
def raws (us : List Value) : List V := us.map fun u => .d (.raw u)
theorem d_raw {op : Op} (xs : List Operand) (us : List Value) (u : Value) (hop : ∀ (ρ : Operand → Value) (w : World), xs.map ρ = us → (execOp ρ ⟨some d, op, ty, pos, after, g⟩).run P w = .ok (.value u) w) (hu : u.oneCell' = true)
    (hdn : Nat.blt d n = true) (hg : gOk ops fr g) (hx : oevs fr xs (raws us)) (h1 : xs.all oneOpd = true)
    (hr : dops P n dr ops rest (⟨(gIns ops g ++ insAll xs (raws us)).map Prod.fst, [d], [], []⟩ :: log) K ((d, .d (.raw u)) :: fr) h) : dops P n dr ops (⟨some d, op, ty, pos, after, g⟩ :: rest) log K fr h := by
  refine dops_cons (ins := gIns ops g ++ insAll xs (raws us)) (objs := []) (v := .d (.raw u)) (upd := []) (LStep.pure rfl hdn rfl hg (insAll xs (raws us)) [] _ fun G E fr' h' a w C hi _ => ?_) (fun p hp => ?_) (by simp) hr
  · have hx' := oevs_of hx hi
    have he : xs.map a.eval = us := by
      clear hx hi hr hop
      induction xs generalizing us with
      | nil => cases us <;> simp_all [oevs, raws]
      | cons x xs ih =>
        cases us with
        | nil => simp [oevs, raws] at hx'
        | cons u us =>
          simp only [raws, List.map_cons, oevs] at hx'
          simp only [List.all_cons, Bool.and_eq_true] at h1
          obtain ⟨r1, _⟩ := C.oev hx'.1 (oneOpd_spec h1.1)
          simp only [V.Rep, D.RepV, D.Rep, List.cons.injEq, and_true] at r1
          simp only [List.map_cons, r1.1]
          rw [ih us h1.2 hx'.2]
    exact ⟨u, hop _ w he, by simp [V.Rep, D.RepV, D.Rep, hu], by simp [V.keys]⟩
  · rcases List.mem_append.1 hp with hp | hp
    · exact gOk_ins hg p hp
    · exact oevs_ins hx p hp
end
end Go.Proofs.Ytpaeihifcmohkaa
