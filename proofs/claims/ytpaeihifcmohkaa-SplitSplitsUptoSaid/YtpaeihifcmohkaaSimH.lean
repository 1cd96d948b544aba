/-
  Sim: the steps of operations that read objects, make them, or write to them.
-/
import Derived.Test.YtpaeihifcmohkaaSimG
import Derived.Laws.CopyRow
import Derived.Laws.MakeOwn
import Derived.Great.FillDense
set_option linter.unusedVariables false
set_option linter.unusedSimpArgs false
namespace Go.Proofs.Ytpaeihifcmohkaa
open Go.RowKit

section
variable {P : Program} {n : Nat} {dr : Bool} {ops : Array Oper} {rest : List Oper} {log : List Rec} {K : Fr → Hp → Prop} {fr : Fr} {h : Hp}
variable {d : Nat} {ty : TypeId} {pos : String} {after : Array Edge} {g : Option (Nat × Bool)}

/-- An operation that makes or changes objects, and puts a value. -/
theorem LStep.updV {o : Oper} (hd : o.dst = some d) (hdn : Nat.blt d n = true) (hg : o.guard = g) (hgk : gOk ops fr g) (ins : List (Nat × V)) (objs : List (Nat × Option Ob)) (v : V) (upd : List (Nat × Ob))
    (H : ∀ (G : Ctx) (E : Env) (fr : Fr) (h : Hp) (a : Act) (w : World), Conc G E fr h a w → (∀ p ∈ ins, fget fr p.1 = p.2) → (∀ p ∈ objs, hget h p.1 = p.2) →
      ∃ u E' w', (execOp a.eval o).run P w = .ok (.value u) w' ∧ Conc G E' fr (upd ++ h) a w' ∧ V.Rep E' (upd ++ h) (bars E' (upd ++ h) G.o) w' v u ∧ ∀ k ∈ v.keys, (hget (upd ++ h) k).isSome = true) : LStep P n ops o (gIns ops g ++ ins) objs v upd := by
  intro G E fr' h a w K Q hn C hi ho hK
  have hgo : gOk ops fr' o.guard := by rw [hg]; exact gOk_of hgk (fun p hp => hi p (List.mem_append.2 (.inl hp)))
  obtain ⟨u, E', w', h1, C', h2, h3⟩ := H G E fr' h a w C (fun p hp => hi p (List.mem_append.2 (.inr hp))) ho
  unfold wpS
  rw [if_pos (gOk_wanted C hgo)]
  refine .inl ?_
  unfold Oper.wp
  rw [h1]
  simp only [Oper.upon]
  refine hK E' _ w' ?_
  rw [hd]
  exact C'.put (by rw [hn]; simpa [Nat.blt_eq] using hdn) h2 h3
/-- An operation that writes. -/
theorem LStep.updS {o : Oper} (hd : o.dst = none) (hg : o.guard = g) (hgk : gOk ops fr g) (ins : List (Nat × V)) (objs : List (Nat × Option Ob)) (upd : List (Nat × Ob))
    (H : ∀ (G : Ctx) (E : Env) (fr : Fr) (h : Hp) (a : Act) (w : World), Conc G E fr h a w → (∀ p ∈ ins, fget fr p.1 = p.2) → (∀ p ∈ objs, hget h p.1 = p.2) →
      ∃ E' w', (execOp a.eval o).run P w = .ok .skip w' ∧ Conc G E' fr (upd ++ h) a w') : LStep P n ops o (gIns ops g ++ ins) objs .junk upd := by
  intro G E fr' h a w K Q hn C hi ho hK
  have hgo : gOk ops fr' o.guard := by rw [hg]; exact gOk_of hgk (fun p hp => hi p (List.mem_append.2 (.inl hp)))
  obtain ⟨E', w', h1, C'⟩ := H G E fr' h a w C (fun p hp => hi p (List.mem_append.2 (.inr hp))) ho
  unfold wpS
  rw [if_pos (gOk_wanted C hgo)]
  refine .inl ?_
  unfold Oper.wp
  rw [h1]
  simp only [Oper.upon]
  refine hK E' _ w' ?_
  rw [hd]
  exact C'.putNone _
theorem ins_of {g : Option (Nat × Bool)} (hg : gOk ops fr g) {l : List (Nat × V)} (hl : ∀ p ∈ l, fget fr p.1 = p.2) : ∀ p ∈ gIns ops g ++ l, fget fr p.1 = p.2 := fun p hp => by
  rcases List.mem_append.1 hp with hp | hp
  · exact gOk_ins hg p hp
  · exact hl p hp

/-! ### Loads -/
theorem run_loadAt_one {t : TypeId} {ds : TypeDesc} {u : Value} (hu : P.underlying t = some ds) (hd : ds.isRow = false) {w : World} {b o : Nat} (hc : w.cell? ⟨b, o, none⟩ = some u) : (Instr.loadAt t (.pointer (some ⟨b, o, none⟩))).run P w = .ok u w := by
  simp only [Instr.loadAt, Instr.sureAddr, Sem.run_bind, Sem.run_pure, Result.andThen_ok, run_loadVar_one w t _ ds u hu hd hc]
variable (T : TT P)
/-- One cell of an object. -/
theorem d_load {x : Operand} {t : TypeId} {y : Ty} {k off : Nat} {bt : TypeId} {cs : List V} {c : V} (hdn : Nat.blt d n = true) (hg : gOk ops fr g) (hx : oev fr x = .ptr k off) (hk : hget h k = some (.box bt cs)) (ht : T.rows[t]? = some y) (hrow : y.row = false) (hc : cs[off]? = some c)
    (hr : dops P n dr ops rest (⟨(gIns ops g ++ insOf x (.ptr k off)).map Prod.fst, [d], [k], []⟩ :: log) K ((d, c) :: fr) h) : dops P n dr ops (⟨some d, .load t x, ty, pos, after, g⟩ :: rest) log K fr h := by
  refine d_un x (.ptr k off) c [(k, some (.box bt cs))] (by simpa using hk) (oneOpd_of hx rfl) (fun G E fr h a w C ho r hkk => ?_) hdn hg hx hr
  have hk' := ho (k, some (.box bt cs)) (by simp)
  simp only [V.Rep] at r
  obtain ⟨us, g1, g2, _⟩ := C.heap.obs k _ hk'
  obtain ⟨u, q1, q2⟩ := g2.get hc
  obtain ⟨_, ds, _, h2, _, _, h5, _⟩ := tyOf_spec (T.at ht)
  refine ⟨u, ?_, q2, fun j hj => C.heap.closed k _ hk' j ?_⟩
  · have := run_loadAt_one (P := P) h2 (by rw [h5]; exact hrow) (w := w) (b := E.blk k) (o := off) (u := u) (by rw [cell_of_row w _ off _ bt _ g1]; simpa using q1)
    simp only [execOp, r, Sem.run_bind, this, Result.andThen_ok, Sem.run_pure]
  · simp only [Ob.keys]; exact V.keyss_mem.2 ⟨c, List.mem_of_getElem? hc, hj⟩
/-- Cells of an object, as a struct. -/
def cut (cs : List V) (off m : Nat) : List V := (cs.drop off).take m
theorem d_loadA {x : Operand} {t : TypeId} {y : Ty} {k off m : Nat} {bt : TypeId} {cs : List V} (hdn : Nat.blt d n = true) (hg : gOk ops fr g) (hx : oev fr x = .ptr k off) (hk : hget h k = some (.box bt cs)) (ht : T.rows[t]? = some y) (hrow : y.row = true) (hm : y.size = m) (hl : Nat.ble (off + m) cs.length = true) {cs' : List V} (hcs : cut cs off m = cs')
    (hr : dops P n dr ops rest (⟨(gIns ops g ++ insOf x (.ptr k off)).map Prod.fst, [d], [k], []⟩ :: log) K ((d, .agg cs') :: fr) h) : dops P n dr ops (⟨some d, .load t x, ty, pos, after, g⟩ :: rest) log K fr h := by
  subst hcs
  refine d_un x (.ptr k off) (.agg (cut cs off m)) [(k, some (.box bt cs))] (by simpa using hk) (oneOpd_of hx rfl) (fun G E fr h a w C ho r hkk => ?_) hdn hg hx hr
  have hk' := ho (k, some (.box bt cs)) (by simp)
  simp only [V.Rep] at r
  obtain ⟨us, g1, g2, g3⟩ := C.heap.obs k _ hk'
  have hlen := g2.length
  have hle := Nat.le_of_ble_eq_true hl
  obtain ⟨i, ds, h1, h2, h3, _, h5, _⟩ := tyOf_spec (T.at ht)
  have hc := (g2.drop off).take m
  refine ⟨.agg ((us.drop off).take m).toArray, ?_, ?_, fun j hj => C.heap.closed k _ hk' j ?_⟩
  · have hra : w.rangeAt (E.blk k) off ((us.drop off).take m) := fun j v hv => by
      rw [cell_of_row w _ (off + j) _ bt _ g1]
      rw [List.getElem?_take] at hv
      split at hv
      · rw [List.getElem?_drop] at hv; simpa using hv
      · cases hv
    have := run_loadAt_mid (P := P) w (E.blk k) off t ((us.drop off).take m) ds hra h2 (by rw [h5]; exact hrow) (by rw [h1]; simp [h3, hm]; omega)
    simp only [execOp, r, Sem.run_bind, this, Result.andThen_ok, Sem.run_pure]
  · simp only [V.Rep]
    exact ⟨_, rfl, hc, fun x hx => g3 x (List.mem_of_mem_drop (List.mem_of_mem_take hx))⟩
  · simp only [Ob.keys]
    simp only [V.keys] at hj
    obtain ⟨v, hv, hj⟩ := V.keyss_mem.1 hj
    exact V.keyss_mem.2 ⟨v, List.mem_of_mem_drop (List.mem_of_mem_take hv), hj⟩

/-- v: the address of cell off of the element x. -/
inductive IsElt (h : Hp) : V → D → Nat → List (Nat × Option Ob) → Prop
  | e {t : Bool} {sz i off : Nat} {es : List D} {x : D} (hx : es[i]? = some x) : IsElt h (.eptr t sz es i off) x off []
  | o {k m sz i off : Nat} {e : TypeId} {xs : List D} {x : D} (hk : hget h k = some (.row e sz xs)) (hm : xs.length = m) (hx : xs[i]? = some x) : IsElt h (.optr k m i off) x off [(k, some (.row e sz xs))]
theorem IsElt.notAgg {h : Hp} {v : V} {x : D} {off : Nat} {objs : List (Nat × Option Ob)} (hi : IsElt h v x off objs) : notAgg v = true := by cases hi <;> rfl
theorem IsElt.objs {h : Hp} {v : V} {x : D} {off : Nat} {objs : List (Nat × Option Ob)} (hi : IsElt h v x off objs) : ∀ p ∈ objs, hget h p.1 = p.2 := by
  cases hi with
  | e _ => simp
  | o hk _ _ => simpa using hk
theorem IsElt.of {h h' : Hp} {v : V} {x : D} {off : Nat} {objs : List (Nat × Option Ob)} (hi : IsElt h v x off objs) (ho : ∀ p ∈ objs, hget h' p.1 = p.2) : IsElt h' v x off objs := by
  cases hi with
  | e hx => exact .e hx
  | o hk hm hx => exact .o (ho (_, _) (List.mem_singleton.2 rfl)) hm hx
theorem IsElt.rep {G : Ctx} {E : Env} {fr : Fr} {h : Hp} {a : Act} {w : World} (C : Conc G E fr h a w) {v : V} {x : D} {off : Nat} {objs : List (Nat × Option Ob)} (hi : IsElt h v x off objs) {u : Value} (hr : V.Rep E h (bars E h G.o) w v u) :
    ∃ b p c, u = .pointer (some ⟨b, p + off, none⟩) ∧ x.Rep (bars E h G.o) w c ∧ ∀ j, j < c.length → w.cell? ⟨b, p + j, none⟩ = c[j]? := by
  cases hi with
  | @e t sz i off es x hx =>
    simp only [V.Rep] at hr
    obtain ⟨b, o, us, h1, h2, h3, h4, _, _, h7⟩ := hr
    have hl := h4.length
    rw [D.sizes_eq h3] at hl
    have hg := h4.get h3 hx
    have hgl := hg.length
    have hsx : x.size = sz := h3 x (List.mem_of_getElem? hx)
    refine ⟨b, o + i * sz, _, by rw [h1, Nat.add_assoc], hg, fun j hj => ?_⟩
    rw [hgl, hsx] at hj
    have hi1 : (i + 1) * sz ≤ es.length * sz := Nat.mul_le_mul_right _ h2
    rw [Nat.add_mul] at hi1
    rw [Nat.add_assoc, h7 (i * sz + j) (by omega), List.getElem?_take, if_pos hj, List.getElem?_drop]
  | @o k m sz i off e xs x hk hm hx =>
    simp only [V.Rep] at hr
    obtain ⟨m', h1, h2, _, h3⟩ := hr
    have e1 := verAny_one h1 (.inl ⟨e, sz, xs, hk, hm⟩)
    obtain ⟨b, o, cap, h5, h4⟩ := h3 e1.symm sz ⟨e, xs, hk, hm⟩
    have hrow := C.heap.obs k _ hk
    simp only [ObRep] at hrow
    obtain ⟨hlt, _⟩ := List.getElem?_eq_some_iff.1 hx
    obtain ⟨b', o', cap', us, q1, _, q3, q4, _, q6⟩ := hrow.cells (by rintro rfl; simp at hlt)
    rw [h5] at q1
    simp only [Value.slice.injEq, Option.some.injEq, Addr.mk.injEq, and_true] at q1
    obtain ⟨⟨rfl, rfl⟩, _, _⟩ := q1
    have hg := q3.get hrow.1 hx
    have hgl := hg.length
    have hsx : x.size = sz := hrow.1 x (List.mem_of_getElem? hx)
    refine ⟨b, o + i * sz, _, by rw [h4, Nat.add_assoc], hg, fun j hj => ?_⟩
    rw [hgl, hsx] at hj
    have hi1 : (i + 1) * sz ≤ xs.length * sz := Nat.mul_le_mul_right _ hlt
    rw [Nat.add_mul] at hi1
    rw [Nat.add_assoc, q6 (i * sz + j) (by omega), List.getElem?_take, if_pos hj, List.getElem?_drop]
def D.fs : D → List D
  | .agg fs => fs
  | x => [x]
theorem D.Rep.fs {M : Bars} {w : World} {x : D} {c : List Value} (h : x.Rep M w c) : D.Reps M w x.fs c := by
  cases x with
  | agg fs => simpa [D.fs, D.Rep] using h
  | raw v => exact D.Reps.single.2 h
  | sl t sz es => exact D.Reps.single.2 h
theorem D.at_one : ∀ {ds : List D} {i : Nat} {c : D}, D.at ds i = some c → (match c with | .agg _ => false | _ => true) = true
  | [], _, _, h => by simp [D.at] at h
  | .agg _ :: _, i, _, h => by cases i <;> simp [D.at] at h
  | .raw _ :: ds, i, c, h => by
    cases i with
    | zero => simp only [D.at, Option.some.injEq] at h; subst h; rfl
    | succ i => simp only [D.at] at h; exact D.at_one h
  | .sl _ _ _ :: ds, i, c, h => by
    cases i with
    | zero => simp only [D.at, Option.some.injEq] at h; subst h; rfl
    | succ i => simp only [D.at] at h; exact D.at_one h
/-- One cell of an element. -/
theorem d_loadE {x : Operand} {v : V} {el c : D} {off : Nat} {objs : List (Nat × Option Ob)} {t : TypeId} {y : Ty} (hdn : Nat.blt d n = true) (hg : gOk ops fr g) (hx : oev fr x = v) (he : IsElt h v el off objs) (ht : T.rows[t]? = some y) (hrow : y.row = false) (hc : D.at el.fs off = some c)
    (hr : dops P n dr ops rest (⟨(gIns ops g ++ insOf x v).map Prod.fst, [d], objs.map Prod.fst, []⟩ :: log) K ((d, .d c) :: fr) h) : dops P n dr ops (⟨some d, .load t x, ty, pos, after, g⟩ :: rest) log K fr h := by
  refine d_un x v (.d c) objs he.objs (oneOpd_of hx he.notAgg) (fun G E fr h' a w C ho r hkk => ?_) hdn hg hx hr
  obtain ⟨b, p, us, h1, h2, h3⟩ := (he.of ho).rep C r
  obtain ⟨u, q1, q2⟩ := h2.fs.at hc
  obtain ⟨_, ds, _, k2, _, _, k5, _⟩ := tyOf_spec (T.at ht)
  refine ⟨u, ?_, ?_, by simp [V.keys]⟩
  · have := run_loadAt_one (P := P) k2 (by rw [k5]; exact hrow) (w := w) (b := b) (o := p + off) (u := u) (by rw [h3 off (List.getElem?_eq_some_iff.1 q1).1]; exact q1)
    simp only [execOp, h1, Sem.run_bind, this, Result.andThen_ok, Sem.run_pure]
  · have := D.at_one hc
    simp only [V.Rep]
    cases c with
    | agg fs => simp at this
    | raw v => exact q2
    | sl t sz es => exact q2
/-- A whole element, a struct. -/
theorem d_loadEA {x : Operand} {v : V} {fs : List D} {objs : List (Nat × Option Ob)} {t : TypeId} {y : Ty} (hdn : Nat.blt d n = true) (hg : gOk ops fr g) (hx : oev fr x = v) (he : IsElt h v (.agg fs) 0 objs) (ht : T.rows[t]? = some y) (hrow : y.row = true) (hm : y.size = D.sizes fs)
    (hr : dops P n dr ops rest (⟨(gIns ops g ++ insOf x v).map Prod.fst, [d], objs.map Prod.fst, []⟩ :: log) K ((d, .d (.agg fs)) :: fr) h) : dops P n dr ops (⟨some d, .load t x, ty, pos, after, g⟩ :: rest) log K fr h := by
  refine d_un x v (.d (.agg fs)) objs he.objs (oneOpd_of hx he.notAgg) (fun G E fr h' a w C ho r hkk => ?_) hdn hg hx hr
  obtain ⟨b, p, us, h1, h2, h3⟩ := (he.of ho).rep C r
  obtain ⟨i, ds, k1, k2, k3, _, k5, _⟩ := tyOf_spec (T.at ht)
  have hl := h2.length
  refine ⟨.agg us.toArray, ?_, ?_, by simp [V.keys]⟩
  · have hra : w.rangeAt b p us := fun j u hu => by rw [h3 j (List.getElem?_eq_some_iff.1 hu).1]; exact hu
    have := run_loadAt_mid (P := P) w b p t us ds hra k2 (by rw [k5]; exact hrow) (by rw [k1]; simp [k3, hm, hl, D.size])
    simp only [Nat.add_zero] at h1
    simp only [execOp, h1, Sem.run_bind, this, Result.andThen_ok, Sem.run_pure]
  · simp only [V.Rep, D.RepV]
    exact ⟨us, rfl, by simpa [D.Rep] using h2⟩
/-- Some cells of an element, as a struct. -/
theorem d_loadEP {x : Operand} {v : V} {A fs R : List D} {off : Nat} {objs : List (Nat × Option Ob)} {t : TypeId} {y : Ty} (hdn : Nat.blt d n = true) (hg : gOk ops fr g) (hx : oev fr x = v) (he : IsElt h v (.agg (A ++ (fs ++ R))) off objs) (hA : off = D.sizes A) (ht : T.rows[t]? = some y) (hrow : y.row = true) (hm : y.size = D.sizes fs)
    (hr : dops P n dr ops rest (⟨(gIns ops g ++ insOf x v).map Prod.fst, [d], objs.map Prod.fst, []⟩ :: log) K ((d, .d (.agg fs)) :: fr) h) : dops P n dr ops (⟨some d, .load t x, ty, pos, after, g⟩ :: rest) log K fr h := by
  subst hA
  refine d_un x v (.d (.agg fs)) objs he.objs (oneOpd_of hx he.notAgg) (fun G E fr h' a w C ho r hkk => ?_) hdn hg hx hr
  obtain ⟨b, p, us, h1, h2, h3⟩ := (he.of ho).rep C r
  obtain ⟨i, ds, k1, k2, k3, _, k5, _⟩ := tyOf_spec (T.at ht)
  simp only [D.Rep] at h2
  have hs := (D.Reps.split (D.Reps.split h2).2).1
  have hl := hs.length
  have hlu := h2.length
  refine ⟨.agg ((us.drop (D.sizes A)).take (D.sizes fs)).toArray, ?_, ?_, by simp [V.keys]⟩
  · have hra : w.rangeAt b (p + D.sizes A) ((us.drop (D.sizes A)).take (D.sizes fs)) := fun j u hu => by
      rw [List.getElem?_take] at hu
      split at hu
      · rw [List.getElem?_drop] at hu
        rw [Nat.add_assoc, h3 _ (List.getElem?_eq_some_iff.1 hu).1]; exact hu
      · cases hu
    have := run_loadAt_mid (P := P) w b (p + D.sizes A) t _ ds hra k2 (by rw [k5]; exact hrow) (by rw [k1]; simp only [Option.map_some, k3, hm, hl])
    simp only [execOp, h1, Sem.run_bind, this, Result.andThen_ok, Sem.run_pure]
  · simp only [V.Rep, D.RepV]
    exact ⟨_, rfl, hs⟩

/-! ### New objects -/
/-- A value's cells. -/
def D.isOne : D → Bool
  | .agg _ => false
  | _ => true
def V.cellsOf : V → Option (List V)
  | .agg cs => some cs
  | .d (.agg fs) => match fs.all D.isOne with
    | true => some (fs.map .d)
    | false => none
  | .tup _ | .junk => none
  | v => some [v]
theorem reps_of_d {E : Env} {h : Hp} {M : Bars} {w : World} : ∀ {fs : List D} {us : List Value}, fs.all D.isOne = true → D.Reps M w fs us → V.Reps E h M w (fs.map .d) us
  | [], _, _, r => by simp only [D.Reps] at r; simp only [List.map_nil, V.Reps]; exact r
  | f :: fs, _, ho, r => by
    simp only [List.all_cons, Bool.and_eq_true] at ho
    simp only [D.Reps] at r
    obtain ⟨c, q, rfl, h1, h2⟩ := r
    have hl := h1.length
    have : f.size = 1 := by cases f <;> simp_all [D.isOne, D.size]
    rw [this] at hl
    match c, hl with
    | [u], _ =>
      simp only [List.map_cons, V.Reps]
      refine ⟨u, q, rfl, ?_, reps_of_d ho.2 h2⟩
      simp only [V.Rep]
      cases f with
      | agg _ => simp [D.isOne] at ho
      | raw v => exact h1
      | sl t sz es => exact h1
theorem V.cells_rep {E : Env} {h : Hp} {M : Bars} {w : World} {v : V} {u : Value} {cs : List V} (hc : v.cellsOf = some cs) (hr : V.Rep E h M w v u) : V.Reps E h M w cs u.cells.toList ∧ ∀ x ∈ u.cells.toList, x.oneCell' = true := by
  have single : u.oneCell' = true → V.Reps E h M w [v] u.cells.toList ∧ ∀ x ∈ u.cells.toList, x.oneCell' = true := fun ho => by
    have : u.cells = #[u] := by cases u <;> simp_all [Value.cells, Value.oneCell']
    rw [this]
    exact ⟨by simp only [V.Reps]; exact ⟨u, [], rfl, hr, rfl⟩, by simpa using ho⟩
  cases v with
  | agg xs =>
    simp only [V.cellsOf, Option.some.injEq] at hc
    subst hc
    simp only [V.Rep] at hr
    obtain ⟨us, rfl, h2, h3⟩ := hr
    exact ⟨by simpa [Value.cells] using h2, by simpa [Value.cells] using h3⟩
  | d x =>
    cases x with
    | agg fs =>
      simp only [V.cellsOf] at hc
      cases hall : fs.all D.isOne with
      | false => rw [hall] at hc; cases hc
      | true =>
        rw [hall] at hc
        simp only [Option.some.injEq] at hc
        subst hc
        simp only [V.Rep, D.RepV] at hr
        obtain ⟨us, rfl, h2⟩ := hr
        exact ⟨by simpa [Value.cells] using reps_of_d hall h2, by simpa [Value.cells] using h2.one⟩
    | raw z =>
      simp only [V.cellsOf, Option.some.injEq] at hc
      subst hc
      refine single ?_
      simp only [V.Rep, D.RepV, D.Rep, List.cons.injEq, and_true] at hr
      rw [hr.1]; exact hr.2
    | sl t sz es =>
      simp only [V.cellsOf, Option.some.injEq] at hc
      subst hc
      refine single ?_
      simp only [V.Rep, D.RepV, D.Rep] at hr
      obtain ⟨a, cap, us, h1, _⟩ := hr
      simp only [List.cons.injEq, and_true] at h1
      rw [h1]; rfl
  | full t sz es =>
    simp only [V.cellsOf, Option.some.injEq] at hc
    subst hc
    refine single ?_
    simp only [V.Rep] at hr
    obtain ⟨_, a, h1⟩ := hr
    rw [h1]; rfl
  | own k n =>
    simp only [V.cellsOf, Option.some.injEq] at hc
    subst hc
    refine single ?_
    simp only [V.Rep] at hr
    obtain ⟨m, _, _, h1, _⟩ := hr
    exact h1
  | ptr k off =>
    simp only [V.cellsOf, Option.some.injEq] at hc
    subst hc
    refine single ?_
    simp only [V.Rep] at hr
    rw [hr]; rfl
  | eptr t sz es i off =>
    simp only [V.cellsOf, Option.some.injEq] at hc
    subst hc
    refine single ?_
    simp only [V.Rep] at hr
    obtain ⟨b, o, us, h1, _⟩ := hr
    rw [h1]; rfl
  | optr k n i off =>
    simp only [V.cellsOf, Option.some.injEq] at hc
    subst hc
    refine single ?_
    simp only [V.Rep] at hr
    obtain ⟨m, _, _, h1, _⟩ := hr
    exact h1
  | fn f fs cs =>
    simp only [V.cellsOf, Option.some.injEq] at hc
    subst hc
    refine single ?_
    simp only [V.Rep] at hr
    obtain ⟨a, c, h1, _⟩ := hr
    rw [h1]; rfl
  | tup vs => simp [V.cellsOf] at hc
  | junk => simp [V.cellsOf] at hc
end
end Go.Proofs.Ytpaeihifcmohkaa
