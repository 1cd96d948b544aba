/-
  Sim: maps from triples of numbers to numbers.
-/
import Derived.Test.YtflgmalhpglklaaSimNt
import Derived.MapKept
set_option linter.unusedVariables false
set_option linter.unusedSimpArgs false
set_option linter.unusedSectionVars false
namespace Go.Proofs.Ytflgmalhpglklaa
open Go.RowKit

abbrev ML := List ((Int × Int × Int) × Int)
def lkp : ML → Int × Int × Int → Option Int
  | [], _ => none
  | x :: r, k => if k = x.1 then some x.2 else lkp r k
def sto : ML → Int × Int × Int → Int → ML
  | [], k, n => [(k, n)]
  | x :: r, k, n => if k = x.1 then (k, n) :: r else x :: sto r k n
theorem lkp_mem : ∀ {l : ML} {k : Int × Int × Int} {n : Int}, lkp l k = some n → (k, n) ∈ l
  | [], _, _, h => by simp [lkp] at h
  | x :: r, k, n, h => by
    simp only [lkp] at h
    split at h
    · rename_i e; cases h; subst e; simp
    · exact List.mem_cons_of_mem _ (lkp_mem h)
theorem sto_mem : ∀ {l : ML} {k : Int × Int × Int} {n : Int} {x}, x ∈ sto l k n → x = (k, n) ∨ x ∈ l
  | [], _, _, _, h => by simp [sto] at h; exact .inl h
  | y :: r, k, n, x, h => by
    simp only [sto] at h
    split at h
    · rcases List.mem_cons.1 h with h | h
      · exact .inl h
      · exact .inr (List.mem_cons_of_mem _ h)
    · rcases List.mem_cons.1 h with h | h
      · exact .inr (by simp [h])
      · exact (sto_mem h).imp id (List.mem_cons_of_mem _)
/-- What the program says of the map's types. -/
structure KeyRun (P : Program) (mt kt et : TypeId) : Prop where
  hm : P.underlying mt = some (.map kt et)
  chk : ∀ (em : Bool) (k : Int × Int × Int) (w : World), (Instr.checkKey em 10000 kt (spK k)).run P w = .ok () w
  now : ∃ ds, P.underlying kt = some ds ∧ ∀ k k' : Int × Int × Int, Instr.sameNow ds (spK k) (spK k') = none
  eq : ∀ (k k' : Int × Int × Int) (w : World), (Op.equal kt (spK k) (spK k')).run P w = .ok (decide (k = k')) w
  zero : ∀ w : World, (zeroValue et).run P w = .ok (.int .i64 0) w
def lkI : ML → Int × Int × Int → Nat → Option (Nat × Value)
  | [], _, _ => none
  | x :: r, k, i => if k = x.1 then some (i, .int .i64 x.2) else lkI r k (i + 1)
theorem lkI_val : ∀ (l : ML) (k : Int × Int × Int) (i : Nat), (lkI l k i).map Prod.snd = (lkp l k).map (Value.int .i64)
  | [], _, _ => rfl
  | x :: r, k, i => by
    simp only [lkI, lkp]
    split
    · rfl
    · exact lkI_val r k (i + 1)
section
variable {P : Program} {mt kt et : TypeId} (R : KeyRun P mt kt et)
include R
theorem KeyRun.asking (k : Int × Int × Int) (w : World) : ∀ (l : ML) (es : List MapEntry) (i : Nat), (es.map fun x => (x.key, x.val)) = l.map (fun x => (spK x.1, Value.int .i64 x.2)) → (Instr.findAsking kt (spK k) es i).run P w = .ok (lkI l k i) w
  | [], [], i, _ => by simp [Instr.findAsking, lkI]
  | [], e :: es, i, h => by simp at h
  | x :: l, [], i, h => by simp at h
  | x :: l, e :: es, i, h => by
    simp only [List.map_cons, List.cons.injEq, Prod.mk.injEq] at h
    obtain ⟨⟨h1, h2⟩, h3⟩ := h
    simp only [Instr.findAsking, Sem.run_bind, h1, R.eq, Result.andThen_ok, lkI]
    by_cases e1 : k = x.1
    · simp [e1, h2]
    · simp only [e1, decide_false, if_false, Bool.false_eq_true]
      exact KeyRun.asking k w l es (i + 1) h3
theorem KeyRun.find (k : Int × Int × Int) (w : World) {l : ML} {es : List MapEntry} (h : (es.map fun x => (x.key, x.val)) = l.map (fun x => (spK x.1, Value.int .i64 x.2))) : (Instr.findKey kt (spK k) es).run P w = .ok (lkI l k 0) w := by
  obtain ⟨ds, h1, h2⟩ := R.now
  unfold Instr.findKey
  simp only [Sem.run_bind, run_underlying h1, Result.andThen_ok]
  match l, es, h with
  | [], [], _ => simp [Instr.findNow, lkI]
  | [], e :: es, h => simp at h
  | x :: l, [], h => simp at h
  | x :: l, e :: es, h =>
    have h' := h
    simp only [List.map_cons, List.cons.injEq, Prod.mk.injEq] at h'
    simp only [Instr.findNow, h'.1.1, h2]
    exact R.asking k w (x :: l) (e :: es) 0 h
theorem KeyRun.lookup (k : Int × Int × Int) {w : World} {b : Nat} {es : Array MapEntry} {clock : Nat} {l : ML} (hb : w.heap[b]? = some (.map es clock)) (h : (es.toList.map fun x => (x.key, x.val)) = l.map (fun x => (spK x.1, Value.int .i64 x.2))) :
    (Instr.lookup mt (.map (some b)) (spK k) true).run P w = .ok (.tuple #[.int .i64 ((lkp l k).getD 0), .bool (lkp l k).isSome]) w := by
  have hv := lkI_val l k 0
  simp only [Instr.lookup, Sem.run_bind, run_underlying R.hm, Result.andThen_ok, MapKept.run_getObj_map hb, R.chk, R.find k w h, Sem.run_pure]
  cases e1 : lkI l k 0 with
  | none =>
    rw [e1] at hv
    have e2 : lkp l k = none := by cases e3 : lkp l k <;> simp_all
    simp [e2, R.zero]
  | some p =>
    rw [e1] at hv
    obtain ⟨n, e2⟩ : ∃ n, lkp l k = some n := by cases e3 : lkp l k <;> simp_all
    rw [e2] at hv
    simp at hv
    simp [e2, hv]
theorem lkI_some : ∀ {l : ML} {k : Int × Int × Int} {i j : Nat} {v : Value}, lkI l k i = some (j, v) → i ≤ j ∧ ∃ x, l[j - i]? = some x ∧ x.1 = k ∧ ∀ n, sto l k n = l.set (j - i) (k, n)
  | [], _, _, _, _, h => by simp [lkI] at h
  | x :: r, k, i, j, v, h => by
    simp only [lkI] at h
    split at h
    · rename_i e
      simp only [Option.some.injEq, Prod.mk.injEq] at h
      obtain ⟨rfl, _⟩ := h
      refine ⟨Nat.le_refl _, x, by simp, e.symm, fun n => ?_⟩
      simp [sto, e]
    · rename_i e
      obtain ⟨h1, y, h2, h3, h4⟩ := lkI_some h
      refine ⟨by omega, y, ?_, h3, fun n => ?_⟩
      · rw [show j - i = (j - (i + 1)) + 1 by omega]; simpa using h2
      · rw [show j - i = (j - (i + 1)) + 1 by omega]; simp only [sto, if_neg e, h4 n, List.set_cons_succ]
omit R in
theorem lkI_none : ∀ {l : ML} {k : Int × Int × Int} {i : Nat}, lkI l k i = none → ∀ n, sto l k n = l ++ [(k, n)]
  | [], _, _, _, n => rfl
  | x :: r, k, i, h, n => by
    simp only [lkI] at h
    split at h
    · cases h
    · rename_i e
      simp only [sto, if_neg e, lkI_none h n, List.cons_append]
theorem KeyRun.update (k : Int × Int × Int) (n : Int) {w : World} {b : Nat} {es : Array MapEntry} {clock : Nat} {l : ML} (hb : w.heap[b]? = some (.map es clock)) (h : (es.toList.map fun x => (x.key, x.val)) = l.map (fun x => (spK x.1, Value.int .i64 x.2))) :
    ∃ es' clock', (Instr.mapUpdate mt (.map (some b)) (spK k) (.int .i64 n)).run P w = .ok () { w with heap := w.heap.setIfInBounds b (.map es' clock') } ∧ (es'.toList.map fun x => (x.key, x.val)) = (sto l k n).map (fun x => (spK x.1, Value.int .i64 x.2)) := by
  have hf := R.find k w h
  cases e1 : lkI l k 0 with
  | none =>
    rw [e1] at hf
    refine ⟨es.push ⟨spK k, .int .i64 n, clock⟩, clock + 1, ?_, ?_⟩
    · simp [Instr.mapUpdate, run_underlying R.hm, MapKept.run_getObj_map hb, R.chk, hf, MapKept.run_setObj_map _ hb]
    · rw [lkI_none e1]
      simp [h]
  | some p =>
    obtain ⟨j, v⟩ := p
    rw [e1] at hf
    obtain ⟨_, x, h2, h3, h4⟩ := lkI_some R e1
    simp only [Nat.sub_zero] at h2 h4
    have hjl : j < l.length := (List.getElem?_eq_some_iff.1 h2).1
    have hlen : es.toList.length = l.length := by have := congrArg List.length h; simpa using this
    have hje : j < es.size := by rw [Array.length_toList] at hlen; omega
    obtain ⟨e0, he0⟩ : ∃ e0, es[j]? = some e0 := ⟨es[j], by simp [hje]⟩
    have hkey : e0.key = spK k := by
      have := congrArg (fun l => l[j]?) h
      simp only [List.getElem?_map, h2] at this
      have he0' : es.toList[j]? = some e0 := by simpa using he0
      rw [he0'] at this
      simp only [Option.map_some, Option.some.injEq, Prod.mk.injEq] at this
      rw [this.1, h3]
    have hstay : (Instr.keyThatStays (spK k) (spK k)).run P w = .ok (spK k) w := by
      have : Instr.sameBits 10000 (spK k) (spK k) = true := by simp [Instr.sameBits, spK]
      simp [Instr.keyThatStays, this]
    refine ⟨es.modify j (fun e => { e with key := spK k, val := .int .i64 n }), clock, ?_, ?_⟩
    · simp [Instr.mapUpdate, run_underlying R.hm, MapKept.run_getObj_map hb, R.chk, hf, he0, hkey, hstay, MapKept.run_setObj_map _ hb]
    · rw [h4 n]
      apply List.ext_getElem?
      intro i
      have hi := congrArg (fun l => l[i]?) h
      simp only [List.getElem?_map, Array.getElem?_toList] at hi
      simp only [List.getElem?_map, Array.getElem?_toList, Array.getElem?_modify, List.getElem?_set]
      by_cases e : j = i
      · subst e
        simp only [if_true, if_pos hjl, Array.getElem?_eq_getElem hje, Option.map_some]
      · simp only [if_neg e]
        exact hi
end
section
variable {G : Ctx} {E : Env} {fr : Fr} {h : Hp} {a : Act} {w : World}
theorem Conc.newMap (C : Conc G E fr h a w) {k : Nat} (hk : hget h k = none) (hlow : Nat.blt k 1000 = true) : ∃ E', Conc G E' fr ((k, .mp (Eq [])) :: h) a (w.alloc (.map #[] 0)) ∧ E'.blk k = w.heap.size := by
  refine ⟨⟨fun j => if j = k then w.heap.size else E.blk j, E.row, E.fp⟩, ?_, by simp⟩
  have U : Upd E h w k (.mp (Eq [])) ⟨fun j => if j = k then w.heap.size else E.blk j, E.row, E.fp⟩ (w.alloc (.map #[] 0)) :=
    ⟨fun j hj => by simp [hj], fun _ _ => rfl, fun _ _ => rfl, (fun hs => by rw [hk] at hs; cases hs), fun _ => by simpa [Nat.blt_eq] using hlow, fun m hm => (noVer hk hm).elim, (fun hs => by rw [hk] at hs; cases hs), Ext.new _ _,
      (fun b hb => by unfold blkOf at hb; rw [hget_same] at hb; simp at hb; exact .inr (by omega))⟩
  exact C.upd U ⟨#[], 0, [], by simpa using heap_alloc_new w _, rfl, rfl⟩ (by simp [Ob.keys])
theorem noVerMp {h : Hp} {k m : Nat} {p : ML → Prop} (hk : hget h k = some (.mp p)) : ¬ verAny h k m := by
  rintro (⟨_, _, _, h1, _⟩ | ⟨_, _, h1, _⟩ | h1 | ⟨_, _, _, _, h1, _⟩) <;> rw [hk] at h1 <;> cases h1
theorem noRowMp {h : Hp} {k sz m : Nat} {p : ML → Prop} (hk : hget h k = some (.mp p)) : ¬ verRow h k sz m := by
  rintro (⟨_, _, h1, _⟩ | ⟨_, _, _, _, h1, _⟩) <;> rw [hk] at h1 <;> cases h1
theorem Conc.setMap (C : Conc G E fr h a w) {k : Nat} {p q : ML → Prop} (hk : hget h k = some (.mp p)) {w' : World} (hE : Ext (fun b => b = E.blk k) w w') (hq : MapAt w' (E.blk k) q) : Conc G E fr ((k, .mp q) :: h) a w' := by
  have hbk : blkOf E h k (E.blk k) := by simp [blkOf, hk]
  have U : Upd E h w k (.mp q) E w' :=
    ⟨fun _ _ => rfl, fun _ _ => rfl, fun _ _ => rfl, fun _ => rfl, (fun hn => by rw [hk] at hn; cases hn), (fun m hm => (noVerMp hk hm).elim), (fun _ sz n hv => (noRowMp (hget_same _ _ _) hv).elim),
      hE.mono (fun b hb => by rw [hb]; exact hbk), (fun b hb => .inl (by unfold blkOf at hb ⊢; rw [hget_same] at hb; rw [hk]; exact hb))⟩
  exact C.upd U hq (by simp [Ob.keys])
end
section
variable {P : Program} {n : Nat} {Q : Exit → Fr → Hp → Prop} {fr : Fr} {h : Hp}
/-- What a map holds, by name. -/
theorem aw_openMap {c : Code} (k : Nat) {p : ML → Prop} (hk : hget h k = some (.mp p)) (hc : ∀ l, p l → aw P n c Q fr ((k, .mp (Eq l)) :: h)) : aw P n c Q fr h := fun G E a w hn C => by
  obtain ⟨es, clock, l, h1, h2, h3⟩ := C.heap.obs k _ hk
  exact hc l h3 G E a w hn (C.setMap hk (Ext.refl _ _) ⟨es, clock, l, h1, h2, rfl⟩)
end
section
variable {P : Program} {n : Nat} {dr : Bool} {ops : Array Oper} {rest : List Oper} {log : List Rec} {K : Exit → Fr → Hp → Prop} {fr : Fr} {h : Hp}
variable {d : Nat} {ty : TypeId} {pos : String} {after : Array Edge} {g : Option (Nat × Bool)}
theorem d_makeMap {t : TypeId} (hdn : Nat.blt d n = true) (hlow : Nat.blt d 1000 = true) (hg : gOk ops fr g) (hk : hget h d = none)
    (hr : dops P n dr ops rest (⟨(gIns ops g).map Prod.fst, [d], [d], [d]⟩ :: log) K ((d, .mapv d) :: fr) ((d, .mp (Eq [])) :: h)) : dops P n dr ops (⟨some d, .makeMap t none, ty, pos, after, g⟩ :: rest) log K fr h := by
  refine dops_cons (ins := gIns ops g ++ []) (objs := [(d, none)]) (v := .mapv d) (upd := [(d, .mp (Eq []))]) (LStep.updV rfl hdn rfl hg _ _ _ _ fun G E fr' h' a w C hi ho => ?_) (ins_of hg (by simp)) (by simpa using hk) (by rw [List.append_nil]; exact hr)
  have hk' : hget h' d = none := ho (d, none) (by simp)
  obtain ⟨E', C', hb⟩ := C.newMap hk' hlow
  refine ⟨.map (some w.heap.size), E', _, ?_, C', by simp only [V.Rep]; rw [hb], by intro q hq; simp [V.keys] at hq; subst hq; simp [hget_same]⟩
  simp [execOp, Instr.makeMap]
theorem d_lookup {x ix : Operand} {mt kt et : TypeId} {k : Nat} {v : V} {a1 a2 a3 : Int} {l : ML} (R : KeyRun P mt kt et) (hdn : Nat.blt d n = true) (hg : gOk ops fr g) (hx : oev fr x = .mapv k) (hy : oev fr ix = v) (h1 : oneOpd ix = true) (hv : vval v = some (.agg #[.int .i64 a1, .int .i64 a2, .int .i64 a3])) (hk : hget h k = some (.mp (Eq l)))
    (hr : dops P n dr ops rest (⟨(gIns ops g ++ insAll [x, ix] [.mapv k, v]).map Prod.fst, [d], [k], []⟩ :: log) K ((d, .tup [I ((lkp l (a1, a2, a3)).getD 0), B (lkp l (a1, a2, a3)).isSome]) :: fr) h) :
    dops P n dr ops (⟨some d, .lookup mt x ix true, ty, pos, after, g⟩ :: rest) log K fr h := by
  refine dops_cons (ins := gIns ops g ++ insAll [x, ix] [.mapv k, v]) (objs := [(k, some (.mp (Eq l)))]) (v := .tup [I ((lkp l (a1, a2, a3)).getD 0), B (lkp l (a1, a2, a3)).isSome]) (upd := []) (LStep.updV rfl hdn rfl hg _ _ _ _ fun G E fr' h' a w C hi ho => ?_) (ins_of hg (oevs_ins ⟨hx, hy, trivial⟩)) (by simpa using hk) hr
  have hk' : hget h' k = some (.mp (Eq l)) := ho (k, _) (by simp)
  have hx' := oevs_of (xs := [x, ix]) (vs := [.mapv k, v]) ⟨hx, hy, trivial⟩ hi
  simp only [oevs] at hx'
  obtain ⟨p1, _⟩ := C.oev hx'.1 (oneOpd_spec (oneOpd_of hx rfl))
  obtain ⟨q1, _⟩ := C.oev hx'.2.1 (oneOpd_spec h1)
  have e1 := vval_rep q1 hv
  simp only [V.Rep] at p1
  obtain ⟨es, clock, l', m1, m2, rfl⟩ := C.heap.obs k _ hk'
  have hrun := R.lookup (a1, a2, a3) m1 m2
  refine ⟨.tuple #[.int .i64 ((lkp l (a1, a2, a3)).getD 0), .bool (lkp l (a1, a2, a3)).isSome], E, w, ?_, C, ?_, by simp [V.keys, V.keyss]⟩
  · simp only [execOp, p1, e1, Sem.run_bind]
    rw [show (Value.agg #[.int .i64 a1, .int .i64 a2, .int .i64 a3]) = spK (a1, a2, a3) from rfl, hrun]
    simp only [Result.andThen_ok, Sem.run_pure]
  · simp [V.Rep, V.Reps, D.RepV, D.Rep, Value.oneCell']
theorem d_mapUpdate {x ix yv : Operand} {mt kt et : TypeId} {k : Nat} {v : V} {a1 a2 a3 c : Int} {p : ML → Prop} (R : KeyRun P mt kt et) (q : ML → Prop) (hg : gOk ops fr g) (hx : oev fr x = .mapv k) (hy : oev fr ix = v) (h1 : oneOpd ix = true) (hv : vval v = some (.agg #[.int .i64 a1, .int .i64 a2, .int .i64 a3])) (hz : oev fr yv = I c) (hk : hget h k = some (.mp p))
    (hq : ∀ l, p l → q (sto l (a1, a2, a3) c))
    (hr : dops P n dr ops rest (⟨(gIns ops g ++ insAll [x, ix, yv] [.mapv k, v, I c]).map Prod.fst, [], [k], [k]⟩ :: log) K fr ((k, .mp q) :: h)) :
    dops P n dr ops (⟨none, .mapUpdate mt x ix yv, ty, pos, after, g⟩ :: rest) log K fr h := by
  refine dops_cons (ins := gIns ops g ++ insAll [x, ix, yv] [.mapv k, v, I c]) (objs := [(k, some (.mp p))]) (v := .junk) (upd := [(k, .mp q)]) (LStep.updS rfl rfl hg _ _ _ fun G E fr' h' a w C hi ho => ?_) (ins_of hg (oevs_ins ⟨hx, hy, hz, trivial⟩)) (by simpa using hk) hr
  have hk' : hget h' k = some (.mp p) := ho (k, _) (by simp)
  have hx' := oevs_of (xs := [x, ix, yv]) (vs := [.mapv k, v, I c]) ⟨hx, hy, hz, trivial⟩ hi
  simp only [oevs] at hx'
  obtain ⟨p1, _⟩ := C.oev hx'.1 (oneOpd_spec (oneOpd_of hx rfl))
  obtain ⟨q1, _⟩ := C.oev hx'.2.1 (oneOpd_spec h1)
  obtain ⟨r1, _⟩ := C.oev hx'.2.2.1 (oneOpd_spec (oneOpd_of hz rfl))
  have e1 := vval_rep q1 hv
  simp only [V.Rep] at p1
  have e2 : a.eval yv = .int .i64 c := by simpa [V.Rep, D.RepV, D.Rep, Value.oneCell'] using r1
  obtain ⟨es, clock, l, m1, m2, m3⟩ := C.heap.obs k _ hk'
  obtain ⟨es', clock', r2, r3⟩ := R.update (a1, a2, a3) c m1 m2
  have hbl : E.blk k < w.heap.size := (Array.getElem?_eq_some_iff.1 m1).1
  refine ⟨E, _, ?_, C.setMap hk' (w' := { w with heap := w.heap.setIfInBounds (E.blk k) (.map es' clock') }) ⟨rfl, rfl, rfl, by simp, fun b hb hne => ?_⟩ ⟨es', clock', _, ?_, r3, hq l m3⟩⟩
  · simp only [execOp, p1, e1, e2, Sem.run_bind]
    rw [show (Value.agg #[.int .i64 a1, .int .i64 a2, .int .i64 a3]) = spK (a1, a2, a3) from rfl, r2]
    simp only [Result.andThen_ok, Sem.run_pure]
  · rw [Array.getElem?_setIfInBounds_ne (Ne.symm hne)]
  · simp [hbl]
end
end Go.Proofs.Ytflgmalhpglklaa
