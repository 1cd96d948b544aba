/-
  Sim: writes to elements, append, lengths, pieces of slices and texts, fields of struct values.
-/
import Derived.Test.YtpaeihifcmohkaaSimJ
set_option linter.unusedVariables false
set_option linter.unusedSimpArgs false
namespace Go.Proofs.Ytpaeihifcmohkaa
open Go.RowKit

theorem splice_list {α : Type} (L v : List α) (o A N sz off : Nat) (h1 : off + v.length ≤ sz) (h2 : A + sz ≤ N) (h3 : o + N ≤ L.length) :
    ((L.take (o + (A + off)) ++ v ++ L.drop (o + (A + off) + v.length)).drop o).take N =
      ((L.drop o).take N).take A ++ (((((L.drop o).take N).drop A).take sz).take off ++ v ++ ((((L.drop o).take N).drop A).take sz).drop (off + v.length)) ++ ((L.drop o).take N).drop (A + sz) := by
  have hW : (L.take (o + (A + off)) ++ v ++ L.drop (o + (A + off) + v.length)).drop o = (L.drop o).take (A + off) ++ v ++ (L.drop o).drop (A + off + v.length) := by
    rw [List.append_assoc, List.drop_append_of_le_length (by simp; omega), List.drop_take, List.append_assoc, List.drop_drop, show o + (A + off) - o = A + off by omega, show o + (A + off) + v.length = o + (A + off + v.length) by omega]
  rw [hW]
  generalize hWd : L.drop o = W
  have hWl : N ≤ W.length := by rw [← hWd]; simp; omega
  clear hW hWd h3
  have e1 : (W.take (A + off) ++ v ++ W.drop (A + off + v.length)).take N = W.take (A + off) ++ v ++ (W.take N).drop (A + off + v.length) := by
    rw [List.take_append, List.take_of_length_le (by simp; omega), List.drop_take]
    congr 2
    simp; omega
  rw [e1]
  have hUl : (W.take N).length = N := by simp; omega
  have e2 : W.take (A + off) = (W.take N).take (A + off) := by rw [List.take_take]; congr 1; omega
  rw [e2]
  generalize W.take N = U at hUl
  clear e1 e2 hWl
  have e3 : U.take (A + off) = U.take A ++ ((U.drop A).take sz).take off := by rw [List.take_take, Nat.min_eq_left (by omega), List.take_add]
  have e4 : U.drop (A + off + v.length) = ((U.drop A).take sz).drop (off + v.length) ++ U.drop (A + sz) := by
    have e5 : U.drop A = (U.drop A).take sz ++ U.drop (A + sz) := (List.take_append_drop sz (U.drop A)).symm.trans (by rw [List.drop_drop])
    rw [Nat.add_assoc, ← List.drop_drop]
    conv => lhs; rw [e5]
    rw [List.drop_append_of_le_length (by simp; omega)]
  rw [e3, e4]
  simp only [List.append_assoc]

section
variable {P : Program} {n : Nat} {dr : Bool} {ops : Array Oper} {rest : List Oper} {log : List Rec} {K : Fr → Hp → Prop} {fr : Fr} {h : Hp}
variable {d : Nat} {ty : TypeId} {pos : String} {after : Array Edge} {g : Option (Nat × Bool)}
variable (T : TT P)

/-- An element of a row of the call's own is written, whole or in part. -/
theorem Conc.storeElt {G : Ctx} {E : Env} {a : Act} {w : World} (C : Conc G E fr h a w) {k m i off sz : Nat} {e : TypeId} {xs : List D} (hk : hget h k = some (.row e sz xs)) (hm : xs.length = m) (hi : i < m) {x' : D} {t : TypeId} {y : Ty} (ht : T.rows[t]? = some y)
    {up u : Value} (hp : V.Rep E h (bars E h G.o) w (.optr k m i off) up) (hu : u.cells.size = y.size) (h1 : ∀ z ∈ u.cells.toList, z.oneCell' = true) (hfit : off + y.size ≤ sz)
    (hx' : ∀ c, (xs[i]?.getD (.agg [])).Rep (bars E h G.o) w c → x'.Rep (bars E h G.o) w (c.take off ++ u.cells.toList ++ c.drop (off + u.cells.toList.length))) (hxs : x'.size = sz) :
    ∃ E' w', (Instr.storeAt t up u).run P w = .ok () w' ∧ Conc G E' fr ((k, .row e sz (xs.set i x')) :: h) a w' := by
  simp only [V.Rep] at hp
  obtain ⟨m', q1, q2, _, q3⟩ := hp
  have e1 := verAny_one q1 (.inl ⟨e, sz, xs, hk, hm⟩)
  obtain ⟨b, o, cap, h5, h4⟩ := q3 e1.symm sz ⟨e, xs, hk, hm⟩
  have hrow := C.heap.obs k _ hk
  simp only [ObRep] at hrow
  obtain ⟨hsz, ⟨ad, hv, hnil⟩ | ⟨gb, o', cap', cur, hv, hc0, hgb, hlc, hcm, hcs, hreps⟩⟩ := hrow
  · subst hnil; simp at hm; omega
  · rw [h5] at hv
    simp only [Value.slice.injEq, Option.some.injEq, Addr.mk.injEq, and_true] at hv
    obtain ⟨⟨rfl, rfl⟩, _, rfl⟩ := hv
    have hA : (i + 1) * sz ≤ xs.length * sz := Nat.mul_le_mul_right _ (by omega)
    have hN : xs.length * sz ≤ cap * sz := Nat.mul_le_mul_right _ hlc
    rw [Nat.add_mul] at hA
    have hul : u.cells.toList.length = y.size := by simp [hu]
    have hrun := run_storeVarV T (w := w) (off := o + (i * sz + off)) ht hgb hu (by omega) h1
    have hxi : xs[i]? = some xs[i] := by simp
    have hget := hreps.get hsz hxi
    have hset := hreps.set hsz (i := i) (by omega) (hx' _ (by rw [hxi]; exact hget))
    have hspl := splice_list cur.toList u.cells.toList o (i * sz) (xs.length * sz) sz off (by omega) (by omega) (by simp; omega)
    have hobk : obOf (E.row k) = some b := by rw [h5]; simp [obOf]; omega
    obtain ⟨E', C', hE'⟩ := C.setRow (xs' := xs.set i x') hk (v := E.row k) (w' := w.setRow b (cur.toList.take (o + (i * sz + off)) ++ u.cells.toList ++ cur.toList.drop (o + (i * sz + off) + u.cells.toList.length)).toArray) (Ext.setRow w b _ hobk) (fun b' hb' => .inl hb') (by simp) (fun _ => rfl) (fun M' hM => by
      refine ⟨fun z hz => ?_, .inr ⟨b, o, cap, _, by rw [h5]; simp [hm], hc0, setRow_heap w b cur _ e _ hgb, by simpa using hlc, hcm, ?_, ?_⟩⟩
      · rcases List.mem_or_eq_of_mem_set hz with hz | rfl
        · exact hsz z hz
        · exact hxs
      · simp only [List.size_toArray, List.length_append, List.length_take, List.length_drop, Array.length_toList]
        omega
      · simp only [List.length_set]
        rw [hspl]
        exact hset.carry hM)
    refine ⟨E', _, ?_, C'⟩
    rw [h4]; exact hrun
theorem d_storeO {x yv : Operand} {t : TypeId} {k m i sz : Nat} {e : TypeId} {xs : List D} {v : V} {x' : D} {objs : List (Nat × Option Ob)} {fz : Hp} {y : Ty} (hg : gOk ops fr g) (hx : oev fr x = .optr k m i 0) (hy : oev fr yv = v) (h1 : oneOpd yv = true) (hk : hget h k = some (.row e sz xs)) (hm : xs.length = m) (hi : i < m)
    (he : EmbV h v x' objs fz) (hkf : fz.all (fun p => !Nat.beq p.1 k) = true) (ht : T.rows[t]? = some y) (hl : Nat.beq y.size sz = true) (hxs : Nat.beq x'.size sz = true)
    (hr : dops P n dr ops rest (⟨(gIns ops g ++ insAll [x, yv] [.optr k m i 0, v]).map Prod.fst, [], ((k, some (Ob.row e sz xs)) :: objs).map Prod.fst, ((k, Ob.row e sz (xs.set i x')) :: fz).map Prod.fst⟩ :: log) K fr (((k, .row e sz (xs.set i x')) :: fz) ++ h)) : dops P n dr ops (⟨none, .store t x yv, ty, pos, after, g⟩ :: rest) log K fr h := by
  refine dops_cons (ins := gIns ops g ++ insAll [x, yv] [.optr k m i 0, v]) (objs := (k, some (.row e sz xs)) :: objs) (v := .junk) (upd := (k, .row e sz (xs.set i x')) :: fz) (LStep.updS rfl rfl hg _ _ _ fun G E fr' h' a w C hi' ho => ?_) (ins_of hg (oevs_ins ⟨hx, hy, trivial⟩)) (ObjsOk.cons hk he.objs) hr
  have hk' : hget h' k = some (.row e sz xs) := ho (k, _) (by simp)
  have he' := he.of (h' := h') (fun p hp => ho p (by simp [hp]))
  have hx' := oevs_of (xs := [x, yv]) (vs := [.optr k m i 0, v]) ⟨hx, hy, trivial⟩ hi'
  simp only [oevs] at hx'
  have C1 := C.frozs he'.fz
  have hk1 : hget (fz ++ h') k = some (.row e sz xs) := by
    rw [hget_append, hget_none]
    · exact hk'
    · intro hmem
      obtain ⟨p, hp, rfl⟩ := List.mem_map.1 hmem
      have := List.all_eq_true.1 hkf p hp
      simp [Nat.beq_refl] at this
  obtain ⟨p1, _⟩ := C1.oev hx'.1 (oneOpd_spec (oneOpd_of hx rfl))
  obtain ⟨q1, _⟩ := C1.oev hx'.2.1 (oneOpd_spec h1)
  have hd := he'.co he'.fz (fun _ hp => hp) _ _ _ _ C1.heap C1.sub q1
  simp only [V.Rep] at hd
  have hc := hd.cells
  have hcl := hc.length
  have e2 := Nat.eq_of_beq_eq_true hl
  have e3 := Nat.eq_of_beq_eq_true hxs
  obtain ⟨E', w', r1, C'⟩ := C1.storeElt T hk1 hm hi (x' := x') ht p1 (u := a.eval yv) (by simp at hcl; omega) hc.one (by omega) (fun c hcc => by
    have hlen := hcc.length
    have hel : (xs[i]?.getD (.agg [])).size = sz := by
      have hrow := C1.heap.obs k _ hk1
      rw [List.getElem?_eq_getElem (by omega : i < xs.length)]
      exact hrow.1 _ (List.getElem_mem _)
    rw [List.drop_of_length_le (by simp at hcl ⊢; omega)]
    simpa using hc) e3
  refine ⟨E', w', ?_, C'⟩
  simp only [execOp, Sem.run_bind, r1, Result.andThen_ok, Sem.run_pure]
/-- A cell of a struct element. -/
theorem d_storeF {x yv : Operand} {t : TypeId} {k m i off sz : Nat} {e : TypeId} {xs fs : List D} {v : V} {c : D} {objs : List (Nat × Option Ob)} {fz : Hp} {y : Ty} (hg : gOk ops fr g) (hx : oev fr x = .optr k m i off) (hy : oev fr yv = v) (h1 : oneOpd yv = true) (hk : hget h k = some (.row e sz xs)) (hm : xs.length = m) (hi : xs[i]? = some (.agg fs))
    (he : Emb h v c objs fz) (hkf : fz.all (fun p => !Nat.beq p.1 k) = true) (ht : T.rows[t]? = some y) (hl : Nat.beq y.size 1 = true) (hfs : fs.all D.isOne = true) (hc1 : c.isOne = true) (hoff : Nat.blt off fs.length = true)
    (hr : dops P n dr ops rest (⟨(gIns ops g ++ insAll [x, yv] [.optr k m i off, v]).map Prod.fst, [], ((k, some (Ob.row e sz xs)) :: objs).map Prod.fst, ((k, Ob.row e sz (xs.set i (.agg (fs.set off c)))) :: fz).map Prod.fst⟩ :: log) K fr (((k, .row e sz (xs.set i (.agg (fs.set off c)))) :: fz) ++ h)) : dops P n dr ops (⟨none, .store t x yv, ty, pos, after, g⟩ :: rest) log K fr h := by
  refine dops_cons (ins := gIns ops g ++ insAll [x, yv] [.optr k m i off, v]) (objs := (k, some (.row e sz xs)) :: objs) (v := .junk) (upd := (k, .row e sz (xs.set i (.agg (fs.set off c)))) :: fz) (LStep.updS rfl rfl hg _ _ _ fun G E fr' h' a w C hi' ho => ?_) (ins_of hg (oevs_ins ⟨hx, hy, trivial⟩)) (ObjsOk.cons hk he.objs) hr
  have hk' : hget h' k = some (.row e sz xs) := ho (k, _) (by simp)
  have he' := he.of (h' := h') (fun p hp => ho p (by simp [hp]))
  have hx' := oevs_of (xs := [x, yv]) (vs := [.optr k m i off, v]) ⟨hx, hy, trivial⟩ hi'
  simp only [oevs] at hx'
  have C1 := C.frozs he'.fz
  have hk1 : hget (fz ++ h') k = some (.row e sz xs) := by
    rw [hget_append, hget_none]
    · exact hk'
    · intro hmem
      obtain ⟨p, hp, rfl⟩ := List.mem_map.1 hmem
      have := List.all_eq_true.1 hkf p hp
      simp [Nat.beq_refl] at this
  obtain ⟨p1, _⟩ := C1.oev hx'.1 (oneOpd_spec (oneOpd_of hx rfl))
  obtain ⟨q1, _⟩ := C1.oev hx'.2.1 (oneOpd_spec h1)
  have hd := he'.co he'.fz (fun _ hp => hp) _ _ _ _ C1.heap C1.sub q1
  simp only [V.Rep] at hd
  have hc := hd.cells
  have hcl := hc.length
  have e2 := Nat.eq_of_beq_eq_true hl
  have hcs : c.size = 1 := by cases c <;> simp_all [D.isOne, D.size]
  have hone : ∀ f ∈ fs, f.size = 1 := fun f hf => by
    have := List.all_eq_true.1 hfs f hf
    cases f <;> simp_all [D.isOne, D.size]
  have hofl : off < fs.length := by simpa [Nat.blt_eq] using hoff
  have hlt : i < m := by rw [← hm]; exact (List.getElem?_eq_some_iff.1 hi).1
  have hsz : (D.agg fs).size = sz := (C1.heap.obs k _ hk1).1 _ (List.mem_of_getElem? hi)
  have hfl : fs.length = sz := by rw [← hsz, D.size, D.sizes_eq hone]; simp
  obtain ⟨E', w', r1, C'⟩ := C1.storeElt T hk1 hm hlt (x' := .agg (fs.set off c)) ht p1 (u := a.eval yv) (by simp at hcl; omega) hc.one (by omega) (fun q hq => by
    rw [hi] at hq
    simp only [Option.getD_some, D.Rep] at hq ⊢
    have := hq.set hone (i := off) hofl hc
    have hul : (a.eval yv).cells.toList.length = 1 := by omega
    simpa [hul] using this) (by
      rw [D.size, D.sizes_eq (sz := 1) (fun f hf => by
        rcases List.mem_or_eq_of_mem_set hf with hf | rfl
        · exact hone f hf
        · exact hcs)]
      simp [hfl])
  refine ⟨E', w', ?_, C'⟩
  simp only [execOp, Sem.run_bind, r1, Result.andThen_ok, Sem.run_pure]

/-! ### append -/
/-- v reads as a slice of ys, for the moment. -/
inductive ArgIs (h : Hp) (sz : Nat) : V → List D → List (Nat × Option Ob) → Prop
  | sl {t : Bool} {ys : List D} : ArgIs h sz (.d (.sl t sz ys)) ys []
  | full {t : Bool} {ys : List D} : ArgIs h sz (.full t sz ys) ys []
  | own {k m : Nat} {e : TypeId} {ys : List D} (hk : hget h k = some (.row e sz ys)) (hm : ys.length = m) : ArgIs h sz (.own k m) ys [(k, some (.row e sz ys))]
  | frz {k m : Nat} {ys : List D} (hk : hget h k = some (.froz sz ys)) (hm : ys.length = m) : ArgIs h sz (.own k m) ys [(k, some (.froz sz ys))]
  | nil : ArgIs h sz nilS [] []
theorem ArgIs.notAgg {sz : Nat} {v : V} {ys : List D} {o : List (Nat × Option Ob)} (ha : ArgIs h sz v ys o) : notAgg v = true := by cases ha <;> rfl
theorem ArgIs.objs {sz : Nat} {v : V} {ys : List D} {o : List (Nat × Option Ob)} (ha : ArgIs h sz v ys o) : ObjsOk h o := by cases ha <;> simp [ObjsOk] <;> assumption
theorem ArgIs.of {h' : Hp} {sz : Nat} {v : V} {ys : List D} {o : List (Nat × Option Ob)} (ha : ArgIs h sz v ys o) (ho : ObjsOk h' o) : ArgIs h' sz v ys o := by
  cases ha with
  | sl => exact .sl
  | full => exact .full
  | own hk hm => exact .own (ho (_, _) (List.mem_singleton.2 rfl)) hm
  | frz hk hm => exact .frz (ho (_, _) (List.mem_singleton.2 rfl)) hm
  | nil => exact .nil
def SlArg (M : Bars) (w : World) (sz : Nat) (u : Value) (ys : List D) : Prop := ∃ a c news, u = .slice a ys.length c ∧ D.Reps M w ys news ∧ (∀ x ∈ ys, x.size = sz) ∧ (ys ≠ [] → ∃ b off, a = some ⟨b, off, none⟩ ∧ ∀ j, j < news.length → w.cell? ⟨b, off + j, none⟩ = news[j]?)
theorem D.Rep.slArg {M : Bars} {w : World} {t : Bool} {sz : Nat} {ys : List D} {u : Value} (hr : D.Rep M w (.sl t sz ys) [u]) : SlArg M w sz u ys := by
  simp only [D.Rep, List.cons.injEq, and_true] at hr
  obtain ⟨a, cap, us, rfl, _, _, h3, h4, h5⟩ := hr
  refine ⟨a, cap, us, rfl, h4, h3, fun hne => ?_⟩
  obtain ⟨b, off, h6, _, _, h7⟩ := h5 hne
  exact ⟨b, off, h6, h7⟩
theorem ArgIs.slArg {G : Ctx} {E : Env} {a : Act} {w : World} (C : Conc G E fr h a w) {sz : Nat} {v : V} {ys : List D} {o : List (Nat × Option Ob)} (ha : ArgIs h sz v ys o) {u : Value} (hr : V.Rep E h (bars E h G.o) w v u) : SlArg (bars E h G.o) w sz u ys := by
  cases ha with
  | sl => simp only [V.Rep, D.RepV] at hr; exact hr.slArg
  | full => simp only [V.Rep] at hr; exact hr.1.slArg
  | @own k m e ys hk hm =>
    simp only [V.Rep] at hr
    obtain ⟨m', h1, _, _, h3⟩ := hr
    have e1 := verAny_one h1 (.inl ⟨e, sz, ys, hk, hm⟩)
    rw [h3 e1.symm]
    have hrow := C.heap.obs k _ hk
    simp only [ObRep] at hrow
    by_cases hne : ys = []
    · subst hne
      obtain ⟨ad, cap, h4, _⟩ := hrow.shape
      exact ⟨ad, cap, [], h4, by simp [D.Reps], by simp, by simp⟩
    · obtain ⟨gb, off, cap, us, q1, _, q3, q4, _, q6⟩ := hrow.cells hne
      exact ⟨_, cap, us, q1, q3, hrow.1, fun _ => ⟨gb, off, rfl, q6⟩⟩
  | @frz k m ys hk hm =>
    simp only [V.Rep] at hr
    obtain ⟨m', h1, _, _, h3⟩ := hr
    have e1 := verAny_one h1 (.inr (.inl ⟨sz, ys, hk, hm⟩))
    rw [h3 e1.symm]
    exact D.Rep.slArg (C.heap.obs k _ hk)
  | nil =>
    simp only [V.Rep, D.RepV, D.Rep, List.cons.injEq, and_true] at hr
    exact ⟨none, 0, [], hr.1, by simp [D.Reps], by simp, by simp⟩
theorem run_append_room' (w : World) (t ty e : TypeId) (i : TypeInfo) (ht : P.underlying t = some (.slice e)) (hi : P.info? e = some i)
    (gb off sLen sCap : Nat) (cur : Array Value) (hg : w.heap[gb]? = some (.cells cur e (0, 0)))
    (a : Addr) (m c : Nat) (news : List Value) (hl : news.length = m * i.size) (hnews : ∀ j u, news[j]? = some u → w.cell? (a.add j) = some u) (h1 : ∀ u ∈ news, u.oneCell' = true)
    (hroom : sLen + m ≤ sCap) (hfit : off + sLen * i.size + news.length ≤ cur.size) :
    (Builtin.append_ #[t, t] ty #[.slice (some ⟨gb, off, none⟩) sLen sCap, .slice (some a) m c]).run P w =
      .ok (.slice (some ⟨gb, off, none⟩) (sLen + m) sCap) (w.setRow gb (cur.toList.take (off + sLen * i.size) ++ news ++ cur.toList.drop (off + sLen * i.size + news.length)).toArray) := by
  have hf := run_firstCells_some (P := P) w i.size m a m c news hl hnews
  have hst := run_storeCells_at P gb (off + sLen * i.size) e news 0 cur w hg (by simpa using hfit) h1
  simp only [Nat.add_zero] at hst
  simp [Builtin.append_, run_underlying ht, sizeOf, typeInfo, hi, Builtin.lenOf, hroom, hf, Addr.add_mid, hst]
/-- append, whatever the slice it begins with: a new row, or the old one goes on. -/
theorem run_app {M : Bars} {w : World} (S : Nat → Prop) {t ty e : TypeId} {y ye : Ty} {z : Value} {sz : Nat} (ht : T.rows[t]? = some y) (hel : y.elem = some e) (hte : T.rows[e]? = some ye) (hz : ye.zero = some z) (hsz : ye.size = sz) (hs0 : 0 < sz) (hzs : z.cells.size = sz)
    {u x : Value} {xs ys : List D} (hx : SlArg M w sz x ys) (hbytes : (xs.length + ys.length) * ye.bytes ≤ 140737488355328) (h63 : xs.length + ys.length ≤ 4611686018427387904) (hne : ys ≠ [])
    (hbase : (RowAt M w e sz u xs ∧ ∀ b, obOf u = some b → S b) ∨ (SlArg M w sz u xs ∧ ∃ ad, u = .slice ad xs.length xs.length)) :
    ∃ v' w', (Builtin.append_ #[t, t] ty #[u, x]).run P w = .ok v' w' ∧ v'.oneCell' = true ∧ Ext S w w' ∧ (∀ b, obOf v' = some b → S b ∨ w.heap.size ≤ b) ∧ ∀ M', Carry M M' w w' → RowAt M' w' e sz v' (xs ++ ys) := by
  obtain ⟨_, ds, _, k2, _, _, _, _, k7, _⟩ := tyOf_spec (T.at ht)
  obtain ⟨i, _, g1, _, g3, g4, _, g6, _⟩ := tyOf_spec (T.at hte)
  have hds := k7 e hel
  subst hds
  subst hsz
  obtain ⟨xa, xc, news, rfl, hx4, hx3, hx5⟩ := hx
  obtain ⟨xb, xoff, rfl, hxc⟩ := hx5 hne
  have hxl := hx4.length
  rw [D.sizes_eq hx3] at hxl
  rw [← g4] at hbytes
  have hyl : 0 < ys.length := List.length_pos_iff.2 hne
  have hn : ∀ j u, news[j]? = some u → w.cell? ((⟨xb, xoff, none⟩ : Addr).add j) = some u := fun j u hu => by
    rw [Addr.add_mid, hxc j (List.getElem?_eq_some_iff.1 hu).1, hu]
  have grown : ∀ (old : Nat) (es : List Value) , D.Reps M w xs es → (∀ x ∈ xs, x.size = ye.size) → old < xs.length + ys.length → ∀ M', Carry M M' w (w.drew.alloc (.cells (es.toArray ++ news.toArray ++ Builtin.zeroCells z.cells (grownCap w (xs.length + ys.length) old e - (xs.length + ys.length))) e)) →
      RowAt M' (w.drew.alloc (.cells (es.toArray ++ news.toArray ++ Builtin.zeroCells z.cells (grownCap w (xs.length + ys.length) old e - (xs.length + ys.length))) e)) e ye.size
        (.slice (some ⟨w.heap.size, 0, none⟩) (xs.length + ys.length) (grownCap w (xs.length + ys.length) old e)) (xs ++ ys) := by
    intro old es q1 q2 ho M' hM
    have hge := grownCap_ge w (xs.length + ys.length) old e
    have hcm : grownCap w (xs.length + ys.length) old e ≤ maxLen := grownCap_le_maxLen w (xs.length + ys.length) old e (by simp [maxLen]; omega)
    have hel := q1.length
    rw [D.sizes_eq q2] at hel
    refine ⟨fun x hx => (List.mem_append.1 hx).elim (q2 x) (hx3 x), .inr ⟨w.heap.size, 0, _, _, by rw [List.length_append], by omega, heap_alloc_new w.drew _, by rw [List.length_append]; exact hge, hcm, ?_, ?_⟩⟩
    · simp only [Array.size_append, List.size_toArray, size_zeroCells, hzs, hel, hxl, ← Nat.add_mul, Nat.zero_add]
      congr 1
      omega
    · have e9 : ∀ Z : List Value, List.take ((xs ++ ys).length * ye.size) (es ++ news ++ Z) = es ++ news := fun Z => by
        have : (xs ++ ys).length * ye.size = (es ++ news).length := by rw [List.length_append, List.length_append, hel, hxl, Nat.add_mul]
        rw [this, List.take_left]
      simp only [List.drop_zero, Array.toList_append]
      rw [e9]
      exact (q1.append hx4).carry hM
  have hEg : ∀ o : Obj, Ext S w (w.drew.alloc o) := fun o => (Ext.refl _ w).drew.alloc o
  have hnb : ∀ c b, obOf (.slice (some ⟨w.heap.size, 0, none⟩) (xs.length + ys.length) c) = some b → S b ∨ w.heap.size ≤ b := fun c b hb => by
    simp [obOf] at hb; exact .inr (by omega)
  -- from what lies at a base that has no room
  have fromBase : ∀ (ba : Option Addr) (cap : Nat) (es : List Value), u = .slice ba xs.length cap → D.Reps M w xs es → (∀ x ∈ xs, x.size = ye.size) → (∀ b, ba = some b → ∀ j v, es[j]? = some v → w.cell? (b.add j) = some v) → (ba = none → xs = [] ∧ cap = 0) → cap < xs.length + ys.length →
      ∃ v' w', (Builtin.append_ #[t, t] ty #[u, .slice (some ⟨xb, xoff, none⟩) ys.length xc]).run P w = .ok v' w' ∧ v'.oneCell' = true ∧ Ext S w w' ∧ (∀ b, obOf v' = some b → S b ∨ w.heap.size ≤ b) ∧ ∀ M', Carry M M' w w' → RowAt M' w' e ye.size v' (xs ++ ys) := by
    intro ba cap es hu q1 q2 q3 q4 q5
    have hel := q1.length
    rw [D.sizes_eq q2] at hel
    cases ba with
    | none =>
      obtain ⟨rfl, rfl⟩ := q4 rfl
      simp only [D.Reps] at q1
      subst q1
      have hr := run_append_nil (P := P) w t ty e i z k2 g1 (by rw [g6, hz]) ⟨xb, xoff, none⟩ ys.length xc news (by rw [hxl, g3]) hn (by omega) (by omega) (by simp at hbytes; omega)
      have hg2 := grown 0 [] (by simp [D.Reps]) (by simp) (by simp; omega)
      simp only [List.length_nil, Nat.zero_add, List.nil_append, Array.empty_append] at hg2 hnb ⊢
      exact ⟨_, _, by rw [hu]; exact hr, rfl, hEg _, hnb _, hg2⟩
    | some b =>
      have hr := run_append_grow (P := P) w t ty e i z k2 g1 (by rw [g6, hz]) b xs.length cap es (by rw [hel, g3]) (q3 b rfl) ⟨xb, xoff, none⟩ ys.length xc news (by rw [hxl, g3]) hn (by omega) (by omega) (growslice_fits (by omega) hbytes)
      exact ⟨_, _, by rw [hu]; exact hr, rfl, hEg _, hnb _, grown cap es q1 q2 q5⟩
  rcases hbase with ⟨hrow, hS⟩ | ⟨hsl, ad, hu⟩
  · obtain ⟨hs, ⟨ad, hu, rfl⟩ | ⟨gb, off, cap, cur, hu, hc0, hgb, hlc, hcm, hcs, hreps⟩⟩ := hrow
    · cases ad with
      | none => exact fromBase none 0 [] hu (by simp [D.Reps]) (by simp) (by simp) (by simp) (by simp; omega)
      | some b => exact fromBase (some b) 0 [] hu (by simp [D.Reps]) (by simp) (by simp) (by simp) (by simp; omega)
    · have hrl := hreps.length
      rw [D.sizes_eq hs] at hrl
      have hN : xs.length * ye.size ≤ cap * ye.size := Nat.mul_le_mul_right _ hlc
      by_cases hroom : xs.length + ys.length ≤ cap
      · have hN2 : (xs.length + ys.length) * ye.size ≤ cap * ye.size := Nat.mul_le_mul_right _ hroom
        rw [Nat.add_mul] at hN2
        have hr := run_append_room' (P := P) w t ty e i k2 g1 gb off xs.length cap cur hgb ⟨xb, xoff, none⟩ ys.length xc news (by rw [hxl, g3]) hn hx4.one hroom (by rw [g3, hxl]; omega)
        rw [g3] at hr
        have hou : obOf u = some gb := by rw [hu]; simp [obOf]; omega
        refine ⟨_, _, by rw [hu]; exact hr, rfl, Ext.setRow w gb _ (hS gb hou), (fun b hb => .inl (hS b (by rw [hou]; simp [obOf] at hb; rw [← hb.2]))), fun M' hM => ?_⟩
        refine ⟨fun x hx => (List.mem_append.1 hx).elim (hs x) (hx3 x), .inr ⟨gb, off, cap, _, by rw [List.length_append], hc0, setRow_heap w gb cur _ e _ hgb, by rw [List.length_append]; exact hroom, hcm, ?_, ?_⟩⟩
        · simp only [List.size_toArray, List.length_append, List.length_take, List.length_drop, Array.length_toList]
          omega
        · rw [List.length_append, Nat.add_mul]
          have e1 : ((cur.toList.take (off + xs.length * ye.size) ++ news ++ cur.toList.drop (off + xs.length * ye.size + news.length)).drop off).take (xs.length * ye.size + ys.length * ye.size) = (cur.toList.drop off).take (xs.length * ye.size) ++ news := by
            apply List.ext_getElem?
            intro j
            simp only [List.getElem?_take, List.getElem?_drop, List.getElem?_append, List.length_append, List.length_take, List.length_drop, Array.length_toList]
            repeat' split
            all_goals first
              | omega
              | rfl
              | (congr 1; omega)
              | (symm; apply List.getElem?_eq_none; omega)
          simp only []
          rw [e1]
          exact (hreps.append hx4).carry hM
      · refine fromBase (some ⟨gb, off, none⟩) cap _ hu hreps hs (fun b hb j v hv => ?_) (by simp) (by omega)
        cases hb
        rw [Addr.add_mid]
        simp only [World.cell?, hgb]
        rw [List.getElem?_take] at hv
        split at hv
        · rw [List.getElem?_drop] at hv; simpa using hv
        · cases hv
  · obtain ⟨ba, bc, es, h1, q1, q2, q3⟩ := hsl
    rw [hu] at h1
    simp only [Value.slice.injEq, true_and] at h1
    obtain ⟨rfl, rfl⟩ := h1
    have hel := q1.length
    rw [D.sizes_eq q2] at hel
    refine fromBase ad xs.length es hu q1 q2 (fun b hb j v hv => ?_) (fun hb => ?_) (by omega)
    · have hxne : xs ≠ [] := by rintro rfl; simp at hel; subst hel; simp at hv
      obtain ⟨b', off, rfl, hc⟩ := q3 hxne
      cases hb
      rw [Addr.add_mid, hc j (List.getElem?_eq_some_iff.1 hv).1]; exact hv
    · have : xs = [] := by
        apply Classical.byContradiction
        intro hxne
        obtain ⟨b', off, h2, _⟩ := q3 hxne
        rw [hb] at h2; cases h2
      exact ⟨this, by simp [this]⟩
/-- append of nothing. -/
theorem run_app0 {w : World} {t ty e : TypeId} {y : Ty} {ye : Ty} (ht : T.rows[t]? = some y) (hel : y.elem = some e) (hte : T.rows[e]? = some ye) {ba xa : Option Addr} {m cap xc : Nat} (hc : m ≤ cap) :
    (Builtin.append_ #[t, t] ty #[.slice ba m cap, .slice xa 0 xc]).run P w = .ok (.slice ba m cap) w := by
  obtain ⟨_, ds, _, k2, _, _, _, _, k7, _⟩ := tyOf_spec (T.at ht)
  obtain ⟨i, _, g1, _⟩ := tyOf_spec (T.at hte)
  have hds := k7 e hel
  subst hds
  cases xa <;> cases ba <;> simp [Builtin.append_, run_underlying k2, sizeOf, typeInfo, g1, Builtin.lenOf, Builtin.firstCells, loadCells, loadCellsFrom, storeCells, hc]
theorem run_appCall {ρ : Operand → Value} {t : TypeId} {x y : Operand} {w w' : World} {v : Value} (h : (Builtin.append_ #[t, t] ty #[ρ x, ρ y]).run P w = .ok v w') :
    (execOp ρ ⟨some d, .call { callee := .builtin .append, args := #[x, y], argTypes := #[t, t] }, ty, pos, after, g⟩).run P w = .ok (.value v) w' := by
  simp only [execOp, resolve, Sem.run_bind, Sem.run_pure, Result.andThen_ok, invoke, builtin, List.map_toArray, List.map_cons, List.map_nil, h]
/-- append to a row of the call's own. -/
theorem d_app {x xy : Operand} {t e : TypeId} {k m sz : Nat} {xs ys : List D} {v : V} {objs : List (Nat × Option Ob)} {y ye : Ty} {z : Value} (hdn : Nat.blt d n = true) (hg : gOk ops fr g) (hx : oev fr x = .own k m) (hy : oev fr xy = v) (hk : hget h k = some (.row e sz xs)) (hm : xs.length = m) (ha : ArgIs h sz v ys objs)
    (ht : T.rows[t]? = some y) (hel : y.elem = some e) (hte : T.rows[e]? = some ye) (hz : ye.zero = some z) (hsz : Nat.beq ye.size sz = true) (hs0 : Nat.blt 0 sz = true) (hzs : Nat.beq z.cells.size sz = true) {nb : Nat} (hnb : ye.bytes = nb) (hbytes : (xs.length + ys.length) * nb ≤ 140737488355328) (h63 : xs.length + ys.length ≤ 4611686018427387904)
    (hr : dops P n dr ops rest (⟨(gIns ops g ++ insAll [x, xy] [.own k m, v]).map Prod.fst, [d], ((k, some (Ob.row e sz xs)) :: objs).map Prod.fst, [k]⟩ :: log) K ((d, .own k (xs ++ ys).length) :: fr) ((k, .row e sz (xs ++ ys)) :: h)) :
    dops P n dr ops (⟨some d, .call { callee := .builtin .append, args := #[x, xy], argTypes := #[t, t] }, ty, pos, after, g⟩ :: rest) log K fr h := by
  subst hnb
  refine dops_cons (ins := gIns ops g ++ insAll [x, xy] [.own k m, v]) (objs := (k, some (.row e sz xs)) :: objs) (v := .own k (xs ++ ys).length) (upd := [(k, .row e sz (xs ++ ys))]) (LStep.updV rfl hdn rfl hg _ _ _ _ fun G E fr' h' a w C hi ho => ?_) (ins_of hg (oevs_ins ⟨hx, hy, trivial⟩)) (ObjsOk.cons hk ha.objs) hr
  have hk' : hget h' k = some (.row e sz xs) := ho (k, _) (by simp)
  have ha' := ha.of (h' := h') (fun p hp => ho p (by simp [hp]))
  have hx' := oevs_of (xs := [x, xy]) (vs := [.own k m, v]) ⟨hx, hy, trivial⟩ hi
  simp only [oevs] at hx'
  obtain ⟨p1, _⟩ := C.oev hx'.1 (oneOpd_spec (oneOpd_of hx rfl))
  obtain ⟨q1, _⟩ := C.oev hx'.2.1 (oneOpd_spec (oneOpd_of hy ha.notAgg))
  have hsa := ha'.slArg C q1
  simp only [V.Rep] at p1
  obtain ⟨m', h1, _, _, h3⟩ := p1
  have e1 := verAny_one h1 (.inl ⟨e, sz, xs, hk', hm⟩)
  have hev := h3 e1.symm
  have hrow := C.heap.obs k _ hk'
  simp only [ObRep] at hrow
  have fin : ∀ (v' : Value) (w' : World), (Builtin.append_ #[t, t] ty #[a.eval x, a.eval xy]).run P w = .ok v' w' → Ext (fun b => obOf (E.row k) = some b) w w' → (∀ b, obOf v' = some b → obOf (E.row k) = some b ∨ w.heap.size ≤ b) → (xs.length = (xs ++ ys).length → v' = E.row k) → (v'.oneCell' = true) → (∀ M', Carry (bars E h' G.o) M' w w' → RowAt M' w' e sz v' (xs ++ ys)) →
      ∃ u E' w', (execOp a.eval ⟨some d, .call { callee := .builtin .append, args := #[x, xy], argTypes := #[t, t] }, ty, pos, after, g⟩).run P w = .ok (.value u) w' ∧ Conc G E' fr' ([(k, .row e sz (xs ++ ys))] ++ h') a w' ∧ V.Rep E' ([(k, .row e sz (xs ++ ys))] ++ h') (bars E' ([(k, .row e sz (xs ++ ys))] ++ h') G.o) w' (.own k (xs ++ ys).length) u ∧ ∀ j ∈ (V.own k (xs ++ ys).length).keys, (hget ([(k, .row e sz (xs ++ ys))] ++ h') j).isSome = true := by
    intro v' w' r1 r2 r3 r4 r5 r6
    obtain ⟨E', C', hE⟩ := C.setRow hk' (v := v') r2 r3 (by simp) r4 r6
    refine ⟨v', E', w', run_appCall r1, C', ?_, by intro q hq; simp [V.keys] at hq; subst hq; simp [hget_same]⟩
    simp only [V.Rep]
    exact ⟨_, .inl ⟨e, sz, _, hget_same _ _ _, rfl⟩, Nat.le_refl _, r5, fun _ => hE.symm⟩
  by_cases hne : ys = []
  · subst hne
    obtain ⟨ad, cap, s1, s2, _⟩ := hrow.shape
    obtain ⟨xa, xc, news, s3, _⟩ := hsa
    refine fin (E.row k) w ?_ (Ext.refl _ _) (fun b hb => .inl hb) (fun _ => rfl) (by rw [s1]; rfl) (fun M' hM => by rw [List.append_nil]; exact hrow.move hM (fun _ _ => rfl))
    rw [hev, s3, s1]
    exact run_app0 T ht hel hte s2
  · obtain ⟨v', w', r1, r0, r2, r3, r4⟩ := run_app T (fun b => obOf (E.row k) = some b) (ty := ty) ht hel hte hz (Nat.eq_of_beq_eq_true hsz) (by simpa [Nat.blt_eq] using hs0) (Nat.eq_of_beq_eq_true hzs) hsa hbytes h63 hne (.inl ⟨hrow, fun b hb => hb⟩)
    refine fin v' w' (by rw [hev]; exact r1) r2 r3 (fun hl => ?_) r0 r4
    exact absurd (by simpa using hl) hne
/-- append to what has no room: a new row of the call's own. -/
theorem d_appNew {x xy : Operand} {t e : TypeId} {sz : Nat} {xs ys : List D} {b v : V} {objs : List (Nat × Option Ob)} {y ye : Ty} {z : Value} (hdn : Nat.blt d n = true) (hlow : Nat.blt d 1000 = true) (hg : gOk ops fr g) (hx : oev fr x = b) (hy : oev fr xy = v) (hk : hget h d = none) (ha : ArgIs h sz v ys objs)
    (hb : (b = nilS ∧ xs = []) ∨ ((∃ t, b = .full t sz xs) ∧ (xs = [] ∨ ys ≠ [])))
    (ht : T.rows[t]? = some y) (hel : y.elem = some e) (hte : T.rows[e]? = some ye) (hz : ye.zero = some z) (hsz : Nat.beq ye.size sz = true) (hs0 : Nat.blt 0 sz = true) (hzs : Nat.beq z.cells.size sz = true) {nb : Nat} (hnb : ye.bytes = nb) (hbytes : (xs.length + ys.length) * nb ≤ 140737488355328) (h63 : xs.length + ys.length ≤ 4611686018427387904)
    (hr : dops P n dr ops rest (⟨(gIns ops g ++ insAll [x, xy] [b, v]).map Prod.fst, [d], ((d, none) :: objs).map Prod.fst, [d]⟩ :: log) K ((d, .own d (xs ++ ys).length) :: fr) ((d, .row e sz (xs ++ ys)) :: h)) :
    dops P n dr ops (⟨some d, .call { callee := .builtin .append, args := #[x, xy], argTypes := #[t, t] }, ty, pos, after, g⟩ :: rest) log K fr h := by
  subst hnb
  refine dops_cons (ins := gIns ops g ++ insAll [x, xy] [b, v]) (objs := (d, none) :: objs) (v := .own d (xs ++ ys).length) (upd := [(d, .row e sz (xs ++ ys))]) (LStep.updV rfl hdn rfl hg _ _ _ _ fun G E fr' h' a w C hi ho => ?_) (ins_of hg (oevs_ins ⟨hx, hy, trivial⟩)) (ObjsOk.cons hk ha.objs) hr
  have hk' : hget h' d = none := ho (d, _) (by simp)
  have ha' := ha.of (h' := h') (fun p hp => ho p (by simp [hp]))
  have hx' := oevs_of (xs := [x, xy]) (vs := [b, v]) ⟨hx, hy, trivial⟩ hi
  simp only [oevs] at hx'
  have hbn : notAgg b = true := by
    rcases hb with ⟨rfl, _⟩ | ⟨⟨t, rfl⟩, _⟩ <;> rfl
  obtain ⟨p1, _⟩ := C.oev hx'.1 (oneOpd_spec (oneOpd_of hx hbn))
  obtain ⟨q1, _⟩ := C.oev hx'.2.1 (oneOpd_spec (oneOpd_of hy ha.notAgg))
  have hsa := ha'.slArg C q1
  have fin : ∀ (v' : Value) (w' : World), (Builtin.append_ #[t, t] ty #[a.eval x, a.eval xy]).run P w = .ok v' w' → Ext NoB w w' → (∀ b, obOf v' = some b → w.heap.size ≤ b) → (v'.oneCell' = true) → (∀ M', Carry (bars E h' G.o) M' w w' → RowAt M' w' e sz v' (xs ++ ys)) →
      ∃ u E' w', (execOp a.eval ⟨some d, .call { callee := .builtin .append, args := #[x, xy], argTypes := #[t, t] }, ty, pos, after, g⟩).run P w = .ok (.value u) w' ∧ Conc G E' fr' ([(d, .row e sz (xs ++ ys))] ++ h') a w' ∧ V.Rep E' ([(d, .row e sz (xs ++ ys))] ++ h') (bars E' ([(d, .row e sz (xs ++ ys))] ++ h') G.o) w' (.own d (xs ++ ys).length) u ∧ ∀ j ∈ (V.own d (xs ++ ys).length).keys, (hget ([(d, .row e sz (xs ++ ys))] ++ h') j).isSome = true := by
    intro v' w' r1 r2 r3 r5 r6
    obtain ⟨E', C', hE⟩ := C.newRow hk' hlow (v := v') r2 r3 r6
    refine ⟨v', E', w', run_appCall r1, C', ?_, by intro q hq; simp [V.keys] at hq; subst hq; simp [hget_same]⟩
    simp only [V.Rep]
    exact ⟨_, .inl ⟨e, sz, _, hget_same _ _ _, rfl⟩, Nat.le_refl _, r5, fun _ => hE.symm⟩
  have hbase : (∃ ad, a.eval x = .slice ad xs.length xs.length) ∧ SlArg (bars E h' G.o) w sz (a.eval x) xs ∧ (xs = [] ∨ ys ≠ [] ∨ False) := by
    rcases hb with ⟨rfl, rfl⟩ | ⟨⟨t, rfl⟩, hne⟩
    · simp only [V.Rep, D.RepV, D.Rep, List.cons.injEq, and_true] at p1
      exact ⟨⟨none, p1.1⟩, ⟨none, 0, [], p1.1, by simp [D.Reps], by simp, by simp⟩, .inl rfl⟩
    · simp only [V.Rep] at p1
      exact ⟨p1.2, p1.1.slArg, hne.imp id .inl⟩
  obtain ⟨⟨ad, hu⟩, hsl, hne⟩ := hbase
  by_cases hys : ys = []
  · subst hys
    have hxs : xs = [] := by simpa using hne
    subst hxs
    obtain ⟨xa, xc, news, s3, _⟩ := hsa
    refine fin (.slice ad 0 0) w ?_ (Ext.refl _ _) (fun b hb => by cases ad <;> simp [obOf] at hb) rfl (fun M' hM => ⟨by simp, .inl ⟨ad, rfl, by simp⟩⟩)
    rw [hu, s3]
    exact run_app0 T ht hel hte (Nat.le_refl _)
  · obtain ⟨v', w', r1, r0, r2, r3, r4⟩ := run_app T NoB (ty := ty) ht hel hte hz (Nat.eq_of_beq_eq_true hsz) (by simpa [Nat.blt_eq] using hs0) (Nat.eq_of_beq_eq_true hzs) hsa hbytes h63 hys (.inr ⟨hsl, ad, hu⟩)
    exact fin v' w' r1 r2 (fun b hb => (r3 b hb).elim (fun q => q.elim) id) r0 r4

/-! ### Lengths, pieces -/
theorem run_lenCall {ρ : Operand → Value} {t : TypeId} {x : Operand} {w : World} {v : Value} (h : (Builtin.len_ #[t] ty #[ρ x]).run P w = .ok v w) :
    (execOp ρ ⟨some d, .call { callee := .builtin .len, args := #[x], argTypes := #[t] }, ty, pos, after, g⟩).run P w = .ok (.value v) w := by
  simp only [execOp, resolve, Sem.run_bind, Sem.run_pure, Result.andThen_ok, invoke, builtin, List.map_toArray, List.map_cons, List.map_nil, h]
theorem d_len {x : Operand} {t e sz : Nat} {ys : List D} {v : V} {objs : List (Nat × Option Ob)} {y : Ty} (hdn : Nat.blt d n = true) (hg : gOk ops fr g) (hx : oev fr x = v) (ha : ArgIs h sz v ys objs) (ht : T.rows[t]? = some y) (hel : y.elem = some e) {m : Nat} (hm : ys.length = m)
    (hr : dops P n dr ops rest (⟨(gIns ops g ++ insOf x v).map Prod.fst, [d], objs.map Prod.fst, []⟩ :: log) K ((d, I m) :: fr) h) : dops P n dr ops (⟨some d, .call { callee := .builtin .len, args := #[x], argTypes := #[t] }, ty, pos, after, g⟩ :: rest) log K fr h := by
  subst hm
  refine d_un x v (I ys.length) objs ha.objs (oneOpd_of hx ha.notAgg) (fun G E fr h' a w C ho r hk => ?_) hdn hg hx hr
  obtain ⟨ad, c, news, h1, _⟩ := (ha.of ho).slArg C r
  obtain ⟨_, ds, _, k2, _, _, _, _, k7, _⟩ := tyOf_spec (T.at ht)
  have hds := k7 e hel
  subst hds
  refine ⟨.int .i64 ys.length, run_lenCall ?_, by simp [V.Rep, D.RepV, D.Rep, Value.oneCell'], by simp [V.keys]⟩
  rw [h1]
  simp [Builtin.len_, run_underlying k2, goInt]
theorem d_lenS {x : Operand} {t : Nat} {s : ByteArray} {y : Ty} (hdn : Nat.blt d n = true) (hg : gOk ops fr g) (hx : oev fr x = Str s) (ht : T.rows[t]? = some y) (hs : y.str = true)
    (hr : dops P n dr ops rest (⟨(gIns ops g ++ insOf x (Str s)).map Prod.fst, [d], [], []⟩ :: log) K ((d, I s.size) :: fr) h) : dops P n dr ops (⟨some d, .call { callee := .builtin .len, args := #[x], argTypes := #[t] }, ty, pos, after, g⟩ :: rest) log K fr h := by
  refine d_un x (Str s) (I s.size) [] (by simp) (oneOpd_of hx rfl) (fun G E fr h' a w C ho r hk => ?_) hdn hg hx hr
  simp only [V.Rep, D.RepV, D.Rep, List.cons.injEq, and_true] at r
  obtain ⟨_, ds, _, k2, _, _, _, _, _, k8, _⟩ := tyOf_spec (T.at ht)
  have hds := k8 hs
  subst hds
  refine ⟨.int .i64 s.size, run_lenCall ?_, by simp [V.Rep, D.RepV, D.Rep, Value.oneCell'], by simp [V.keys]⟩
  rw [r.1]
  simp [Builtin.len_, run_underlying k2, goInt]
/-- A byte of a text. -/
theorem d_indexS {x ix : Operand} {t : Nat} {s : ByteArray} {ik : IntKind} {c : Int} {b : UInt8} {y : Ty} (i : Nat) (hdn : Nat.blt d n = true) (hg : gOk ops fr g) (hx : oev fr x = Str s) (hy : oev fr ix = .d (.raw (.int ik c))) (hc : c = (i : Int)) (hb : s[i]? = some b) (ht : T.rows[t]? = some y) (hs : y.str = true)
    (hr : dops P n dr ops rest (⟨(gIns ops g ++ (insOf x (Str s) ++ insOf ix (.d (.raw (.int ik c))))).map Prod.fst, [d], [], []⟩ :: log) K ((d, U8 b.toNat) :: fr) h) : dops P n dr ops (⟨some d, .index t x ix, ty, pos, after, g⟩ :: rest) log K fr h := by
  refine d_un2 x ix (Str s) ik c (U8 b.toNat) [] (by simp) (oneOpd_of hx rfl) (fun G E fr h a w C _ r hk hyv => ?_) hdn hg hx hy hr
  simp only [V.Rep, D.RepV, D.Rep, List.cons.injEq, and_true] at r
  obtain ⟨_, ds, _, k2, _, _, _, _, _, k8, _⟩ := tyOf_spec (T.at ht)
  have hds := k8 hs
  subst hds
  refine ⟨.int .u8 b.toNat, ?_, by simp [V.Rep, D.RepV, D.Rep, Value.oneCell'], by simp [V.keys]⟩
  simp [execOp, r.1, hyv, hc, Instr.index, asIntOf, run_underlying k2, hb]
/-- A field of a struct value. -/
theorem run_field {t : TypeId} {y : Ty} {f off : Nat} {us : List Value} {u : Value} (ht : T.rows[t]? = some y) {fs : Array Field} (hds : P.underlying t = some (.struct fs)) {ft : TypeId} (hft : (fs[f]?).map (fun q => (q.type, q.offset)) = some (ft, off)) {yf : Ty} (htf : T.rows[ft]? = some yf) (hrow : yf.row = false) (hu : us[off]? = some u) (w : World) :
    (Instr.field t (.agg us.toArray) f).run P w = .ok u w := by
  obtain ⟨_, dsf, _, k2, _, _, k5, _⟩ := tyOf_spec (T.at htf)
  simp only [Option.map_eq_some_iff, Prod.mk.injEq] at hft
  obtain ⟨q, hq, rfl, rfl⟩ := hft
  have hagg : (isAgg q.type).run P w = .ok false w := by
    unfold isAgg
    rw [Sem.run_bind, run_underlying k2 w]
    cases dsf <;> simp_all [TypeDesc.isRow]
  simp [Instr.field, run_underlying hds, hq, asAgg, part, hagg, hu]
/-- x[lo:hi]. -/
theorem run_sliceS {t e : TypeId} {y ye : Ty} (ht : T.rows[t]? = some y) (hel : y.elem = some e) (hte : T.rows[e]? = some ye) {ba : Option Addr} {len cap lo hi : Nat} {kl kh : IntKind} (vl vh : Option Value) (hl : (vl = none ∧ lo = 0) ∨ vl = some (.int kl lo)) (hh : (vh = none ∧ hi = len) ∨ vh = some (.int kh hi)) (h1 : lo ≤ hi) (h2 : hi ≤ cap) (w : World) :
    (Instr.sliceAt t (.slice ba len cap) vl vh none).run P w = .ok (.slice (if cap = lo then ba else ba.map (·.add (lo * ye.size))) (hi - lo) (cap - lo)) w := by
  obtain ⟨_, ds, _, k2, _, _, _, _, k7, _⟩ := tyOf_spec (T.at ht)
  obtain ⟨i, _, g1, _, g3, _⟩ := tyOf_spec (T.at hte)
  have hds := k7 e hel
  subst hds
  have e1 : (0 : Int) ≤ (hi : Int) ∧ (hi : Int) ≤ (cap : Int) := by omega
  have e2 : (0 : Int) ≤ (lo : Int) ∧ (lo : Int) ≤ (hi : Int) := by omega
  rcases hl with ⟨rfl, rfl⟩ | rfl <;> rcases hh with ⟨rfl, rfl⟩ | rfl <;>
    simp [Instr.sliceAt, run_underlying k2, Instr.slice, Instr.sliceBounds, Instr.sliceBound, asIntOf, sizeOf, typeInfo, g1, g3, h1, h2]
theorem sl_cut {M : Bars} {w : World} {t : Bool} {sz lo hi : Nat} {es : List D} {ba : Option Addr} {cap cap' : Nat} (hr : D.Rep M w (.sl t sz es) [.slice ba es.length cap]) (h1 : lo ≤ hi) (h2 : hi ≤ es.length) (hc : hi - lo ≤ cap') (hcm : cap' ≤ maxLen) :
    D.Rep M w (.sl t sz ((es.take hi).drop lo)) [.slice (if cap = lo then ba else ba.map (·.add (lo * sz))) (hi - lo) cap'] := by
  have hlen : ((es.take hi).drop lo).length = hi - lo := by simp; omega
  simp only [D.Rep, List.cons.injEq, and_true, Value.slice.injEq] at hr ⊢
  obtain ⟨a, cp, us, ⟨rfl, _, rfl⟩, q1, q2, q3, q4, q5⟩ := hr
  have hm : ∀ x ∈ (es.take hi).drop lo, x.size = sz := fun x hx => q3 x (List.mem_of_mem_take (List.mem_of_mem_drop hx))
  have hsp : es = es.take lo ++ (((es.take hi).drop lo) ++ es.drop hi) := by
    have e1 : es.take hi = es.take lo ++ (es.take hi).drop lo := by
      have := (List.take_append_drop lo (es.take hi)).symm
      rwa [List.take_take, Nat.min_eq_left h1] at this
    rw [← List.append_assoc, ← e1, List.take_append_drop]
  have hz1 : D.sizes (es.take lo) = lo * sz := by rw [D.sizes_eq (sz := sz) (fun x hx => q3 x (List.mem_of_mem_take hx)), List.length_take, Nat.min_eq_left (by omega)]
  have hz2 : D.sizes ((es.take hi).drop lo) = (hi - lo) * sz := by rw [D.sizes_eq hm, hlen]
  have q4' := q4
  rw [hsp] at q4'
  have q6 := (D.Reps.split (D.Reps.split q4').2).1
  rw [hz1, hz2] at q6
  have hul := q4.length
  rw [D.sizes_eq q3] at hul
  refine ⟨_, cap', _, ⟨rfl, hlen.symm, rfl⟩, by omega, hcm, hm, q6, fun hne => ?_⟩
  have hpos : 0 < hi - lo := by rw [← hlen]; exact List.length_pos_iff.2 hne
  obtain ⟨b, off, rfl, g1, g2, g3⟩ := q5 (by rintro rfl; simp at h2; omega)
  rw [if_neg (by omega)]
  refine ⟨b, off + lo * sz, by simp [Addr.add_mid], g1, g2, fun j hj => ?_⟩
  have hle : (lo + (hi - lo)) * sz ≤ es.length * sz := Nat.mul_le_mul_right _ (by omega)
  rw [Nat.add_mul] at hle
  simp only [List.length_take, List.length_drop, hul] at hj
  rw [Nat.add_assoc, g3 _ (by omega), List.getElem?_take, if_pos (by omega), List.getElem?_drop]
def bndIs (fr : Fr) : Option Operand → Nat → Nat → Prop
  | none, dflt, i => i = dflt
  | some x, _, i => oev fr x = I (i : Int)
def bndIns : Option Operand → Nat → List (Nat × V)
  | none, _ => []
  | some x, i => insOf x (I (i : Int))
theorem bndIns_ok {x : Option Operand} {dflt i : Nat} (hb : bndIs fr x dflt i) : ∀ p ∈ bndIns x i, fget fr p.1 = p.2 := by
  cases x with
  | none => simp [bndIns]
  | some x => exact oev_ins hb
theorem bnd_val {G : Ctx} {E : Env} {fr' : Fr} {a : Act} {w : World} (C : Conc G E fr' h a w) {x : Option Operand} {dflt i : Nat} (hb : bndIs fr x dflt i) (hi : ∀ p ∈ bndIns x i, fget fr' p.1 = p.2) : (x.map a.eval = none ∧ i = dflt) ∨ x.map a.eval = some (.int .i64 (i : Int)) := by
  cases x with
  | none => exact .inl ⟨rfl, hb⟩
  | some x =>
    obtain ⟨r, _⟩ := C.oev (oev_of hb hi) (oneOpd_spec (oneOpd_of hb rfl))
    simp only [V.Rep, D.RepV, D.Rep, List.cons.injEq, and_true] at r
    exact .inr (by simp [r.1])
/-- A piece of data. -/
theorem d_slice {x : Operand} {xl xh : Option Operand} {t e : Nat} {tb : Bool} {sz lo hi : Nat} {es : List D} {y ye : Ty} (hdn : Nat.blt d n = true) (hg : gOk ops fr g) (hx : oev fr x = .d (.sl tb sz es)) (hl : bndIs fr xl 0 lo) (hh : bndIs fr xh es.length hi) (h1 : lo ≤ hi) (h2 : hi ≤ es.length)
    (ht : T.rows[t]? = some y) (hel : y.elem = some e) (hte : T.rows[e]? = some ye) (hsz : Nat.beq ye.size sz = true)
    (hr : dops P n dr ops rest (⟨(gIns ops g ++ (insOf x (.d (.sl tb sz es)) ++ (bndIns xl lo ++ bndIns xh hi))).map Prod.fst, [d], [], []⟩ :: log) K ((d, .d (.sl tb sz ((es.take hi).drop lo))) :: fr) h) : dops P n dr ops (⟨some d, .slice t x xl xh none, ty, pos, after, g⟩ :: rest) log K fr h := by
  refine dops_cons (ins := gIns ops g ++ (insOf x (.d (.sl tb sz es)) ++ (bndIns xl lo ++ bndIns xh hi))) (objs := []) (v := .d (.sl tb sz ((es.take hi).drop lo))) (upd := []) (LStep.pure rfl hdn rfl hg _ [] _ fun G E fr' h' a w C hi' _ => ?_) (ins_of hg (fun p hp => ?_)) (by simp) hr
  · simp only [List.mem_append] at hi'
    obtain ⟨r, _⟩ := C.oev (oev_of hx (fun p hp => hi' p (.inl hp))) (oneOpd_spec (oneOpd_of hx rfl))
    have b1 := bnd_val C hl (fun p hp => hi' p (.inr (.inl hp)))
    have b2 := bnd_val C hh (fun p hp => hi' p (.inr (.inr hp)))
    simp only [V.Rep, D.RepV] at r
    have r' := r
    simp only [D.Rep, List.cons.injEq, and_true] at r'
    obtain ⟨ba, cap, us, hev, q1, q2, _⟩ := r'
    rw [hev] at r
    have hs := Nat.eq_of_beq_eq_true hsz
    have hrun := run_sliceS T ht hel hte (ba := ba) (len := es.length) (cap := cap) (lo := lo) (hi := hi) (kl := .i64) (kh := .i64) (xl.map a.eval) (xh.map a.eval) b1 b2 h1 (by omega) w
    rw [hs] at hrun
    refine ⟨_, ?_, by simp only [V.Rep, D.RepV]; exact sl_cut r h1 h2 (cap' := cap - lo) (by omega) (by omega), by simp [V.keys]⟩
    simp only [execOp, hev, Option.map_none, Sem.run_bind, hrun, Result.andThen_ok, Sem.run_pure]
  · simp only [List.mem_append] at hp
    rcases hp with hp | hp | hp
    · exact oev_ins hx p hp
    · exact bndIns_ok hl p hp
    · exact bndIns_ok hh p hp
end
end Go.Proofs.Ytpaeihifcmohkaa
