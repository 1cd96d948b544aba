/-
  Sim: slices by their parts, made slices, append, writes, lengths, pieces.
-/
import Derived.Test.YtpaeihifcmohkaaSimI
set_option linter.unusedVariables false
set_option linter.unusedSimpArgs false
namespace Go.Proofs.Ytpaeihifcmohkaa
open Go.RowKit

section
variable {P : Program} {n : Nat} {dr : Bool} {ops : Array Oper} {rest : List Oper} {log : List Rec} {K : Fr → Hp → Prop} {fr : Fr} {h : Hp}
variable {d : Nat} {ty : TypeId} {pos : String} {after : Array Edge} {g : Option (Nat × Bool)}
variable (T : TT P)

theorem pairs_range {α : Type} : ∀ (l : List (Nat × α)) (k : Nat), l.map Prod.fst = List.range' k l.length → l = ((l.map Prod.snd).zipIdx k).map (fun x => (x.2, x.1))
  | [], _, _ => rfl
  | (i, x) :: l, k, h => by
    simp only [List.map_cons, List.length_cons, List.range'_succ, List.cons.injEq] at h
    obtain ⟨rfl, h⟩ := h
    simp only [List.map_cons, List.zipIdx_cons, List.cons.injEq, true_and]
    exact pairs_range l (i + 1) h
theorem run_buildSlice {t e : TypeId} {y ye : Ty} {z : Value} (ht : T.rows[t]? = some y) (he : y.elem = some e) (hte : T.rows[e]? = some ye) (hz : ye.zero = some z) (hs0 : 0 < ye.size) {len : Nat} (hlen : len * ye.size ≤ 16777216) {qs : List (Nat × Value)} {us : List Value}
    (hq : qs = (us.zipIdx 0).map fun x => (x.2, x.1)) (hu : us.length = len) (hus : ∀ u ∈ us, u.cells.size = ye.size) (w : World) :
    (Instr.buildSlice t len qs.toArray).run P w = .ok (.slice (some ⟨w.heap.size, 0, none⟩) len len) (w.alloc (.cells (us.flatMap fun u => u.cells.toList).toArray e)) := by
  obtain ⟨_, ds, _, h2, _, _, _, _, h7, _⟩ := tyOf_spec (T.at ht)
  obtain ⟨j, _, g1, _, g3, _, _, g6, _⟩ := tyOf_spec (T.at hte)
  have hds := h7 e he
  subst hds
  have hfill : ∀ cells : Array Value, cells.size = len * ye.size → Instr.fill (fun i => some (i * ye.size, ye.size)) cells qs = some (us.flatMap fun u => u.cells.toList).toArray := fun cells hc => by
    rw [hq]
    exact Great.fill_whole hs0 us cells hus (by rw [hu, hc])
  have n1 : ¬ (16777216 < len * ye.size) := by omega
  by_cases h0 : len * ye.size = 0
  · have := hfill (Array.map (fun _ => default) (Array.range 0)) (by simp [h0])
    simp [Instr.buildSlice, run_underlying h2, sizeOf, typeInfo, g1, g3, h0, newRow, this]
  · have hzz : (zeroValue e).run P w = .ok z w := by
      unfold zeroValue typeInfo
      simp [g1, g6, hz]
    have := hfill ((Array.range (len * ye.size)).map (z.cells[· % z.cells.size]!)) (by simp)
    simp [Instr.buildSlice, run_underlying h2, sizeOf, typeInfo, g1, g3, n1, h0, newRow, hzz, this]
/-- A slice by its parts: a new row of the call's own. -/
theorem d_buildSlice {t e len : Nat} {parts : Array (Nat × Operand)} {xs : List Operand} {vs : List V} {Ds : List D} {objs : List (Nat × Option Ob)} {fz : Hp} {y ye : Ty} {z : Value} {sz : Nat} (hdn : Nat.blt d n = true) (hlow : Nat.blt d 1000 = true) (hg : gOk ops fr g)
    (hp : parts.toList.map Prod.snd = xs) (hpi : parts.toList.map Prod.fst = List.range' 0 len) (hx : oevs fr xs vs) (h1 : xs.all oneOpd = true) (hk : hget h d = none) (he : EmbVs h vs Ds objs fz)
    (ht : T.rows[t]? = some y) (hel : y.elem = some e) (hte : T.rows[e]? = some ye) (hz : ye.zero = some z) (hsz : ye.size = sz) (hs0 : Nat.blt 0 sz = true) (hDs : Ds.all (fun x => Nat.beq x.size sz) = true) (hlen : Nat.ble (len * sz) 16777216 = true)
    (hr : dops P n dr ops rest (⟨(gIns ops g ++ insAll xs vs).map Prod.fst, [d], ((d, none) :: objs).map Prod.fst, ((d, Ob.row e sz Ds) :: fz).map Prod.fst⟩ :: log) K ((d, .own d len) :: fr) (((d, .row e sz Ds) :: fz) ++ h)) : dops P n dr ops (⟨some d, .buildSlice t len parts, ty, pos, after, g⟩ :: rest) log K fr h := by
  refine dops_cons (ins := gIns ops g ++ insAll xs vs) (objs := (d, none) :: objs) (v := .own d len) (upd := (d, .row e sz Ds) :: fz) (LStep.updV rfl hdn rfl hg _ _ _ _ fun G E fr' h' a w C hi ho => ?_) (ins_of hg (oevs_ins hx)) (ObjsOk.cons hk he.objs) hr
  have hk' : hget h' d = none := ho (d, none) (by simp)
  have he' : EmbVs h' vs Ds objs fz := he.of (fun p hp => ho p (by simp [hp]))
  have hx' := oevs_of hx hi
  have C1 := C.frozs he'.fz
  obtain ⟨r1, r2⟩ := oevs_rep C1 hx' h1
  have hco := (he'.co he'.fz (fun _ hp => hp)).reps C1.heap C1.sub r1
  subst hsz
  have hsizes : ∀ x ∈ Ds, x.size = ye.size := fun x hx => by simpa using Nat.eq_of_beq_eq_true (List.all_eq_true.1 hDs x hx)
  have hus := reps_sizes hco hsizes
  have hds := reps_ds hco
  have hlenp : len = parts.toList.length := by
    have := congrArg List.length hpi; simpa using this.symm
  have hul : (xs.map a.eval).length = len := by rw [List.length_map, ← hp, List.length_map, hlenp]
  have hDl : Ds.length = len := by have := hco.length; simp at this; rw [← this]; simpa using hul
  have hq : (parts.toList.map fun p => (p.1, a.eval p.2)) = ((xs.map a.eval).zipIdx 0).map fun x => (x.2, x.1) := by
    have := pairs_range (parts.toList.map fun p => (p.1, a.eval p.2)) 0 (by simp only [List.map_map, List.length_map]; rw [← hlenp]; simpa [Function.comp_def] using hpi)
    rw [this]
    congr 2
    rw [← hp]; simp
  have hrun := run_buildSlice T ht hel hte hz (by simpa [Nat.blt_eq] using hs0) (Nat.le_of_ble_eq_true hlen) hq hul hus w
  have hkz : hget (fz ++ h') d = none := by
    rw [hget_append]
    cases hq : hget fz d with
    | none => exact hk'
    | some ob =>
      exfalso
      have : ∀ {u : Hp} {o' : Ob}, hget u d = some o' → (d, o') ∈ u := by
        intro u
        induction u with
        | nil => intro o' q; simp [hget] at q
        | cons p u ih =>
          intro o' q
          obtain ⟨j, ob⟩ := p
          by_cases ej : j = d
          · subst ej; rw [hget_same] at q; cases q; simp
          · rw [hget_other _ _ ej] at q; exact List.mem_cons_of_mem _ (ih q)
      obtain ⟨_, _, _, _, q2⟩ := he'.fz _ (this hq)
      simp only at q2
      rw [hk'] at q2; cases q2
  have hfl := hds.length
  rw [D.sizes_eq hsizes, hDl] at hfl
  have hs0' : 0 < ye.size := by simpa [Nat.blt_eq] using hs0
  obtain ⟨E', C', hE⟩ := C1.newRow (e := e) (sz := ye.size) (xs := Ds) (v := .slice (some ⟨w.heap.size, 0, none⟩) len len) hkz hlow (Ext.new w (.cells ((xs.map a.eval).flatMap fun u => u.cells.toList).toArray e)) (fun b hb => by simp [obOf] at hb; omega) (fun M' hM => by
    refine ⟨hsizes, ?_⟩
    by_cases h0 : len = 0
    · exact .inl ⟨_, by rw [h0], List.eq_nil_of_length_eq_zero (by omega)⟩
    · refine .inr ⟨w.heap.size, 0, len, _, by rw [hDl], by omega, heap_alloc_new w _, by omega, ?_, ?_, ?_⟩
      · have := Nat.le_of_ble_eq_true hlen
        have h2 : len * 1 ≤ len * ye.size := Nat.mul_le_mul_left _ hs0'
        simp [maxLen]; omega
      · simp only [List.size_toArray]; omega
      · simp only [List.drop_zero]
        rw [List.take_of_length_le (by rw [hDl]; omega)]
        exact hds.carry hM)
  refine ⟨.slice (some ⟨w.heap.size, 0, none⟩) len len, E', _, ?_, C', ?_, by intro q hq; simp [V.keys] at hq; subst hq; simp [hget_same]⟩
  · show (do let x ← Instr.buildSlice t len (parts.map fun p => (p.1, a.eval p.2)); pure (Next.value x) : Sem Next).run P w = _
    have e0 : (parts.map fun p => (p.1, a.eval p.2)) = (parts.toList.map fun p => (p.1, a.eval p.2)).toArray := by rw [← Array.toList_map, Array.toArray_toList]
    rw [e0, Sem.run_bind, hrun]
    rfl
  · simp only [V.Rep]
    exact ⟨len, .inl ⟨e, ye.size, Ds, hget_same _ _ _, hDl⟩, Nat.le_refl _, rfl, fun _ => hE.symm⟩

/-! ### make -/
def zeroD : Value → D
  | .agg cs => .agg (cs.toList.map .raw)
  | v => .raw v
theorem zeroD_rep {M : Bars} {w : World} {z : Value} (hz : zeroOne z = true) : (zeroD z).Rep M w z.cells.toList := by
  have key : ∀ (l : List Value), l.all Value.oneCell' = true → D.Reps M w (l.map .raw) l := by
    intro l
    induction l with
    | nil => intro _; simp [D.Reps]
    | cons u l ih =>
      intro ha
      simp only [List.all_cons, Bool.and_eq_true] at ha
      simp only [List.map_cons, D.Reps]
      exact ⟨[u], l, rfl, by simp [D.Rep, ha.1], ih ha.2⟩
  cases z with
  | agg cs => simpa [zeroD, D.Rep, Value.cells] using key cs.toList hz
  | _ => simp only [zeroOne] at hz; simp [zeroD, D.Rep, Value.cells, hz]
theorem reps_replicate {M : Bars} {w : World} {x : D} {c : List Value} (hx : x.Rep M w c) : ∀ m, D.Reps M w (List.replicate m x) (List.replicate m c).flatten
  | 0 => by simp [D.Reps]
  | m + 1 => by
    simp only [List.replicate_succ, D.Reps, List.flatten_cons]
    exact ⟨c, _, rfl, hx, reps_replicate hx m⟩
theorem madeCells_eq {z : Array Value} (m : Nat) (hz : 0 < z.size) : (madeCells z (m * z.size)).toList = (List.replicate m z.toList).flatten := by
  apply List.ext_getElem?
  intro i
  have h1 : (madeCells z (m * z.size)).toList[i]? = if i < m * z.size then z[i % z.size]? else none := by
    simp only [madeCells, Array.toList_map, Array.toList_range, List.getElem?_map]
    by_cases hi : i < m * z.size
    · rw [if_pos hi, List.getElem?_range hi]
      simp [Nat.mod_lt i hz]
    · rw [if_neg hi, List.getElem?_eq_none (by simp; omega)]
      rfl
  rw [h1]
  induction m generalizing i with
  | zero => simp
  | succ m ih =>
    simp only [List.replicate_succ, List.flatten_cons, List.getElem?_append, Array.length_toList]
    by_cases hi : i < z.size
    · rw [if_pos (by rw [Nat.add_mul]; omega), if_pos hi, Nat.mod_eq_of_lt hi]; simp
    · rw [if_neg hi]
      have ih' := ih (i - z.size) (by
        simp only [madeCells, Array.toList_map, Array.toList_range, List.getElem?_map]
        by_cases hi : i - z.size < m * z.size
        · rw [if_pos hi, List.getElem?_range hi]
          simp [Nat.mod_lt _ hz]
        · rw [if_neg hi, List.getElem?_eq_none (by simp; omega)]
          rfl)
      rw [← ih']
      by_cases h2 : i < (m + 1) * z.size
      · rw [if_pos h2, if_pos (by rw [Nat.add_mul] at h2; omega)]
        rw [Nat.mod_eq_sub_mod (by omega)]
      · rw [if_neg h2, if_neg (by rw [Nat.add_mul] at h2; omega)]
/-- make([]T, m). -/
theorem d_makeSlice {t e m : Nat} {xl xc : Operand} {c : Int} {y ye : Ty} {z : Value} {sz : Nat} (hdn : Nat.blt d n = true) (hlow : Nat.blt d 1000 = true) (hg : gOk ops fr g) (hx : oev fr xl = I c) (hx2 : oev fr xc = I c) (hc : c = (m : Int)) (hk : hget h d = none)
    (ht : T.rows[t]? = some y) (hel : y.elem = some e) (hte : T.rows[e]? = some ye) (hz : ye.zero = some z) (hsz : ye.size = sz) (hs0 : Nat.blt 0 sz = true) (hz1 : zeroOne z = true) (hzs : Nat.beq z.cells.toList.length sz = true) (hby : m * ye.bytes ≤ 281474976710656) (hm : m ≤ 4611686018427387904)
    (hr : dops P n dr ops rest (⟨(gIns ops g ++ insAll [xl, xc] [I c, I c]).map Prod.fst, [d], [d], [d]⟩ :: log) K ((d, .own d m) :: fr) ((d, .row e sz (List.replicate m (zeroD z))) :: h)) : dops P n dr ops (⟨some d, .makeSlice t xl xc, ty, pos, after, g⟩ :: rest) log K fr h := by
  subst hc; subst hsz
  refine dops_cons (ins := gIns ops g ++ insAll [xl, xc] [I m, I m]) (objs := [(d, none)]) (v := .own d m) (upd := [(d, .row e ye.size (List.replicate m (zeroD z)))]) (LStep.updV rfl hdn rfl hg _ _ _ _ fun G E fr' h' a w C hi ho => ?_) (ins_of hg (oevs_ins ⟨hx, hx2, trivial⟩)) (by simpa using hk) hr
  have hk' : hget h' d = none := ho (d, none) (by simp)
  have hx' := oevs_of (xs := [xl, xc]) (vs := [I m, I m]) ⟨hx, hx2, trivial⟩ hi
  simp only [oevs] at hx'
  have ev : a.eval xl = .int .i64 m ∧ a.eval xc = .int .i64 m := by
    obtain ⟨r1, _⟩ := C.oev hx'.1 (oneOpd_spec (oneOpd_of hx rfl))
    obtain ⟨r2, _⟩ := C.oev hx'.2.1 (oneOpd_spec (oneOpd_of hx2 rfl))
    simp only [V.Rep, D.RepV, D.Rep, List.cons.injEq, and_true] at r1 r2
    exact ⟨r1.1, r2.1⟩
  obtain ⟨_, ds, _, k2, _, _, _, _, k7, _⟩ := tyOf_spec (T.at ht)
  obtain ⟨j, _, g1, _, g3, g4, _, g6, _⟩ := tyOf_spec (T.at hte)
  have hds := k7 e hel
  subst hds
  have hzl : z.cells.size = ye.size := by have := Nat.eq_of_beq_eq_true hzs; simpa using this
  have h0 : 0 < ye.size := by simpa [Nat.blt_eq] using hs0
  have hby' : (j.bytes : Int) * (m : Int) ≤ 281474976710656 := by
    rw [g4]
    have : ((m * ye.bytes : Nat) : Int) ≤ 281474976710656 := by omega
    rwa [Int.natCast_mul, Int.mul_comm] at this
  have hrun := run_make (P := P) w t e j z k2 g1 (by rw [g6, hz]) .i64 .i64 (m : Int) (m : Int) (by omega) (Int.le_refl _) hby' (by omega)
  simp only [Int.toNat_natCast] at hrun
  rw [g3] at hrun
  have hzr := zeroD_rep (M := bars E h' G.o) (w := w) hz1
  have hzsz : (zeroD z).size = ye.size := by have := hzr.length; simp at this; omega
  have hsizes : ∀ x ∈ List.replicate m (zeroD z), x.size = ye.size := fun x hx => by rw [(List.mem_replicate.1 hx).2]; exact hzsz
  obtain ⟨E', C', hE⟩ := C.newRow (e := e) (sz := ye.size) (xs := List.replicate m (zeroD z)) (v := .slice (some ⟨w.heap.size, 0, none⟩) m m) hk' hlow (Ext.new w (.cells (madeCells z.cells (m * ye.size)) e)) (fun b hb => by simp [obOf] at hb; omega) (fun M' hM => by
    refine ⟨hsizes, ?_⟩
    by_cases hm0 : m = 0
    · exact .inl ⟨_, by rw [hm0], by simp [hm0]⟩
    · refine .inr ⟨w.heap.size, 0, m, _, by simp, by omega, heap_alloc_new w _, by simp, by simp [maxLen]; omega, ?_, ?_⟩
      · simp [size_madeCells]
      · have hcells : (madeCells z.cells (m * ye.size)).toList = (List.replicate m z.cells.toList).flatten := by rw [← hzl]; exact madeCells_eq m (by omega)
        simp only [List.drop_zero, List.length_replicate]
        rw [hcells, List.take_of_length_le]
        · exact (reps_replicate hzr m).carry hM
        · simp [hzl])
  refine ⟨.slice (some ⟨w.heap.size, 0, none⟩) m m, E', _, ?_, C', ?_, by intro q hq; simp [V.keys] at hq; subst hq; simp [hget_same]⟩
  · simp only [execOp, ev.1, ev.2, Sem.run_bind, hrun, Result.andThen_ok, Sem.run_pure]
  · simp only [V.Rep]
    exact ⟨m, .inl ⟨e, ye.size, _, hget_same _ _ _, by simp⟩, Nat.le_refl _, rfl, fun _ => hE.symm⟩

/-! ### Stores -/
theorem run_storeVarV {w : World} {t bt : TypeId} {y : Ty} {b off : Nat} {cur : Array Value} {u : Value} (ht : T.rows[t]? = some y) (hb : w.heap[b]? = some (.cells cur bt (0, 0))) (hu : u.cells.size = y.size) (hfit : off + y.size ≤ cur.size) (h1 : ∀ x ∈ u.cells.toList, x.oneCell' = true) :
    (Instr.storeAt t (.pointer (some ⟨b, off, none⟩)) u).run P w = .ok () (w.setRow b (cur.toList.take off ++ u.cells.toList ++ cur.toList.drop (off + u.cells.toList.length)).toArray) := by
  obtain ⟨i, _, g1, _, g3, _⟩ := tyOf_spec (T.at ht)
  have hst := run_storeCells_at P b off bt u.cells.toList 0 cur w hb (by simp; omega) h1
  simp only [Nat.add_zero] at hst
  have hs : (sizeOf t).run P w = .ok y.size w := by unfold sizeOf typeInfo; simp [g1, g3]
  simp only [Instr.storeAt, Instr.sureAddr, Sem.run_bind, Sem.run_pure, Result.andThen_ok, storeVar, hs]
  rw [if_neg (by simp [hu])]
  exact hst
/-- A write to a variable, or to a part of it. -/
theorem d_store {x yv : Operand} {t bt : TypeId} {k off : Nat} {cs vcs : List V} {v : V} {y : Ty} (hg : gOk ops fr g) (hx : oev fr x = .ptr k off) (hy : oev fr yv = v) (h1 : oneOpd yv = true) (hk : hget h k = some (.box bt cs)) (hv : v.cellsOf = some vcs) (ht : T.rows[t]? = some y) (hl : Nat.beq vcs.length y.size = true) (hfit : Nat.ble (off + vcs.length) cs.length = true) {cs' : List V} (hn : splice cs off vcs = cs')
    (hr : dops P n dr ops rest (⟨(gIns ops g ++ insAll [x, yv] [.ptr k off, v]).map Prod.fst, [], [k], [k]⟩ :: log) K fr ((k, .box bt cs') :: h)) : dops P n dr ops (⟨none, .store t x yv, ty, pos, after, g⟩ :: rest) log K fr h := by
  subst hn
  refine dops_cons (ins := gIns ops g ++ insAll [x, yv] [.ptr k off, v]) (objs := [(k, some (.box bt cs))]) (v := .junk) (upd := [(k, .box bt (splice cs off vcs))]) (LStep.updS rfl rfl hg _ _ _ fun G E fr' h' a w C hi ho => ?_) (ins_of hg (oevs_ins ⟨hx, hy, trivial⟩)) (by simpa using hk) hr
  have hk' : hget h' k = some (.box bt cs) := ho (k, _) (by simp)
  have hx' := oevs_of (xs := [x, yv]) (vs := [.ptr k off, v]) ⟨hx, hy, trivial⟩ hi
  simp only [oevs] at hx'
  obtain ⟨p1, _⟩ := C.oev hx'.1 (oneOpd_spec (oneOpd_of hx rfl))
  obtain ⟨q1, q2⟩ := C.oev hx'.2.1 (oneOpd_spec h1)
  simp only [V.Rep] at p1
  obtain ⟨c1, c2⟩ := V.cells_rep hv q1
  have hcl := c1.length
  obtain ⟨us, g1, g2, g3⟩ := C.heap.obs k _ hk'
  have hul := g2.length
  have hle := Nat.le_of_ble_eq_true hfit
  have hle2 := Nat.eq_of_beq_eq_true hl
  have hsz : (a.eval yv).cells.size = y.size := by rw [← hle2, ← hcl]; simp
  have hrun := run_storeVarV T (w := w) (off := off) ht g1 hsz (by simp; omega) c2
  have hs := reps_splice g2 c1 (off := off) (by omega)
  refine ⟨E, _, ?_, C.setBox hk' hs (fun z hz => ?_) (fun j hj => ?_)⟩
  · simp only [execOp, p1, Sem.run_bind, hrun, Result.andThen_ok, Sem.run_pure]
  · simp only [List.mem_append] at hz
    rcases hz with (hz | hz) | hz
    · exact g3 z (List.mem_of_mem_take hz)
    · exact c2 z hz
    · exact g3 z (List.mem_of_mem_drop hz)
  · rcases keyss_splice (by omega) hj with hj | hj
    · exact C.heap.closed k _ hk' j (by simpa [Ob.keys] using hj)
    · exact q2 j (keyss_cellsOf hv j hj)
end
end Go.Proofs.Ytpaeihifcmohkaa
