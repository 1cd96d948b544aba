/-
  Sim: a text behind a row of bytes (append of a string), and the text that a row of bytes is. Sim: strings.Builder: its check, a text written, and what it holds.
-/
import Derived.Test.YtkfeccbahpmadaaS5
import Derived.Lib.UnsafeStr
import Derived.Test.YtkfeccbahpmadaaTab
import Derived.Test.YtkfeccbahpmadaaS6
import Derived.Shelf.Strings.Builder1
set_option linter.unusedVariables false
set_option linter.unusedSimpArgs false
set_option linter.unusedSectionVars false
namespace Go.Proofs.Ytkfeccbahpmadaa
open Go.RowKit
set_option maxRecDepth 100000

def byD (s : ByteArray) : List D := s.data.toList.map fun b => .raw (.int .u8 b.toNat)
theorem byD_len (s : ByteArray) : (byD s).length = s.size := by unfold byD; rw [List.length_map, Array.length_toList]; rfl
theorem byD_append (a b : ByteArray) : byD (a ++ b) = byD a ++ byD b := by
  unfold byD
  rw [ByteArray.data_append, Array.toList_append, List.map_append]
theorem byD_size (s : ByteArray) : ∀ x ∈ byD s, x.size = 1 := fun x hx => by
  obtain ⟨b, _, rfl⟩ := List.mem_map.1 hx
  rfl
theorem reps_by {M : Bars} {w : World} (l : List UInt8) : D.Reps M w (l.map fun b => .raw (.int .u8 b.toNat)) (l.map fun b => Value.int .u8 b.toNat) := by
  induction l with
  | nil => simp [D.Reps]
  | cons b l ih =>
    simp only [List.map_cons, D.Reps]
    exact ⟨[_], _, rfl, by simp [D.Rep, Value.oneCell'], ih⟩
theorem reps_str {M : Bars} {w : World} (s : ByteArray) : D.Reps M w (byD s) (Lib.strCells s) := reps_by s.data.toList
theorem reps_by_eq {M : Bars} {w : World} : ∀ {l : List UInt8} {us : List Value}, D.Reps M w (l.map fun b => .raw (.int .u8 b.toNat)) us → us = l.map fun b => Value.int .u8 b.toNat
  | [], _, h => by simpa only [List.map_nil, D.Reps] using h
  | x :: xs, _, h => by
    simp only [List.map_cons, D.Reps] at h
    obtain ⟨c, r, rfl, h1, h2⟩ := h
    simp only [D.Rep] at h1
    rw [h1.1, reps_by_eq h2]; rfl

section
variable {P : Program} (T : TT P)
theorem run_append_roomS (w : World) (t u ty e : TypeId) (i : TypeInfo) (ht : P.underlying t = some (.slice e)) (hu : P.underlying u = some .string) (hi : P.info? e = some i) (hs1 : i.size = 1)
    (gb off sLen sCap : Nat) (cur : Array Value) (hg : w.heap[gb]? = some (.cells cur e (0, 0))) (s : ByteArray) (hroom : sLen + s.size ≤ sCap) (hfit : off + sLen + s.size ≤ cur.size) :
    (Builtin.append_ #[t, u] ty #[.slice (some ⟨gb, off, none⟩) sLen sCap, .string s]).run P w =
      .ok (.slice (some ⟨gb, off, none⟩) (sLen + s.size) sCap) (w.setRow gb (cur.toList.take (off + sLen) ++ Lib.strCells s ++ cur.toList.drop (off + sLen + s.size)).toArray) := by
  have hf := Lib.run_firstCells_string (P := P) w 1 s
  have hst := run_storeCells_at P gb (off + sLen) e (Lib.strCells s) 0 cur w hg (by simpa [Lib.strCells_length] using hfit) (Lib.strCells_oneCell s)
  simp only [Nat.add_zero, Lib.strCells_length] at hst
  simp [Builtin.append_, run_underlying ht, run_underlying hu, sizeOf, typeInfo, hi, hs1, Builtin.lenOf, hroom, hf, Addr.add_mid, hst]
theorem run_appS {M : Bars} {w : World} (S : Nat → Prop) {t ts ty e : TypeId} {y yt ye : Ty} (ht : T.rows[t]? = some y) (hel : y.elem = some e) (hts : T.rows[ts]? = some yt) (hstr : yt.str = true) (hte : T.rows[e]? = some ye) (hz : ye.zero = some (.int .u8 0)) (hsz : ye.size = 1) (hby : ye.bytes = 1)
    {u : Value} {xs : List D} {s : ByteArray} (h0 : 0 < s.size) (hb : xs.length + s.size ≤ 140737488355328) (hrow : RowAt M w e 1 u xs) (hS : ∀ b, obOf u = some b → S b) :
    ∃ v' w', (Builtin.append_ #[t, ts] ty #[u, .string s]).run P w = .ok v' w' ∧ v'.oneCell' = true ∧ Ext S w w' ∧ (∀ b, obOf v' = some b → S b ∨ w.heap.size ≤ b) ∧ ∀ M', Carry M M' w w' → RowAt M' w' e 1 v' (xs ++ byD s) := by
  obtain ⟨_, ds, _, k2, _, _, _, _, k7, _⟩ := tyOf_spec (T.at ht)
  obtain ⟨_, ds2, _, q2, _, _, _, _, _, q8, _⟩ := tyOf_spec (T.at hts)
  obtain ⟨i, _, g1, _, g3, g4, _, g6, _⟩ := tyOf_spec (T.at hte)
  have hds := k7 e hel
  subst hds
  have hds2 := q8 hstr
  subst hds2
  have hbl := byD_len s
  have hcl := Lib.strCells_length s
  rw [hsz] at g3
  rw [hby] at g4
  have hz1 : (Value.int IntKind.u8 0).cells.size = 1 := rfl
  have grown : ∀ (old : Nat) (es : List Value), D.Reps M w xs es → (∀ x ∈ xs, x.size = 1) → old < xs.length + s.size → ∀ M', Carry M M' w (w.drew.alloc (.cells (es.toArray ++ (Lib.strCells s).toArray ++ Builtin.zeroCells (Value.int .u8 0).cells (grownCap w (xs.length + s.size) old e - (xs.length + s.size))) e)) →
      RowAt M' (w.drew.alloc (.cells (es.toArray ++ (Lib.strCells s).toArray ++ Builtin.zeroCells (Value.int .u8 0).cells (grownCap w (xs.length + s.size) old e - (xs.length + s.size))) e)) e 1
        (.slice (some ⟨w.heap.size, 0, none⟩) (xs.length + s.size) (grownCap w (xs.length + s.size) old e)) (xs ++ byD s) := by
    intro old es p1 p2 ho M' hM
    have hge := grownCap_ge w (xs.length + s.size) old e
    have hcm : grownCap w (xs.length + s.size) old e ≤ maxLen := grownCap_le_maxLen w (xs.length + s.size) old e (by simp [maxLen]; omega)
    have hel := p1.length
    rw [D.sizes_eq p2, Nat.mul_one] at hel
    refine ⟨fun x hx => (List.mem_append.1 hx).elim (p2 x) (byD_size s x), .inr ⟨w.heap.size, 0, _, _, by rw [List.length_append, hbl], by omega, heap_alloc_new w.drew _, by rw [List.length_append, hbl]; exact hge, hcm, ?_, ?_⟩⟩
    · simp only [Array.size_append, List.size_toArray, size_zeroCells, hz1, hel, hcl]
      omega
    · have e9 : ∀ Z : List Value, List.take ((xs ++ byD s).length * 1) (es ++ Lib.strCells s ++ Z) = es ++ Lib.strCells s := fun Z => by
        have : (xs ++ byD s).length * 1 = (es ++ Lib.strCells s).length := by rw [List.length_append, List.length_append, hel, hbl, hcl, Nat.mul_one]
        rw [this, List.take_left]
      simp only [List.drop_zero, Array.toList_append]
      rw [e9]
      exact (p1.append (reps_str s)).carry hM
  have hEg : ∀ o : Obj, Ext S w (w.drew.alloc o) := fun o => (Ext.refl _ w).drew.alloc o
  have hnb : ∀ c b, obOf (.slice (some ⟨w.heap.size, 0, none⟩) (xs.length + s.size) c) = some b → S b ∨ w.heap.size ≤ b := fun c b hb => by
    simp [obOf] at hb; exact .inr (by omega)
  have fromBase : ∀ (ba : Option Addr) (cap : Nat) (es : List Value), u = .slice ba xs.length cap → D.Reps M w xs es → (∀ x ∈ xs, x.size = 1) → (∀ b, ba = some b → ∀ j v, es[j]? = some v → w.cell? (b.add j) = some v) → (ba = none → xs = [] ∧ cap = 0) → cap < xs.length + s.size →
      ∃ v' w', (Builtin.append_ #[t, ts] ty #[u, .string s]).run P w = .ok v' w' ∧ v'.oneCell' = true ∧ Ext S w w' ∧ (∀ b, obOf v' = some b → S b ∨ w.heap.size ≤ b) ∧ ∀ M', Carry M M' w w' → RowAt M' w' e 1 v' (xs ++ byD s) := by
    intro ba cap es hu p1 p2 p3 p4 p5
    have hel := p1.length
    rw [D.sizes_eq p2, Nat.mul_one] at hel
    cases ba with
    | none =>
      obtain ⟨rfl, rfl⟩ := p4 rfl
      simp only [D.Reps] at p1
      subst p1
      have hr := run_append_nil_string (P := P) w t ts ty e i (.int .u8 0) k2 q2 g1 (by rw [g6, hz]) s h0 (by simp only [List.length_nil] at hb; omega) (by rw [g4]; simp only [List.length_nil] at hb; omega)
      have e1 : (s.data.map fun b => Value.int .u8 b.toNat) = (Lib.strCells s).toArray := by
        apply Array.ext'
        simp [Lib.strCells]
      rw [e1] at hr
      have hg2 := grown 0 [] (by simp [D.Reps]) (by simp) (by simp; omega)
      simp only [List.length_nil, Nat.zero_add, List.nil_append, Array.empty_append] at hg2 hnb ⊢
      exact ⟨_, _, by rw [hu]; exact hr, rfl, hEg _, hnb _, hg2⟩
    | some b =>
      have hr := Lib.run_append_grow_string (P := P) w t ts ty e i (.int .u8 0) k2 q2 g1 (by rw [g6, hz]) b xs.length cap es (by rw [hel, g3, Nat.mul_one]) (p3 b rfl) s (by omega) (by omega) (by rw [g4]; exact growslice_fits (by omega) (by omega))
      exact ⟨_, _, by rw [hu]; exact hr, rfl, hEg _, hnb _, grown cap es p1 p2 p5⟩
  obtain ⟨hs, ⟨ad, hu, rfl⟩ | ⟨gb, off, cap, cur, hu, hc0, hgb, hlc, hcm, hcs, hreps⟩⟩ := hrow
  · cases ad with
    | none => exact fromBase none 0 [] hu (by simp [D.Reps]) (by simp) (by simp) (by simp) (by simp; omega)
    | some b => exact fromBase (some b) 0 [] hu (by simp [D.Reps]) (by simp) (by simp) (by simp) (by simp; omega)
  · have hrl := hreps.length
    rw [D.sizes_eq hs] at hrl
    simp only [Nat.mul_one] at hcs hreps hrl
    by_cases hroom : xs.length + s.size ≤ cap
    · have hr := run_append_roomS (P := P) w t ts ty e i k2 q2 g1 g3 gb off xs.length cap cur hgb s hroom (by omega)
      have hou : obOf u = some gb := by rw [hu]; simp [obOf]; omega
      refine ⟨_, _, by rw [hu]; exact hr, rfl, Ext.setRow w gb _ (hS gb hou), (fun b hb => .inl (hS b (by rw [hou]; simp [obOf] at hb; rw [← hb.2]))), fun M' hM => ?_⟩
      refine ⟨fun x hx => (List.mem_append.1 hx).elim (hs x) (byD_size s x), .inr ⟨gb, off, cap, _, by rw [List.length_append, hbl], hc0, setRow_heap w gb cur _ e _ hgb, by rw [List.length_append, hbl]; exact hroom, hcm, ?_, ?_⟩⟩
      · simp only [List.size_toArray, List.length_append, List.length_take, List.length_drop, Array.length_toList, hcl]
        omega
      · rw [List.length_append, hbl, Nat.mul_one]
        have e1 : ((cur.toList.take (off + xs.length) ++ Lib.strCells s ++ cur.toList.drop (off + xs.length + s.size)).drop off).take (xs.length + s.size) = (cur.toList.drop off).take xs.length ++ Lib.strCells s := by
          apply List.ext_getElem?
          intro j
          simp only [List.getElem?_take, List.getElem?_drop, List.getElem?_append, List.length_append, List.length_take, List.length_drop, Array.length_toList, hcl]
          repeat' split
          all_goals first
            | omega
            | rfl
            | (congr 1; omega)
            | (symm; apply List.getElem?_eq_none; omega)
        simp only []
        rw [e1]
        exact (hreps.append (reps_str s)).carry hM
    · refine fromBase (some ⟨gb, off, none⟩) cap _ hu hreps hs (fun b hb j v hv => ?_) (by simp) (by omega)
      cases hb
      rw [Addr.add_mid]
      simp only [World.cell?, hgb]
      rw [List.getElem?_take] at hv
      split at hv
      · rw [List.getElem?_drop] at hv; simpa using hv
      · cases hv
variable {n : Nat} {dr : Bool} {ops : Array Oper} {rest : List Oper} {log : List Rec} {K : Exit → Fr → Hp → Prop} {fr : Fr} {h : Hp}
variable {d : Nat} {ty : TypeId} {pos : String} {after : Array Edge} {g : Option (Nat × Bool)}
/-- append of a text to a row of the call's own. -/
theorem d_appS {x xy : Operand} {t ts e : TypeId} {k m : Nat} {xs : List D} {s : ByteArray} {y yt ye : Ty} (hdn : Nat.blt d n = true) (hg : gOk ops fr g) (hx : oev fr x = .own k m) (hy : oev fr xy = Str s) (hk : hget h k = some (.row e 1 xs)) (hm : xs.length = m)
    (ht : T.rows[t]? = some y) (hel : y.elem = some e) (hts : T.rows[ts]? = some yt) (hstr : yt.str = true) (hte : T.rows[e]? = some ye) (hz : ye.zero = some (.int .u8 0)) (hsz : ye.size = 1) (hby : ye.bytes = 1) (h0 : 0 < s.size) (hb : xs.length + s.size ≤ 140737488355328)
    (hr : dops P n dr ops rest (⟨(gIns ops g ++ insAll [x, xy] [.own k m, Str s]).map Prod.fst, [d], [k], [k]⟩ :: log) K ((d, .own k (xs ++ byD s).length) :: fr) ((k, .row e 1 (xs ++ byD s)) :: h)) :
    dops P n dr ops (⟨some d, .call { callee := .builtin .append, args := #[x, xy], argTypes := #[t, ts] }, ty, pos, after, g⟩ :: rest) log K fr h := by
  refine dops_cons (ins := gIns ops g ++ insAll [x, xy] [.own k m, Str s]) (objs := [(k, some (.row e 1 xs))]) (v := .own k (xs ++ byD s).length) (upd := [(k, .row e 1 (xs ++ byD s))]) (LStep.updV rfl hdn rfl hg _ _ _ _ fun G E fr' h' a w C hi ho => ?_) (ins_of hg (oevs_ins ⟨hx, hy, trivial⟩)) (by simpa using hk) hr
  have hk' : hget h' k = some (.row e 1 xs) := ho (k, _) (by simp)
  have hx' := oevs_of (xs := [x, xy]) (vs := [.own k m, Str s]) ⟨hx, hy, trivial⟩ hi
  simp only [oevs] at hx'
  obtain ⟨p1, _⟩ := C.oev hx'.1 (oneOpd_spec (oneOpd_of hx rfl))
  obtain ⟨q1, _⟩ := C.oev hx'.2.1 (oneOpd_spec (oneOpd_of hy rfl))
  simp only [V.Rep, D.RepV, D.Rep, List.cons.injEq, and_true] at q1
  simp only [V.Rep] at p1
  obtain ⟨m', h1, _, _, h3⟩ := p1
  have e1 := verAny_one h1 (.inl ⟨e, 1, xs, hk', hm⟩)
  have hev := h3 e1.symm
  have hrow := C.heap.obs k _ hk'
  simp only [ObRep] at hrow
  obtain ⟨v', w', r1, r5, r2, r3, r6⟩ := run_appS T (fun b => obOf (E.row k) = some b) (ty := ty) ht hel hts hstr hte hz hsz hby h0 hb hrow (fun b hb => hb)
  have hbl := byD_len s
  obtain ⟨E', C', hE⟩ := C.setRow hk' (v := v') r2 r3 (by simp) (fun q => by rw [List.length_append, hbl] at q; omega) r6
  refine ⟨v', E', w', ?_, C', ?_, by intro q hq; simp [V.keys] at hq; subst hq; simp [hget_same]⟩
  · simp only [execOp, resolve, Sem.run_bind, Sem.run_pure, Result.andThen_ok, invoke, builtin, List.map_toArray, List.map_cons, List.map_nil, hev, q1.1, r1]
  · simp only [V.Rep]
    exact ⟨_, .inl ⟨e, 1, _, hget_same _ _ _, rfl⟩, Nat.le_refl _, r5, fun _ => hE.symm⟩
/-- unsafe.SliceData of a row that holds something. -/
theorem d_uSlice {x : Operand} {ts : Array TypeId} {k m sz : Nat} {e : TypeId} {xs : List D} (hdn : Nat.blt d n = true) (hg : gOk ops fr g) (hx : oev fr x = .own k m) (hk : hget h k = some (.row e sz xs)) (hm : xs.length = m) (h0 : 0 < m)
    (hr : dops P n dr ops rest (⟨(gIns ops g ++ insOf x (.own k m)).map Prod.fst, [d], [k], []⟩ :: log) K ((d, .optr k m 0 0) :: fr) h) : dops P n dr ops (⟨some d, .call { callee := .builtin .unsafeSliceData, args := #[x], argTypes := ts }, ty, pos, after, g⟩ :: rest) log K fr h := by
  have hone : oneOpd x = true := oneOpd_of hx rfl
  refine d_un x (.own k m) (.optr k m 0 0) [(k, some (.row e sz xs))] (by simpa using hk) hone (fun G E fr h a w C ho r hkk => ?_) hdn hg hx hr
  have hk' := ho (k, some (.row e sz xs)) (by simp)
  simp only [V.Rep] at r
  obtain ⟨m', h1, h2, hone', h3⟩ := r
  have e1 := verAny_one h1 (.inl ⟨e, sz, xs, hk', hm⟩)
  have hrow := C.heap.obs k _ hk'
  simp only [ObRep] at hrow
  obtain ⟨_, ⟨_, _, hn⟩ | ⟨b, o, cap, cur, q1, hc0, _⟩⟩ := hrow
  · subst hn; simp at hm; omega
  have hev : a.eval x = .slice (some ⟨b, o, none⟩) xs.length cap := (h3 e1.symm).trans q1
  refine ⟨.pointer (some ⟨b, o, none⟩), ?_, ?_, by simpa [V.keys] using hkk⟩
  · simp only [execOp, resolve, Sem.run_bind, Sem.run_pure, Result.andThen_ok, invoke, builtin, List.map_toArray, List.map_cons, List.map_nil, hev, Lib.run_unsafeSliceData_row w ts ty ⟨b, o, none⟩ xs.length cap (by omega)]
  · simp only [V.Rep]
    refine ⟨m', h1, h2, rfl, fun _ sz' hv => ?_⟩
    exact ⟨b, o, cap, by rw [q1, hm], by simp⟩
end
end Go.Proofs.Ytkfeccbahpmadaa
namespace Go.Proofs
open Go.Shelf
def Try.lays240_ren : Go.Shelf.Ren := ⟨fun | 240 => 195 | 276 => 217 | n => n, fun | 0 => 0 | 4 => 4 | 9 => 9 | 20 => 20 | 37 => 205 | 70 => 204 | 72 => 207 | 164 => 256 | n => n, fun n => n⟩
theorem Try.lays240 : Go.Proofs.Lays.n240 Try.prog Try.lays240_ren := {
  mixed := by kernel_rfl
  f240 := Try.func195.trans (congrArg some (by kernel_rfl))
  f276 := Try.func217.trans (congrArg some (by kernel_rfl))
  t0 := Try.underlying0
  a0 := Try.isAgg0
  z0 := Try.sizeOf0
  v0 := Try.zeroValue0
  t4 := Try.underlying4
  a4 := Try.isAgg4
  z4 := Try.sizeOf4
  v4 := Try.zeroValue4
  t9 := Try.underlying9
  a9 := Try.isAgg9
  z9 := Try.sizeOf9
  v9 := Try.zeroValue9
  t20 := Try.underlying20
  a20 := Try.isAgg20
  z20 := Try.sizeOf20
  v20 := Try.zeroValue20
  t70 := Try.underlying204
  a70 := Try.isAgg204
  z70 := Try.sizeOf204
  v70 := Try.zeroValue204
  t72 := Try.underlying207
  a72 := Try.isAgg207
  z72 := Try.sizeOf207
  v72 := Try.zeroValue207
  t164 := Try.underlying256
  a164 := Try.isAgg256
  z164 := Try.sizeOf256
  v164 := Try.zeroValue256 }
theorem Try.bldX240 : Builder.X72 Try.prog Try.lays240_ren where
  sizeBuilder := by kernel_rfl
  liesBuilder := by kernel_rfl
end Go.Proofs
namespace Go.Proofs.Ytkfeccbahpmadaa
open Go.RowKit
set_option maxRecDepth 100000
-- SimX

section
variable {G : Ctx} {E : Env} {fr : Fr} {h : Hp} {a : Act} {w : World}
/-- A variable's cells change: whatever the world says of it. -/
theorem Conc.setBoxW (C : Conc G E fr h a w) {k : Nat} {ty : TypeId} {cs cs' : List V} (hk : hget h k = some (.box ty cs)) {us' : List Value} {w' : World} (hE : Ext (fun b => b = E.blk k) w w') (hg : w'.heap[E.blk k]? = some (.cells us'.toArray ty (0, 0)))
    (hr : V.Reps E h (bars E h G.o) w cs' us') (h1 : ∀ x ∈ us', x.oneCell' = true) (hcl : ∀ j ∈ V.keyss cs', (hget h j).isSome = true) : Conc G E fr ((k, .box ty cs') :: h) a w' := by
  have hbk : blkOf E h k = some (E.blk k) := by simp [blkOf, hk]
  have U : Upd E h w k (.box ty cs') E w' :=
    ⟨fun _ _ => rfl, fun _ _ => rfl, fun _ => rfl, (fun hn => by rw [hk] at hn; cases hn), (fun m hm => by exfalso; rcases hm with ⟨_, _, _, h1, _⟩ | ⟨_, _, h1, _⟩ | h1 <;> rw [hk] at h1 <;> cases h1),
      (fun _ sz n hv => by exfalso; obtain ⟨_, _, h1, _⟩ := hv; rw [hget_same] at h1; cases h1), hE.mono (fun b hb => by rw [hbk, hb]), (fun b hb => .inl (by unfold blkOf at hb ⊢; rw [hget_same] at hb; rw [hk]; exact hb))⟩
  exact C.upd U ⟨us', hg, hr.move (U.trans G.o) hcl (fun j hj => U.mono j (hcl j hj)), h1⟩ (fun j hj => U.mono j (hcl j (by simpa [Ob.keys] using hj)))
/-- A row is let go. -/
theorem Conc.dead (C : Conc G E fr h a w) {k e sz : Nat} {xs : List D} (hk : hget h k = some (.row e sz xs)) {w' : World} (hE : Ext (fun b => obOf (E.row k) = some b) w w') : Conc G E fr ((k, .dead xs.length) :: h) a w' := by
  have hbk : blkOf E h k = obOf (E.row k) := by simp [blkOf, hk]
  have U : Upd E h w k (.dead xs.length) E w' := by
    refine ⟨fun _ _ => rfl, fun _ _ => rfl, fun _ => rfl, (fun hn => by rw [hk] at hn; cases hn), fun m hm => ⟨m, .inr (.inr ?_), Nat.le_refl _, fun _ => rfl⟩, (fun _ sz' n' hv => by obtain ⟨e', xs', h1, _⟩ := hv; rw [hget_same] at h1; cases h1), hE.mono (fun b hb => by rw [hbk]; exact hb), (fun b hb => by unfold blkOf at hb; rw [hget_same] at hb; cases hb)⟩
    have e1 := verAny_one hm (.inl ⟨e, sz, xs, hk, rfl⟩)
    rw [e1, hget_same]
  exact C.upd U trivial (by simp [Ob.keys])
end
theorem ext_freeze (w : World) (p : Addr) (n : Nat) : Ext (fun b => b = p.block) w (w.freeze p n) := by
  unfold World.freeze
  split
  · exact Ext.refl _ _
  · refine ⟨rfl, rfl, rfl, by simp, fun k hk hne => ?_⟩
    simp only [Array.getElem?_modify]
    rw [if_neg (Ne.symm hne)]
theorem ext_setCell (w : World) (p : Addr) (v : Value) : Ext (fun b => b = p.block) w (w.setCell p v) := by
  unfold World.setCell
  refine ⟨rfl, rfl, rfl, by simp, fun k hk hne => ?_⟩
  simp only [Array.getElem?_modify]
  rw [if_neg (Ne.symm hne)]

/-! ### unsafe.String -/
theorem lies_at {P : Program} {e : TypeId} (hc : P.cellsOf e = 1) (count off n : Nat) (hn : off + n ≤ count) : liesAt P P.depth e count off e n = true := by
  have hd : P.depth = (2 * (P.types.size + Made.depth) + 1) + 1 := rfl
  rw [hd]
  simp only [liesAt, Bool.or_eq_true]
  left
  rw [hd]
  simp [rowAt, hc, hn, sameLayout, Nat.mod_one]
theorem run_uString {P : Program} {w : World} (pt it ty e : TypeId) (hp : P.underlying pt = some (.pointer e)) (hc : P.cellsOf e = 1) (g off cells : Nat) (hsh : w.shape? g = some (e, cells)) (l : List UInt8) (h0 : l ≠ []) (hn : off + l.length ≤ cells) (h63 : l.length ≤ 9223372036854775807)
    (hcell : ∀ j x, l[j]? = some x → w.cell? ((⟨g, off, none⟩ : Addr).add j) = some (.int .u8 x.toNat)) :
    (Builtin.unsafeString_ #[pt, it] ty #[.pointer (some ⟨g, off, none⟩), .int .i64 l.length]).run P w = .ok (.string ⟨l.toArray⟩) (w.freeze ⟨g, off, none⟩ l.length) := by
  have hl : l.length ≠ 0 := by simpa using h0
  have hlb := Lib.run_loadBytes (P := P) w l ⟨g, off, none⟩ .empty hcell
  have hlies := lies_at (P := P) hc (cells / P.cellsOf e) off l.length (by rw [hc]; simpa using hn)
  have h63' : ¬ (9223372036854775807 : Int) < (l.length : Int) := by omega
  have hmax : IntKind.i64.max = 9223372036854775807 := rfl
  have hneg : ¬ (l.length : Int) < 0 := by omega
  change ((asInt (Value.int .i64 l.length) >>= _ : Sem Value)).run P w = _
  simp [asInt, asIntOf, hmax, h63', hneg, hl, variablesAt, hsh, elemOf, run_underlying hp, hlies, hlb]
section
variable {P : Program} {n : Nat} {dr : Bool} {ops : Array Oper} {rest : List Oper} {log : List Rec} {K : Exit → Fr → Hp → Prop} {fr : Fr} {h : Hp}
variable {d : Nat} {ty : TypeId} {pos : String} {after : Array Edge} {g : Option (Nat × Bool)}
theorem d_uString {x y : Operand} {pt it : TypeId} {k m : Nat} {e : TypeId} {s : ByteArray} (hdn : Nat.blt d n = true) (hg : gOk ops fr g) (hx : oev fr x = .optr k m 0 0) (hy : oev fr y = I m) (hk : hget h k = some (.row e 1 (byD s))) (hm : s.size = m) (h0 : 0 < m)
    (hp : P.underlying pt = some (.pointer e)) (hc : P.cellsOf e = 1)
    (hr : dops P n dr ops rest (⟨(gIns ops g ++ insAll [x, y] [.optr k m 0 0, I m]).map Prod.fst, [d], [k], [k]⟩ :: log) K ((d, Str s) :: fr) ((k, .dead m) :: h)) : dops P n dr ops (⟨some d, .call { callee := .builtin .unsafeString, args := #[x, y], argTypes := #[pt, it] }, ty, pos, after, g⟩ :: rest) log K fr h := by
  have hbl := byD_len s
  refine dops_cons (ins := gIns ops g ++ insAll [x, y] [.optr k m 0 0, I m]) (objs := [(k, some (.row e 1 (byD s)))]) (v := Str s) (upd := [(k, .dead m)]) (LStep.updV rfl hdn rfl hg _ _ _ _ fun G E fr' h' a w C hi ho => ?_) (ins_of hg (oevs_ins ⟨hx, hy, trivial⟩)) (by simpa using hk) hr
  have hk' : hget h' k = some (.row e 1 (byD s)) := ho (k, _) (by simp)
  have hx' := oevs_of (xs := [x, y]) (vs := [.optr k m 0 0, I m]) ⟨hx, hy, trivial⟩ hi
  simp only [oevs] at hx'
  obtain ⟨p1, _⟩ := C.oev hx'.1 (oneOpd_spec (oneOpd_of hx rfl))
  obtain ⟨q1, _⟩ := C.oev hx'.2.1 (oneOpd_spec (oneOpd_of hy rfl))
  simp only [V.Rep, D.RepV, D.Rep, List.cons.injEq, and_true] at q1
  simp only [V.Rep] at p1
  obtain ⟨m', h1, _, _, h3⟩ := p1
  have e1 := verAny_one h1 (.inl ⟨e, 1, _, hk', hbl.trans hm⟩)
  obtain ⟨b, o, cap, h5, h4⟩ := h3 e1.symm 1 ⟨e, _, hk', hbl.trans hm⟩
  have hrow := C.heap.obs k _ hk'
  simp only [ObRep] at hrow
  obtain ⟨_, ⟨_, hn, hn2⟩ | ⟨g2, o2, cap2, cur, k1, k2, k3, k4, k5, k6, k7⟩⟩ := hrow
  · rw [hn2] at hbl; simp at hbl; omega
  rw [h5] at k1
  simp only [Value.slice.injEq, Option.some.injEq, Addr.mk.injEq, and_true] at k1
  obtain ⟨⟨rfl, rfl⟩, k8, rfl⟩ := k1
  have hl : s.data.toList.length = m := by rw [Array.length_toList]; exact hm
  have k9 := reps_by_eq (l := s.data.toList) k7
  have hou : obOf (E.row k) = some b := by rw [h5]; simp [obOf]; omega
  have hex : Ext (fun c => obOf (E.row k) = some c) w (w.freeze ⟨b, o, none⟩ m) := (ext_freeze w ⟨b, o, none⟩ m).mono (fun c hc => by rw [hou, hc])
  have C' := C.dead hk' hex
  rw [hbl, hm] at C'
  have hrun := run_uString (P := P) (w := w) pt it ty e hp hc b o cur.size (by simp [World.shape?, k3]) s.data.toList (by intro q; rw [q] at hl; simp at hl; omega) (by rw [hl]; omega) (by rw [hl]; unfold maxLen at k5; omega) (fun j c hj => by
    have hjl : j < m := by rw [← hl]; exact (List.getElem?_eq_some_iff.1 hj).1
    rw [Addr.add_mid]
    simp only [World.cell?, k3]
    have := congrArg (fun l => l[j]?) k9
    simp only [List.getElem?_take, List.getElem?_drop, List.getElem?_map, hj, Option.map_some] at this
    rw [if_pos (by omega)] at this
    simpa using this)
  rw [hl] at hrun
  refine ⟨.string s, E, _, ?_, C', ⟨rfl, rfl⟩, by simp [V.keys]⟩
  have hs : (⟨s.data.toList.toArray⟩ : ByteArray) = s := by cases s; simp
  rw [hs] at hrun
  have hq : (Value.int .i64 (m : Int)) = a.eval y := q1.1.symm
  simp only [execOp, resolve, Sem.run_bind, Sem.run_pure, Result.andThen_ok, invoke, builtin, List.map_toArray, List.map_cons, List.map_nil, h4, q1.1, Nat.zero_mul, Nat.add_zero, hrun]
end

/-! ### The builder's functions -/
abbrev nilP : V := .d (.raw (.pointer none))
abbrev bldB (c0 : V) (n : Nat) : Ob := .box 207 [c0, .own 1001 n]
abbrev bldG (c0 : V) (xs : List D) : Hp := [(1000, bldB c0 xs.length), (1001, .row 5 1 xs)]
theorem copy_sim {c0 : V} (hc : c0 = nilP ∨ c0 = .ptr 1000 0) {xs : List D} : ACalls Try.prog 195 [.ptr 1000 0] (bldG c0 xs) (.tup []) (bldG (.ptr 1000 0) xs) := by
  refine ⟨⟨_, Try.func195, rfl, rfl⟩, fun E w us o H hr hk ho hs => ?_⟩
  have C := Conc.start (n := 20) (fn := Try.f195) (args := [.ptr 1000 0]) (us := us) rfl (by decide) H hr hk ho hs
  simp only [V.Reps, V.Rep] at hr
  obtain ⟨u, _, rfl, rfl, rfl⟩ := hr
  have hk1 : hget (bldG c0 xs) 1000 = some (bldB c0 xs.length) := rfl
  obtain ⟨cs, g1, g2, g3⟩ := H.obs 1000 _ hk1
  have g2' := g2
  simp only [V.Reps] at g2'
  obtain ⟨p, _, rfl, r1, v, _, rfl, r2, rfl⟩ := g2'
  have c0h : w.cell? ⟨E.blk 1000, 0, none⟩ = some p := by simp [World.cell?, g1]
  rcases hc with rfl | rfl
  · simp only [V.Rep, D.RepV, D.Rep, List.cons.injEq, and_true] at r1
    obtain ⟨rfl, _⟩ := r1
    refine (Any.Builder_copyCheck_fresh Try.lays240 Try.bldX240 (E.blk 1000) w c0h (by simp [World.shape?, g1]; rfl) (by simp [World.frozen?, g1])).mono fun e w' ⟨he, hw⟩ => ?_
    subst hw
    have C' := C.setBoxW (k := 1000) (ty := 207) (cs' := [.ptr 1000 0, .own 1001 xs.length]) hk1 (us' := [.pointer (some ⟨E.blk 1000, 0, none⟩), v]) (ext_setCell w ⟨E.blk 1000, 0, none⟩ _)
      (by simp only [World.setCell, Array.getElem?_modify, g1, if_true, Option.map_some]; rfl) (by simp only [V.Reps]; exact ⟨.pointer (some ⟨E.blk 1000, 0, none⟩), [v], rfl, rfl, v, [], rfl, r2, rfl⟩) (fun x hx => by
        rcases List.mem_cons.1 hx with rfl | hx
        · rfl
        · exact g3 x (List.mem_cons_of_mem _ hx)) (fun j hj => by
        simp only [V.keyss, V.keys, List.cons_append, List.nil_append, List.mem_cons, List.not_mem_nil, or_false] at hj
        rcases hj with rfl | rfl <;> rfl)
    have C2 := Conc.congr (fr' := argFr 0 [.ptr 1000 0]) (h' := bldG (.ptr 1000 0) xs) (fun _ => rfl) (fun k => by
      simp only [hget]
      cases Nat.beq 1000 k <;> rfl) C'
    exact ⟨E, .tuple #[], he, C2.heap, ⟨[], rfl, rfl⟩, fun k hk => by simp [V.keys, V.keyss] at hk, C2.ext, C2.keep, C2.fresh⟩
  · simp only [V.Rep] at r1
    subst r1
    refine (Any.Builder_copyCheck_used Try.lays240 Try.bldX240 (E.blk 1000) w c0h).mono fun e w' ⟨he, hw⟩ => ?_
    subst hw
    exact ⟨E, .tuple #[], he, C.heap, ⟨[], rfl, rfl⟩, fun k hk => by simp [V.keys, V.keyss] at hk, C.ext, C.keep, C.fresh⟩
end Go.Proofs.Ytkfeccbahpmadaa
