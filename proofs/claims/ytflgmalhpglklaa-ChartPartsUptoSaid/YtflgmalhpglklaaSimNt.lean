/-
  Sim: the operations on rows of rows.
-/
import Derived.Test.YtflgmalhpglklaaSimNs
set_option linter.unusedVariables false
set_option linter.unusedSimpArgs false
set_option linter.unusedSectionVars false
namespace Go.Proofs.Ytflgmalhpglklaa
open Go.RowKit

section
variable {G : Ctx} {E : Env} {fr : Fr} {h : Hp} {a : Act} {w : World}
theorem Conc.newNest (C : Conc G E fr h a w) {k : Nat} (hk : hget h k = none) (hlow : Nat.blt k 1000 = true) {e : TypeId} {r : List (Nat × Nat)} {us : List Value} {v : Value} {w' : World} (hE : Ext NoB w w') (hb : ∀ b, obOf v = some b → w.heap.size ≤ b)
    (hrow : ∀ M', Carry (bars E h G.o) M' w w' → RowAt M' w' e 1 v (us.map D.raw)) (hne : NE.Reps E h (bars E h G.o) w (nes [] r []) [] us) (hcl : ∀ j ∈ r.map Prod.fst, (hget h j).isSome = true) :
    ∃ E', Conc G E' fr ((k, .nest e [] r []) :: h) a w' ∧ E'.row k = v := by
  refine ⟨⟨E.blk, fun j => if j = k then v else E.row j, fun j => if j = k then [] else E.fp j⟩, ?_, by simp⟩
  have U : Upd E h w k (.nest e [] r []) ⟨E.blk, fun j => if j = k then v else E.row j, fun j => if j = k then [] else E.fp j⟩ w' :=
    ⟨fun _ _ => rfl, fun j hj => by simp [hj], fun j hj => by simp [hj], fun _ => rfl, fun _ => by simpa [Nat.blt_eq] using hlow, fun m hm => (noVer hk hm).elim, (fun hs => by rw [hk] at hs; cases hs), hE.mono (fun _ hf => hf.elim),
      (fun b hb' => by unfold blkOf at hb'; rw [hget_same] at hb'; simp at hb'; exact .inr (hb b hb'))⟩
  refine C.upd U ?_ (fun j hj => U.mono j (hcl j (by simpa [Ob.keys] using hj)))
  simp only [ObRep]
  refine ⟨us, by simp only [if_true]; exact hrow _ (U.carry G.o), ?_, ?_⟩
  · simp only [if_true]
    exact hne.move (U.trans G.o) (fun b hb => by cases hb) (by rw [nes_keys]; exact hcl) (by rw [nes_keys]; exact fun j hj => U.mono j (hcl j hj))
  · simp only [if_true]
    cases obOf v <;> simp
/-- The outer row of a row of rows changes. -/
theorem Conc.setNest (C : Conc G E fr h a w) {k : Nat} {e : TypeId} {A B A' B' : List Tr} {r r' : List (Nat × Nat)} (hk : hget h k = some (.nest e A r B)) {us : List Value} {v : Value} {w' : World} (hE : Ext (fun b => obOf (E.row k) = some b) w w')
    (hb : ∀ b, obOf v = some b → obOf (E.row k) = some b ∨ w.heap.size ≤ b) (hlen : A.length + r.length + B.length ≤ A'.length + r'.length + B'.length) (hsame : A.length + r.length + B.length = A'.length + r'.length + B'.length → v = E.row k)
    (hrow : ∀ M', Carry (bars E h G.o) M' w w' → RowAt M' w' e 1 v (us.map D.raw)) (hne : NE.Reps E h (bars E h G.o) w (nes A' r' B') (E.fp k) us) (hcl : ∀ j ∈ r'.map Prod.fst, (hget h j).isSome = true) :
    ∃ E', Conc G E' fr ((k, .nest e A' r' B') :: h) a w' ∧ E'.row k = v := by
  refine ⟨⟨E.blk, fun j => if j = k then v else E.row j, E.fp⟩, ?_, by simp⟩
  have hbk : ∀ b, blkOf E h k b ↔ obOf (E.row k) = some b ∨ b ∈ E.fp k := fun b => by simp [blkOf, hk]
  obtain ⟨us0, r1, r2, r3⟩ := C.heap.obs k _ hk
  have hflt : ∀ b ∈ E.fp k, b < w.heap.size := r2.lt
  have U : Upd E h w k (.nest e A' r' B') ⟨E.blk, fun j => if j = k then v else E.row j, E.fp⟩ w' := by
    refine ⟨fun _ _ => rfl, fun j hj => by simp [hj], fun _ _ => rfl, fun _ => rfl, (fun hn => by rw [hk] at hn; cases hn), fun m hm => ?_, fun _ sz' n' hv => ?_, hE.mono (fun b hb => (hbk b).2 (.inl hb)), fun b hb' => ?_⟩
    · have e1 := verAny_one hm (verAny_nest hk rfl)
      exact ⟨_, verAny_nest (hget_same _ _ _) rfl, by omega, fun q => by simp [hsame (by omega)]⟩
    · obtain ⟨e1, e2⟩ := verRow_nest (hget_same _ _ _) hv
      exact ⟨_, .inr ⟨_, _, _, _, hk, e1, rfl⟩⟩
    · unfold blkOf at hb'
      rw [hget_same] at hb'
      simp only [if_true] at hb'
      rcases hb' with hb' | hb'
      · rcases hb b hb' with q | q
        · exact .inl ((hbk b).2 (.inl q))
        · exact .inr q
      · exact .inl ((hbk b).2 (.inr hb'))
  refine C.upd U ?_ (fun j hj => U.mono j (hcl j (by simpa [Ob.keys] using hj)))
  simp only [ObRep]
  have hdis : ∀ b ∈ E.fp k, obOf (E.row k) ≠ some b := fun b hb q => by
    rw [List.nodup_append] at r3
    exact r3.2.2 b (by simp [q]) b hb rfl
  refine ⟨us, by simp only [if_true]; exact hrow _ (U.carry G.o), ?_, ?_⟩
  · exact hne.move (U.trans G.o) (fun b hb => hE.block b (hflt b hb) (hdis b hb)) (by rw [nes_keys]; exact hcl) (by rw [nes_keys]; exact fun j hj => U.mono j (hcl j hj))
  · simp only [if_true]
    rw [List.nodup_append] at r3 ⊢
    refine ⟨by cases obOf v <;> simp, r3.2.1, fun b hb1 c hc ebc => ?_⟩
    subst ebc
    rcases hb b (by simpa using hb1) with q | q
    · exact hdis b hc q
    · have := hflt b hc; omega
mutual
def Tr.toD : Tr → D
  | .row _ sz xs => .sl false sz xs
  | .node _ ts => .sl false 1 (Tr.toDs ts)
def Tr.toDs : List Tr → List D
  | [] => []
  | t :: ts => t.toD :: Tr.toDs ts
end
theorem Tr.toDs_map : ∀ (ts : List Tr), Tr.toDs ts = ts.map Tr.toD
  | [] => rfl
  | t :: ts => by simp [Tr.toDs, Tr.toDs_map ts]
theorem Tr.toD_size (t : Tr) : t.toD.size = 1 := by cases t <;> rfl
/-- A row's slice as a datum: what lies in it given as data. -/
theorem RowAt.rep {M M' : Bars} {w : World} {e sz : Nat} {v : Value} {xs ds : List D} (hr : RowAt M w e sz v xs) (hlen : ds.length = xs.length) (hsz : ∀ x ∈ ds, x.size = sz) (hds : ∀ us, D.Reps M w xs us → D.Reps M' w ds us) (hm : ∀ b, obOf v = some b → ¬ M' false b) :
    D.Rep M' w (.sl false sz ds) [v] := by
  simp only [D.Rep]
  obtain ⟨ad, cap, h1, h2, h3⟩ := hr.shape
  by_cases hne : xs = []
  · subst hne
    have : ds = [] := List.eq_nil_of_length_eq_zero hlen
    subst this
    exact ⟨ad, cap, [], by rw [h1], h2, h3, by simp, by simp [D.Reps], by simp⟩
  · obtain ⟨g, off, cap', us, k1, k2, k3, k4, k5, k6⟩ := hr.cells hne
    rw [h1] at k1
    simp only [Value.slice.injEq] at k1
    obtain ⟨rfl, _, rfl⟩ := k1
    exact ⟨_, cap, us, by rw [h1, hlen], by omega, h3, hsz, hds us k3, fun _ => ⟨g, off, rfl, hm g k2, k5, k6⟩⟩
mutual
theorem Tr.Rep.toD {M M' : Bars} {w : World} (hb : Carry M M' w w) : ∀ {t : Tr} {f : List Nat} {u : Value}, (∀ b ∈ f, ¬ M' false b) → Tr.Rep M w t f u → D.Rep M' w t.toD [u]
  | .row e sz xs, f, u, hf, r => by
    simp only [Tr.Rep] at r
    obtain ⟨r1, rfl⟩ := r
    simp only [Tr.toD]
    exact r1.rep rfl r1.1 (fun us q => q.carry hb) (fun b hb => hf b (by simp [hb]))
  | .node e ts, f, u, hf, r => by
    simp only [Tr.Rep] at r
    obtain ⟨us, f', r1, r2, rfl⟩ := r
    simp only [Tr.toD]
    have q2 := Tr.Reps.toDs hb (fun b hb => hf b (by simp [hb])) r2
    refine r1.rep ?_ (fun x hx => ?_) (fun vs q => ?_) (fun b hb => hf b (by simp [hb]))
    · have := q2.length
      rw [Tr.toDs_map] at this ⊢
      rw [D.sizes_eq (sz := 1) (fun x hx => by obtain ⟨t, _, rfl⟩ := List.mem_map.1 hx; exact Tr.toD_size t)] at this
      simp at this ⊢; exact this.symm
    · rw [Tr.toDs_map] at hx
      obtain ⟨t, _, rfl⟩ := List.mem_map.1 hx
      exact Tr.toD_size t
    · rw [raws_of_d q]; exact q2
theorem Tr.Reps.toDs {M M' : Bars} {w : World} (hb : Carry M M' w w) : ∀ {ts : List Tr} {f : List Nat} {us : List Value}, (∀ b ∈ f, ¬ M' false b) → Tr.Reps M w ts f us → D.Reps M' w (Tr.toDs ts) us
  | [], _, _, _, r => by simp only [Tr.Reps] at r; obtain ⟨_, rfl⟩ := r; simp [Tr.toDs, D.Reps]
  | t :: ts, _, _, hf, r => by
    simp only [Tr.Reps] at r
    obtain ⟨f1, f2, u, vs, rfl, rfl, r1, r2⟩ := r
    simp only [Tr.toDs, D.Reps]
    exact ⟨[u], vs, rfl, Tr.Rep.toD hb (fun b hb => hf b (by simp [hb])) r1, Tr.Reps.toDs hb (fun b hb => hf b (by simp [hb])) r2⟩
end
theorem Conc.frozN (C : Conc G E fr h a w) {k : Nat} {e : TypeId} {A : List Tr} (hk : hget h k = some (.nest e A [] [])) : Conc G E fr ((k, .froz 1 (Tr.toDs A)) :: h) a w := by
  have hl : (Tr.toDs A).length = A.length := by rw [Tr.toDs_map]; simp
  have U : Upd E h w k (.froz 1 (Tr.toDs A)) E w :=
    ⟨fun _ _ => rfl, fun _ _ => rfl, fun _ _ => rfl, fun _ => rfl, (fun hn => by rw [hk] at hn; cases hn),
      fun m hm => ⟨m, .inr (.inl ⟨1, Tr.toDs A, hget_same _ _ _, by have := verAny_one hm (verAny_nest hk rfl); simp at this; omega⟩), Nat.le_refl _, fun _ => rfl⟩,
      (fun _ sz' n' hv => by rcases hv with ⟨_, _, h1, _⟩ | ⟨_, _, _, _, h1, _⟩ <;> (rw [hget_same] at h1; cases h1)),
      Ext.refl _ _, (fun b hb => by unfold blkOf at hb; rw [hget_same] at hb; cases hb)⟩
  refine C.upd U ?_ (by simp [Ob.keys])
  obtain ⟨us, r1, r2, r3⟩ := C.heap.obs k _ hk
  have t : Tr.Rep (bars E h G.o) w (.node e A) ((obOf (E.row k)).toList ++ E.fp k) (E.row k) := by
    simp only [Tr.Rep]
    exact ⟨us, E.fp k, r1, NE.Reps.trs.1 (by simpa [nes] using r2), rfl⟩
  have := t.toD (M' := bars E ((k, .froz 1 (Tr.toDs A)) :: h) G.o) ⟨fun t b hb hm => ⟨rfl, ((U.carry G.o).1 t b hb hm).2⟩, Nat.le_refl _⟩ (fun b hb => by
    have hgl : blkOf E h k b := by simp [blkOf, hk]; simpa using hb
    rintro (⟨j, hj⟩ | ho)
    · by_cases e : j = k
      · subst e; unfold blkOf at hj; rw [hget_same] at hj; cases hj
      · rw [U.blkOf_other e] at hj
        exact e (C.heap.apart j k b hj hgl)
    · obtain ⟨o1, o2⟩ := C.outer _ _ ho
      rcases C.fresh k b hgl with f1 | f1
      · exact o2 f1
      · omega)
  simpa only [ObRep, Tr.toD] using this
end
section
variable {P : Program} {n : Nat} {Q : Exit → Fr → Hp → Prop} {fr : Fr} {h : Hp}
theorem aw_frozN {c : Code} (k : Nat) {e : TypeId} {A : List Tr} (hk : hget h k = some (.nest e A [] [])) (hc : aw P n c Q fr ((k, .froz 1 (Tr.toDs A)) :: h)) : aw P n c Q fr h :=
  fun G E a w hn C => hc G E a w hn (C.frozN hk)
/-- nil in a slot: a row of rows. -/
theorem aw_nilN {c : Code} (i k e : Nat) (hi : fget fr i = .d (.raw (.slice none 0 0))) (hk : hget h k = none) (hlow : Nat.blt k 1000 = true) (hc : aw P n c Q ((i, .own k 0) :: fr) ((k, .nest e [] [] []) :: h)) : aw P n c Q fr h := by
  intro G E a w hn C
  obtain ⟨E', C', hE⟩ := C.newNest (k := k) (e := e) (r := []) (us := []) (v := .slice none 0 0) hk hlow (Ext.refl _ w) (fun b hb => by simp [obOf] at hb) (fun M' _ => ⟨by simp, .inl ⟨none, rfl, rfl⟩⟩) (by simp [nes, NE.Reps]) (by simp)
  refine hc G E' a w hn ⟨C'.size, C'.defers, fun j => ?_, C'.heap, fun j => ?_, C'.ext, C'.fresh, C'.keep, C'.outer, C'.sub⟩
  · by_cases e : i = j
    · subst e
      rw [fget_same]
      have hf := C'.frame i
      rw [hi] at hf
      simp only [V.Rep, D.RepV, D.Rep, List.cons.injEq, and_true] at hf
      simp only [V.Rep]
      exact ⟨0, verAny_nest (hget_same _ _ _) rfl, Nat.le_refl _, by rw [hf.1]; exact hf.2, fun _ => by rw [hE]; exact hf.1⟩
    · rw [fget_other _ _ e]; exact C'.frame j
  · by_cases e : i = j
    · subst e; rw [fget_same]; intro q hq; simp [V.keys] at hq; subst hq; rw [hget_same]; rfl
    · rw [fget_other _ _ e]; exact C'.closed j
end
section
variable {P : Program} {n : Nat} {dr : Bool} {ops : Array Oper} {rest : List Oper} {log : List Rec} {K : Exit → Fr → Hp → Prop} {fr : Fr} {h : Hp}
variable {d : Nat} {ty : TypeId} {pos : String} {after : Array Edge} {g : Option (Nat × Bool)}
variable (T : TT P)
/-- A row of one row. -/
theorem d_bs1N {x : Operand} {t e k0 n0 : Nat} {y ye : Ty} {z : Value} (hdn : Nat.blt d n = true) (hlow : Nat.blt d 1000 = true) (hg : gOk ops fr g) (hx : oev fr x = .own k0 n0) (hk : hget h d = none)
    (ht : T.rows[t]? = some y) (hel : y.elem = some e) (hte : T.rows[e]? = some ye) (hz : ye.zero = some z) (hsz : Nat.beq ye.size 1 = true)
    (hr : dops P n dr ops rest (⟨(gIns ops g ++ insOf x (.own k0 n0)).map Prod.fst, [d], [d], [d]⟩ :: log) K ((d, .own d 1) :: fr) ((d, .nest e [] [(k0, n0)] []) :: h)) : dops P n dr ops (⟨some d, .buildSlice t 1 #[(0, x)], ty, pos, after, g⟩ :: rest) log K fr h := by
  refine dops_cons (ins := gIns ops g ++ insOf x (.own k0 n0)) (objs := [(d, none)]) (v := .own d 1) (upd := [(d, .nest e [] [(k0, n0)] [])]) (LStep.updV rfl hdn rfl hg _ _ _ _ fun G E fr' h' a w C hi ho => ?_) (ins_of hg (oev_ins hx)) (by simpa using hk) hr
  have hk' : hget h' d = none := ho (d, none) (by simp)
  obtain ⟨r1, r2⟩ := C.oev (oev_of hx hi) (oneOpd_spec (oneOpd_of hx rfl))
  have hs := Nat.eq_of_beq_eq_true hsz
  have h1 : (a.eval x).oneCell' = true := by simp only [V.Rep] at r1; obtain ⟨_, _, _, h0, _⟩ := r1; exact h0
  have hc1 : (a.eval x).cells = #[a.eval x] := by cases hq : a.eval x <;> simp_all [Value.cells, Value.oneCell']
  have hrun := run_buildSlice T ht hel hte hz (by omega) (len := 1) (by omega) (qs := [(0, a.eval x)]) (us := [a.eval x]) rfl rfl (by simp [hc1, hs]) w
  obtain ⟨E', C', hE⟩ := C.newNest (k := d) (e := e) (r := [(k0, n0)]) (us := [a.eval x]) (v := .slice (some ⟨w.heap.size, 0, none⟩) 1 1) hk' hlow (Ext.new w (.cells ([a.eval x].flatMap fun u => u.cells.toList).toArray e)) (fun b hb => by simp [obOf] at hb; omega) (fun M' hM => by
    refine ⟨by simp [D.size], .inr ⟨w.heap.size, 0, 1, _, rfl, by omega, heap_alloc_new w _, by simp, by simp [maxLen], by simp [hc1], ?_⟩⟩
    simp only [List.flatMap_cons, List.flatMap_nil, hc1]
    exact raws_reps_d (by simpa using h1)) (by
    simp only [nes, List.map_cons, List.map_nil, List.nil_append, List.append_nil, NE.Reps]
    exact ⟨_, _, rfl, r1, trivial, rfl⟩) (fun j hj => r2 j (by simpa [V.keys] using hj))
  refine ⟨.slice (some ⟨w.heap.size, 0, none⟩) 1 1, E', _, ?_, C', ?_, by intro q hq; simp [V.keys] at hq; subst hq; simp [hget_same]⟩
  · show (do let x ← Instr.buildSlice t 1 (#[(0, x)].map fun p => (p.1, a.eval p.2)); pure (Next.value x) : Sem Next).run P w = _
    rw [show (#[(0, x)].map fun p => (p.1, a.eval p.2)) = [(0, a.eval x)].toArray by simp, Sem.run_bind, hrun]
    rfl
  · simp only [V.Rep]
    exact ⟨1, verAny_nest (hget_same _ _ _) rfl, Nat.le_refl _, rfl, fun _ => hE.symm⟩
/-- append of one row to a row of rows. -/
theorem d_appN {x xy : Operand} {t e k m k1 k0 n0 : Nat} {A : List Tr} {e1 : TypeId} {y ye : Ty} {z : Value} (hdn : Nat.blt d n = true) (hg : gOk ops fr g) (hx : oev fr x = .own k m) (hy : oev fr xy = .own k1 1) (hk : hget h k = some (.nest e A [] [])) (hm : A.length = m) (hk1 : hget h k1 = some (.nest e1 [] [(k0, n0)] []))
    (hk0 : (hget h k0).isSome = true) (ht : T.rows[t]? = some y) (hel : y.elem = some e) (hte : T.rows[e]? = some ye) (hz : ye.zero = some z) (hsz : Nat.beq ye.size 1 = true) (hzs : Nat.beq z.cells.size 1 = true) {nb : Nat} (hnb : ye.bytes = nb) (hbytes : (m + 1) * nb ≤ 140737488355328) (h63 : m + 1 ≤ 4611686018427387904)
    (hr : dops P n dr ops rest (⟨(gIns ops g ++ insAll [x, xy] [.own k m, .own k1 1]).map Prod.fst, [d], [k, k1], [k]⟩ :: log) K ((d, .own k (m + 1)) :: fr) ((k, .nest e A [(k0, n0)] []) :: h)) :
    dops P n dr ops (⟨some d, .call { callee := .builtin .append, args := #[x, xy], argTypes := #[t, t] }, ty, pos, after, g⟩ :: rest) log K fr h := by
  subst hnb; subst hm
  refine dops_cons (ins := gIns ops g ++ insAll [x, xy] [.own k A.length, .own k1 1]) (objs := [(k, some (.nest e A [] [])), (k1, some (.nest e1 [] [(k0, n0)] []))]) (v := .own k (A.length + 1)) (upd := [(k, .nest e A [(k0, n0)] [])]) (LStep.updV rfl hdn rfl hg _ _ _ _ fun G E fr' h' a w C hi ho => ?_) (ins_of hg (oevs_ins ⟨hx, hy, trivial⟩)) (by simp [hk, hk1]) hr
  have hk' : hget h' k = some (.nest e A [] []) := ho (k, _) (by simp)
  have hk1' : hget h' k1 = some (.nest e1 [] [(k0, n0)] []) := ho (k1, _) (by simp)
  have hx' := oevs_of (xs := [x, xy]) (vs := [.own k A.length, .own k1 1]) ⟨hx, hy, trivial⟩ hi
  simp only [oevs] at hx'
  obtain ⟨p1, _⟩ := C.oev hx'.1 (oneOpd_spec (oneOpd_of hx rfl))
  obtain ⟨q1, _⟩ := C.oev hx'.2.1 (oneOpd_spec (oneOpd_of hy rfl))
  simp only [V.Rep] at p1 q1
  obtain ⟨m', v1, _, _, v4⟩ := p1
  have hev := v4 (verAny_one v1 (verAny_nest hk' (by simp))).symm
  obtain ⟨m2, u1, _, _, u4⟩ := q1
  have hev2 := u4 (verAny_one u1 (verAny_nest hk1' (by simp))).symm
  obtain ⟨us, r1, r2, r3⟩ := C.heap.obs k _ hk'
  obtain ⟨us2, s1, s2, s3⟩ := C.heap.obs k1 _ hk1'
  simp only [nes, List.map_cons, List.map_nil, List.nil_append, List.append_nil, NE.Reps] at s2
  obtain ⟨u, vs, rfl, s4, s5, rfl⟩ := s2
  have hul : us.length = A.length := by have := r2.length; rw [nes_length] at this; simpa using this
  have hsa : SlArg (bars E h' G.o) w 1 (a.eval xy) [D.raw u] := by
    rw [hev2]
    obtain ⟨gb, off, cap, us', q1, _, q3, q4, _, q6⟩ := s1.cells (by simp)
    exact ⟨_, cap, us', q1, q3, by simp [D.size], fun _ => ⟨gb, off, rfl, q6⟩⟩
  obtain ⟨v', w', r1', r0, r2', r3', r4⟩ := run_app T (fun b => obOf (E.row k) = some b) (ty := ty) (xs := us.map D.raw) ht hel hte hz (Nat.eq_of_beq_eq_true hsz) (by omega) (Nat.eq_of_beq_eq_true hzs) hsa (by simpa [hul] using hbytes) (by simpa [hul] using h63) (by simp) (.inl ⟨r1, fun b hb => hb⟩)
  have hk0' : (hget h' k0).isSome = true := C.heap.closed k1 _ hk1' k0 (by simp [Ob.keys])
  obtain ⟨E', C', hE⟩ := C.setNest (A' := A) (r' := [(k0, n0)]) (B' := []) (us := us ++ [u]) hk' (v := v') r2' r3' (by simp) (fun q => by simp at q) (fun M' hM => by simpa using r4 M' hM) (by
    have e2 : nes A [(k0, n0)] [] = nes A [] [] ++ [.ref k0 n0] := by simp [nes]
    rw [e2, ← List.append_nil (E.fp k)]
    exact r2.append (by simp only [NE.Reps]; exact ⟨u, [], rfl, s4, trivial, rfl⟩)) (by simpa using hk0')
  refine ⟨v', E', w', run_appCall (by rw [hev]; exact r1'), C', ?_, by intro q hq; simp [V.keys] at hq; subst hq; simp [hget_same]⟩
  simp only [V.Rep]
  exact ⟨_, verAny_nest (hget_same _ _ _) (by simp), Nat.le_refl _, r0, fun _ => hE.symm⟩
theorem d_indexAddrN {x ix : Operand} {st e : Nat} {y ye : Ty} {k m : Nat} {e' : TypeId} {A B : List Tr} {l : List (Nat × Nat)} {ik : IntKind} {c : Int} (i : Nat) (hdn : Nat.blt d n = true) (hg : gOk ops fr g) (hx : oev fr x = .own k m) (hk : hget h k = some (.nest e' A l B)) (hm : A.length + l.length + B.length = m) (hy : oev fr ix = .d (.raw (.int ik c))) (hc : c = (i : Int)) (hlt : i < m)
    (ht : T.rows[st]? = some y) (he : y.elem = some e) (hte : T.rows[e]? = some ye) (hsz : Nat.beq ye.size 1 = true)
    (hr : dops P n dr ops rest (⟨(gIns ops g ++ (insOf x (.own k m) ++ insOf ix (.d (.raw (.int ik c))))).map Prod.fst, [d], [k], []⟩ :: log) K ((d, .optr k m i 0) :: fr) h) : dops P n dr ops (⟨some d, .indexAddr st x ix, ty, pos, after, g⟩ :: rest) log K fr h := by
  have hone : oneOpd x = true := oneOpd_of hx rfl
  refine d_un2 x ix _ ik c (.optr k m i 0) [(k, some (.nest e' A l B))] (by simpa using hk) hone (fun G E fr h a w C ho r hkk hyv => ?_) hdn hg hx hy hr
  have hk' := ho (k, some (.nest e' A l B)) (by simp)
  simp only [V.Rep] at r
  obtain ⟨m', h1, h2, h0, h3⟩ := r
  have e1 := verAny_one h1 (verAny_nest hk' hm)
  obtain ⟨us, r1, r2, _⟩ := C.heap.obs k _ hk'
  have hul : us.length = m := by rw [r2.length, nes_length]; exact hm
  obtain ⟨b, o, cap, vs, q1, _⟩ := r1.cells (by intro q; have := congrArg List.length q; simp only [List.length_map, List.length_nil] at this; omega)
  have hs := Nat.eq_of_beq_eq_true hsz
  have hev : a.eval x = .slice (some ⟨b, o, none⟩) us.length cap := by rw [h3 e1.symm, q1]; simp
  refine ⟨.pointer (some ⟨b, o + i * 1, none⟩), ?_, ?_, by simpa [V.keys] using hkk⟩
  · simp only [execOp, hev, hyv, hc, Sem.run_bind, run_indexAt_slice T ht he hte b o us.length cap i ik (by omega), Result.andThen_ok, Sem.run_pure, hs]
  · simp only [V.Rep]
    refine ⟨m', h1, h2, rfl, fun _ sz' hv => ?_⟩
    obtain ⟨q2, _⟩ := verRow_nest hk' hv
    subst q2
    exact ⟨b, o, cap, by rw [q1]; simp [hul], by simp⟩
/-- The row that stands beside it, read out of a row of rows. -/
theorem d_loadN {x : Operand} {t : TypeId} {y : Ty} {k m i k0 n0 : Nat} {e' : TypeId} {A B : List Tr} (hdn : Nat.blt d n = true) (hg : gOk ops fr g) (hx : oev fr x = .optr k m i 0) (hk : hget h k = some (.nest e' A [(k0, n0)] B)) (hm : A.length + 1 + B.length = m) (hi : A.length = i)
    (ht : T.rows[t]? = some y) (hrow : y.row = false)
    (hr : dops P n dr ops rest (⟨(gIns ops g ++ insOf x (.optr k m i 0)).map Prod.fst, [d], [k], []⟩ :: log) K ((d, .own k0 n0) :: fr) h) : dops P n dr ops (⟨some d, .load t x, ty, pos, after, g⟩ :: rest) log K fr h := by
  have hone : oneOpd x = true := oneOpd_of hx rfl
  refine d_un x _ (.own k0 n0) [(k, some (.nest e' A [(k0, n0)] B))] (by simpa using hk) hone (fun G E fr h a w C ho r hkk => ?_) hdn hg hx hr
  have hk' := ho (k, some (.nest e' A [(k0, n0)] B)) (by simp)
  simp only [V.Rep] at r
  obtain ⟨m', h1, h2, h0, h3⟩ := r
  have e1 := verAny_one h1 (verAny_nest hk' (by simpa using hm))
  obtain ⟨b, o, cap, h5, h4⟩ := h3 e1.symm 1 (.inr ⟨_, _, _, _, hk', rfl, by simpa using hm⟩)
  obtain ⟨us, r1, r2, _⟩ := C.heap.obs k _ hk'
  have hul : us.length = m := by rw [r2.length, nes_length]; simpa using hm
  obtain ⟨gb, off, cap', vs, q1, _, q3, q4, _, q6⟩ := r1.cells (by intro q; have := congrArg List.length q; simp only [List.length_map, List.length_nil] at this; omega)
  rw [q1] at h5
  simp only [Value.slice.injEq, Option.some.injEq, Addr.mk.injEq, and_true] at h5
  obtain ⟨⟨rfl, rfl⟩, _, rfl⟩ := h5
  have evs : vs = us := raws_of_d q3
  subst evs
  simp only [nes, List.map_cons, List.map_nil] at r2
  obtain ⟨f1, f2, u1, u2, _, rfl, p1, p2⟩ := r2.split
  simp only [List.cons_append, List.nil_append, NE.Reps] at p2
  obtain ⟨u, u3, rfl, p3, _⟩ := p2
  have hl1 : u1.length = i := by rw [p1.length]; simpa using hi
  have hcell : w.cell? ⟨gb, off + i, none⟩ = some u := by
    rw [q6 i (by simp; omega), List.getElem?_append_right (by omega), hl1]; simp
  obtain ⟨_, ds, _, g2, _, _, g5, _⟩ := tyOf_spec (T.at ht)
  refine ⟨u, ?_, p3, fun j hj => ?_⟩
  · simp only [Nat.mul_one, Nat.add_zero] at h4
    have := run_loadAt_one (P := P) g2 (by rw [g5]; exact hrow) hcell
    simp only [execOp, h4, Sem.run_bind, this, Result.andThen_ok, Sem.run_pure]
  · simp [V.keys] at hj; subst hj
    exact C.heap.closed k _ hk' _ (by simp [Ob.keys])
theorem d_lenN {x : Operand} {t e k m : Nat} {e' : TypeId} {A B : List Tr} {l : List (Nat × Nat)} {y : Ty} (hdn : Nat.blt d n = true) (hg : gOk ops fr g) (hx : oev fr x = .own k m) (hk : hget h k = some (.nest e' A l B)) (hm : A.length + l.length + B.length = m) (ht : T.rows[t]? = some y) (hel : y.elem = some e)
    (hr : dops P n dr ops rest (⟨(gIns ops g ++ insOf x (.own k m)).map Prod.fst, [d], [k], []⟩ :: log) K ((d, I m) :: fr) h) : dops P n dr ops (⟨some d, .call { callee := .builtin .len, args := #[x], argTypes := #[t] }, ty, pos, after, g⟩ :: rest) log K fr h := by
  refine d_un x _ (I m) [(k, some (.nest e' A l B))] (by simpa using hk) (oneOpd_of hx rfl) (fun G E fr h' a w C ho r hk => ?_) hdn hg hx hr
  have hk' := ho (k, some (.nest e' A l B)) (by simp)
  simp only [V.Rep] at r
  obtain ⟨m', h1, h2, h0, h3⟩ := r
  have e1 := verAny_one h1 (verAny_nest hk' hm)
  obtain ⟨us, r1, r2, _⟩ := C.heap.obs k _ hk'
  have hul : us.length = m := by rw [r2.length, nes_length]; exact hm
  obtain ⟨ad, cap, q1, _⟩ := r1.shape
  obtain ⟨_, ds, _, k2, _, _, _, _, k7, _⟩ := tyOf_spec (T.at ht)
  have hds := k7 e hel
  subst hds
  refine ⟨.int .i64 m, run_lenCall ?_, by simp [V.Rep, D.RepV, D.Rep, Value.oneCell'], by simp [V.keys]⟩
  rw [h3 e1.symm, q1]
  simp [Builtin.len_, run_underlying k2, goInt, hul]
end
end Go.Proofs.Ytflgmalhpglklaa
