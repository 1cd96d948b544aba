/-
  Sim: new objects (variables, structs, rows), writes to objects.
-/
import Derived.Test.YtpaeihifcmohkaaSimH
set_option linter.unusedVariables false
set_option linter.unusedSimpArgs false
namespace Go.Proofs.Ytpaeihifcmohkaa
open Go.RowKit

section
variable {G : Ctx} {E : Env} {fr : Fr} {h : Hp} {a : Act} {w : World}
/-! ### Objects that are new, or change -/
theorem noVer {h : Hp} {k m : Nat} (hk : hget h k = none) : ¬ verAny h k m := by
  rintro (⟨_, _, _, h1, _⟩ | ⟨_, _, h1, _⟩ | h1) <;> rw [hk] at h1 <;> cases h1
theorem Conc.newBox (C : Conc G E fr h a w) {k : Nat} (hk : hget h k = none) (hlow : Nat.blt k 1000 = true) (ty : TypeId) {cs : List V} {us : List Value} (hr : V.Reps E h (bars E h G.o) w cs us) (h1 : ∀ x ∈ us, x.oneCell' = true) (hcl : ∀ j ∈ V.keyss cs, (hget h j).isSome = true) :
    ∃ E', Conc G E' fr ((k, .box ty cs) :: h) a (w.alloc (.cells us.toArray ty)) ∧ E'.blk k = w.heap.size := by
  refine ⟨⟨fun j => if j = k then w.heap.size else E.blk j, E.row⟩, ?_, by simp⟩
  have U : Upd E h w k (.box ty cs) ⟨fun j => if j = k then w.heap.size else E.blk j, E.row⟩ (w.alloc (.cells us.toArray ty)) :=
    ⟨fun j hj => by simp [hj], fun _ _ => rfl, (fun hs => by rw [hk] at hs; cases hs), fun _ => by simpa [Nat.blt_eq] using hlow, fun m hm => (noVer hk hm).elim, (fun hs => by rw [hk] at hs; cases hs), Ext.new _ _,
      (fun b hb => by unfold blkOf at hb; rw [hget_same] at hb; simp at hb; exact .inr (by omega))⟩
  refine C.upd U ⟨us, by simpa using heap_alloc_new w _, hr.move (U.trans G.o) hcl (fun j hj => U.mono j (hcl j hj)), h1⟩ (fun j hj => U.mono j (hcl j (by simpa [Ob.keys] using hj)))
theorem Conc.newRow (C : Conc G E fr h a w) {k : Nat} (hk : hget h k = none) (hlow : Nat.blt k 1000 = true) {e sz : Nat} {xs : List D} {v : Value} {w' : World} (hE : Ext NoB w w') (hb : ∀ b, obOf v = some b → w.heap.size ≤ b)
    (hrow : ∀ M', Carry (bars E h G.o) M' w w' → RowAt M' w' e sz v xs) : ∃ E', Conc G E' fr ((k, .row e sz xs) :: h) a w' ∧ E'.row k = v := by
  refine ⟨⟨E.blk, fun j => if j = k then v else E.row j⟩, ?_, by simp⟩
  have U : Upd E h w k (.row e sz xs) ⟨E.blk, fun j => if j = k then v else E.row j⟩ w' :=
    ⟨fun _ _ => rfl, fun j hj => by simp [hj], fun _ => rfl, fun _ => by simpa [Nat.blt_eq] using hlow, fun m hm => (noVer hk hm).elim, (fun hs => by rw [hk] at hs; cases hs), hE.mono (fun _ hf => hf.elim),
      (fun b hb' => by unfold blkOf at hb'; rw [hget_same] at hb'; simp at hb'; exact .inr (hb b hb'))⟩
  exact C.upd U (by simp only [ObRep, if_true]; exact hrow _ (U.carry G.o)) (by simp [Ob.keys])
/-- A row changes, and grows (or stays as long, and where it is). -/
theorem Conc.setRow (C : Conc G E fr h a w) {k : Nat} {e sz : Nat} {xs xs' : List D} (hk : hget h k = some (.row e sz xs)) {v : Value} {w' : World} (hE : Ext (fun b => obOf (E.row k) = some b) w w')
    (hb : ∀ b, obOf v = some b → obOf (E.row k) = some b ∨ w.heap.size ≤ b) (hlen : xs.length ≤ xs'.length) (hsame : xs.length = xs'.length → v = E.row k)
    (hrow : ∀ M', Carry (bars E h G.o) M' w w' → RowAt M' w' e sz v xs') : ∃ E', Conc G E' fr ((k, .row e sz xs') :: h) a w' ∧ E'.row k = v := by
  refine ⟨⟨E.blk, fun j => if j = k then v else E.row j⟩, ?_, by simp⟩
  have hbk : blkOf E h k = obOf (E.row k) := by simp [blkOf, hk]
  have U : Upd E h w k (.row e sz xs') ⟨E.blk, fun j => if j = k then v else E.row j⟩ w' := by
    refine ⟨fun _ _ => rfl, fun j hj => by simp [hj], fun _ => rfl, (fun hn => by rw [hk] at hn; cases hn), fun m hm => ?_, fun _ sz' n' hv => ?_, hE.mono (fun b hb => by rw [hbk]; exact hb), fun b hb' => ?_⟩
    · have e1 := verAny_one hm (.inl ⟨e, sz, xs, hk, rfl⟩)
      subst e1
      exact ⟨xs'.length, .inl ⟨e, sz, xs', hget_same _ _ _, rfl⟩, hlen, fun q => by simp [hsame q]⟩
    · obtain ⟨e', ys, h1, _⟩ := hv
      rw [hget_same] at h1; cases h1
      exact ⟨xs.length, e, xs, hk, rfl⟩
    · unfold blkOf at hb'; rw [hget_same] at hb'; simp at hb'
      rw [hbk]; exact hb b hb'
  exact C.upd U (by simp only [ObRep, if_true]; exact hrow _ (U.carry G.o)) (by simp [Ob.keys])
/-- A variable's cells change. -/
theorem Conc.setBox (C : Conc G E fr h a w) {k : Nat} {ty : TypeId} {cs cs' : List V} (hk : hget h k = some (.box ty cs)) {us' : List Value} (hr : V.Reps E h (bars E h G.o) w cs' us') (h1 : ∀ x ∈ us', x.oneCell' = true) (hcl : ∀ j ∈ V.keyss cs', (hget h j).isSome = true) :
    Conc G E fr ((k, .box ty cs') :: h) a (w.setRow (E.blk k) us'.toArray) := by
  have hbk : blkOf E h k = some (E.blk k) := by simp [blkOf, hk]
  have U : Upd E h w k (.box ty cs') E (w.setRow (E.blk k) us'.toArray) :=
    ⟨fun _ _ => rfl, fun _ _ => rfl, fun _ => rfl, (fun hn => by rw [hk] at hn; cases hn), (fun m hm => by exfalso; rcases hm with ⟨_, _, _, h1, _⟩ | ⟨_, _, h1, _⟩ | h1 <;> rw [hk] at h1 <;> cases h1),
      (fun _ sz n hv => by exfalso; obtain ⟨_, _, h1, _⟩ := hv; rw [hget_same] at h1; cases h1), Ext.setRow w _ _ (by rw [hbk]), (fun b hb => .inl (by unfold blkOf at hb ⊢; rw [hget_same] at hb; rw [hk]; exact hb))⟩
  obtain ⟨us, g1, _, _⟩ := C.heap.obs k _ hk
  exact C.upd U ⟨us', setRow_heap w _ _ _ _ _ g1, hr.move (U.trans G.o) hcl (fun j hj => U.mono j (hcl j hj)), h1⟩ (fun j hj => U.mono j (hcl j (by simpa [Ob.keys] using hj)))

/-! ### What goes into data -/
/-- v as a datum x; rows of the call's own that go into it are only read from then on (fz). -/
inductive Emb (h : Hp) : V → D → List (Nat × Option Ob) → Hp → Prop
  | d (x : D) : Emb h (.d x) x [] []
  | full (t : Bool) (sz : Nat) (es : List D) : Emb h (.full t sz es) (.sl t sz es) [] []
  | nil (t : Bool) (sz : Nat) : Emb h (.d (.raw (.slice none 0 0))) (.sl t sz []) [] []
  | own {k n sz : Nat} {e : TypeId} {xs : List D} (hk : hget h k = some (.row e sz xs)) (hn : xs.length = n) : Emb h (.own k n) (.sl false sz xs) [(k, some (.row e sz xs))] [(k, .froz sz xs)]
  | frz {k n sz : Nat} {xs : List D} (hk : hget h k = some (.froz sz xs)) (hn : xs.length = n) : Emb h (.own k n) (.sl false sz xs) [(k, some (.froz sz xs))] []
inductive Embs (h : Hp) : List V → List D → List (Nat × Option Ob) → Hp → Prop
  | nil : Embs h [] [] [] []
  | cons {v : V} {x : D} {vs : List V} {xs : List D} {o1 o2 : List (Nat × Option Ob)} {f1 f2 : Hp} (h1 : Emb h v x o1 f1) (h2 : Embs h vs xs o2 f2) : Embs h (v :: vs) (x :: xs) (o1 ++ o2) (f1 ++ f2)
inductive EmbV (h : Hp) : V → D → List (Nat × Option Ob) → Hp → Prop
  | one {v : V} {x : D} {o : List (Nat × Option Ob)} {f : Hp} (h1 : Emb h v x o f) : EmbV h v x o f
  | agg {cs : List V} {xs : List D} {o : List (Nat × Option Ob)} {f : Hp} (h1 : Embs h cs xs o f) : EmbV h (.agg cs) (.agg xs) o f
inductive EmbVs (h : Hp) : List V → List D → List (Nat × Option Ob) → Hp → Prop
  | nil : EmbVs h [] [] [] []
  | cons {v : V} {x : D} {vs : List V} {xs : List D} {o1 o2 : List (Nat × Option Ob)} {f1 f2 : Hp} (h1 : EmbV h v x o1 f1) (h2 : EmbVs h vs xs o2 f2) : EmbVs h (v :: vs) (x :: xs) (o1 ++ o2) (f1 ++ f2)
def ObjsOk (h : Hp) (objs : List (Nat × Option Ob)) : Prop := ∀ p ∈ objs, hget h p.1 = p.2
theorem ObjsOk.append {h : Hp} {a b : List (Nat × Option Ob)} : ObjsOk h (a ++ b) ↔ ObjsOk h a ∧ ObjsOk h b := by
  simp only [ObjsOk, List.mem_append]
  exact ⟨fun q => ⟨fun p hp => q p (.inl hp), fun p hp => q p (.inr hp)⟩, fun q p hp => hp.elim (q.1 p) (q.2 p)⟩
/-- What is frozen was a row. -/
def FzOk (h fz : Hp) : Prop := ∀ p ∈ fz, ∃ e sz xs, p.2 = .froz sz xs ∧ hget h p.1 = some (.row e sz xs)
theorem Emb.objs {v : V} {x : D} {o : List (Nat × Option Ob)} {f : Hp} (he : Emb h v x o f) : ObjsOk h o := by cases he <;> simp [ObjsOk] <;> assumption
theorem Embs.objs {vs : List V} {xs : List D} {o : List (Nat × Option Ob)} {f : Hp} (he : Embs h vs xs o f) : ObjsOk h o := by
  induction he with
  | nil => simp [ObjsOk]
  | cons h1 _ ih => exact ObjsOk.append.2 ⟨h1.objs, ih⟩
theorem EmbV.objs {v : V} {x : D} {o : List (Nat × Option Ob)} {f : Hp} (he : EmbV h v x o f) : ObjsOk h o := by
  cases he with
  | one h1 => exact h1.objs
  | agg h1 => exact h1.objs
theorem EmbVs.objs {vs : List V} {xs : List D} {o : List (Nat × Option Ob)} {f : Hp} (he : EmbVs h vs xs o f) : ObjsOk h o := by
  induction he with
  | nil => simp [ObjsOk]
  | cons h1 _ ih => exact ObjsOk.append.2 ⟨h1.objs, ih⟩
theorem Emb.fz {v : V} {x : D} {o : List (Nat × Option Ob)} {f : Hp} (he : Emb h v x o f) : FzOk h f := by
  cases he with
  | own hk hn => intro p hp; simp at hp; subst hp; exact ⟨_, _, _, rfl, hk⟩
  | _ => simp [FzOk]
theorem FzOk.append {a b : Hp} (h1 : FzOk h a) (h2 : FzOk h b) : FzOk h (a ++ b) := fun p hp => (List.mem_append.1 hp).elim (h1 p) (h2 p)
theorem Embs.fz {vs : List V} {xs : List D} {o : List (Nat × Option Ob)} {f : Hp} (he : Embs h vs xs o f) : FzOk h f := by
  induction he with
  | nil => simp [FzOk]
  | cons h1 _ ih => exact h1.fz.append ih
theorem EmbV.fz {v : V} {x : D} {o : List (Nat × Option Ob)} {f : Hp} (he : EmbV h v x o f) : FzOk h f := by
  cases he with
  | one h1 => exact h1.fz
  | agg h1 => exact h1.fz
theorem EmbVs.fz {vs : List V} {xs : List D} {o : List (Nat × Option Ob)} {f : Hp} (he : EmbVs h vs xs o f) : FzOk h f := by
  induction he with
  | nil => simp [FzOk]
  | cons h1 _ ih => exact h1.fz.append ih
theorem Emb.of {h' : Hp} {v : V} {x : D} {o : List (Nat × Option Ob)} {f : Hp} (he : Emb h v x o f) (ho : ObjsOk h' o) : Emb h' v x o f := by
  cases he with
  | d x => exact .d x
  | full t sz es => exact .full t sz es
  | nil t sz => exact .nil t sz
  | own hk hn => exact .own (ho (_, _) (List.mem_singleton.2 rfl)) hn
  | frz hk hn => exact .frz (ho (_, _) (List.mem_singleton.2 rfl)) hn
theorem Embs.of {h' : Hp} {vs : List V} {xs : List D} {o : List (Nat × Option Ob)} {f : Hp} (he : Embs h vs xs o f) (ho : ObjsOk h' o) : Embs h' vs xs o f := by
  induction he with
  | nil => exact .nil
  | cons h1 _ ih => exact .cons (h1.of (ObjsOk.append.1 ho).1) (ih (ObjsOk.append.1 ho).2)
theorem EmbV.of {h' : Hp} {v : V} {x : D} {o : List (Nat × Option Ob)} {f : Hp} (he : EmbV h v x o f) (ho : ObjsOk h' o) : EmbV h' v x o f := by
  cases he with
  | one h1 => exact .one (h1.of ho)
  | agg h1 => exact .agg (h1.of ho)
theorem EmbVs.of {h' : Hp} {vs : List V} {xs : List D} {o : List (Nat × Option Ob)} {f : Hp} (he : EmbVs h vs xs o f) (ho : ObjsOk h' o) : EmbVs h' vs xs o f := by
  induction he with
  | nil => exact .nil
  | cons h1 _ ih => exact .cons (h1.of (ObjsOk.append.1 ho).1) (ih (ObjsOk.append.1 ho).2)
/-- All of them freeze. -/
theorem Conc.frozs : ∀ {fz : Hp}, FzOk h fz → Conc G E fr h a w → Conc G E fr (fz ++ h) a w
  | [], _, C => C
  | (k, o) :: fz, hf, C => by
    have C' := Conc.frozs (fz := fz) (fun p hp => hf p (by simp [hp])) C
    obtain ⟨e, sz, xs, h1, h2⟩ := hf (k, o) (by simp)
    simp only at h1 h2
    subst h1
    by_cases hm : k ∈ fz.map Prod.fst
    · obtain ⟨o', ho'⟩ := hget_some hm
      have hsame : o' = .froz sz xs := by
        have : ∀ {u : Hp} {o' : Ob}, hget u k = some o' → (k, o') ∈ u := by
          intro u
          induction u with
          | nil => intro o' q; simp [hget] at q
          | cons p u ih =>
            intro o' q
            obtain ⟨j, ob⟩ := p
            by_cases ej : j = k
            · subst ej; rw [hget_same] at q; cases q; simp
            · rw [hget_other _ _ ej] at q; exact List.mem_cons_of_mem _ (ih q)
        obtain ⟨e', sz', xs', q1, q2⟩ := hf (k, o') (by simp [this ho'])
        simp only at q1 q2
        rw [h2] at q2; cases q2; exact q1
      subst hsame
      refine C'.congr (fun _ => rfl) (fun j => ?_)
      by_cases ej : j = k
      · subst ej
        rw [List.cons_append, hget_same, hget_append, ho']
      · rw [List.cons_append, hget_other _ _ (Ne.symm ej)]
    · have hk' : hget (fz ++ h) k = some (.row e sz xs) := by rw [hget_append, hget_none hm]; exact h2
      exact C'.froz hk'
theorem hget_fz {fz : Hp} (hf : FzOk h fz) {k sz : Nat} {xs : List D} (hk : (k, Ob.froz sz xs) ∈ fz) : hget (fz ++ h) k = some (.froz sz xs) := by
  obtain ⟨o, ho⟩ := hget_some (u := fz) (k := k) (List.mem_map.2 ⟨_, hk, rfl⟩)
  rw [hget_append, ho]
  simp only [Option.some.injEq]
  have hm : (k, o) ∈ fz := by
    clear hf hk
    induction fz with
    | nil => simp [hget] at ho
    | cons p u ih =>
      obtain ⟨j, ob⟩ := p
      by_cases ej : j = k
      · subst ej; rw [hget_same] at ho; cases ho; simp
      · rw [hget_other _ _ ej] at ho; exact List.mem_cons_of_mem _ (ih ho)
  obtain ⟨e1, s1, x1, q1, q2⟩ := hf _ hk
  obtain ⟨e2, s2, x2, q3, q4⟩ := hf _ hm
  simp only at q1 q2 q3 q4
  rw [q2] at q4; cases q4
  cases q1; exact q3
theorem Emb.co {v : V} {x : D} {o : List (Nat × Option Ob)} {f fz : Hp} (he : Emb h v x o f) (hf : FzOk h fz) (hsub : ∀ p ∈ f, p ∈ fz) : Co (fz ++ h) v (.d x) := by
  cases he with
  | d x => exact Co.refl _
  | full t sz es => exact Co.full t sz es
  | nil t sz => exact Co.nil t sz
  | own hk hn => exact Co.froz (hget_fz hf (hsub _ (List.mem_singleton.2 rfl))) hn.symm
  | @frz k n sz xs hk hn =>
    refine Co.froz (sz := sz) (xs := xs) ?_ hn.symm
    rw [hget_append]
    cases hq : hget fz k with
    | none => exact hk
    | some ob =>
      exfalso
      have : ∀ {u : Hp} {o' : Ob}, hget u k = some o' → (k, o') ∈ u := by
        intro u
        induction u with
        | nil => intro o' q; simp [hget] at q
        | cons p u ih =>
          intro o' q
          obtain ⟨j, ob⟩ := p
          by_cases ej : j = k
          · subst ej; rw [hget_same] at q; cases q; simp
          · rw [hget_other _ _ ej] at q; exact List.mem_cons_of_mem _ (ih q)
      obtain ⟨_, _, _, _, q2⟩ := hf _ (this hq)
      rw [hk] at q2; cases q2
theorem Embs.co {vs : List V} {xs : List D} {o : List (Nat × Option Ob)} {f fz : Hp} (he : Embs h vs xs o f) (hf : FzOk h fz) (hsub : ∀ p ∈ f, p ∈ fz) : Cos (fz ++ h) vs (xs.map .d) := by
  induction he with
  | nil => trivial
  | cons h1 _ ih => exact ⟨h1.co hf (fun p hp => hsub p (List.mem_append.2 (.inl hp))), ih (fun p hp => hsub p (List.mem_append.2 (.inr hp)))⟩
theorem EmbV.co {v : V} {x : D} {o : List (Nat × Option Ob)} {f fz : Hp} (he : EmbV h v x o f) (hf : FzOk h fz) (hsub : ∀ p ∈ f, p ∈ fz) : Co (fz ++ h) v (.d x) := by
  cases he with
  | one h1 => exact h1.co hf hsub
  | agg h1 => exact Co.agg (h1.co hf hsub)
theorem EmbVs.co {vs : List V} {xs : List D} {o : List (Nat × Option Ob)} {f fz : Hp} (he : EmbVs h vs xs o f) (hf : FzOk h fz) (hsub : ∀ p ∈ f, p ∈ fz) : Cos (fz ++ h) vs (xs.map .d) := by
  induction he with
  | nil => trivial
  | cons h1 _ ih => exact ⟨h1.co hf (fun p hp => hsub p (List.mem_append.2 (.inl hp))), ih (fun p hp => hsub p (List.mem_append.2 (.inr hp)))⟩

theorem reps_ds {M : Bars} : ∀ {xs : List D} {us : List Value}, V.Reps E h M w (xs.map .d) us → D.Reps M w xs (us.flatMap fun u => u.cells.toList)
  | [], us, r => by simp only [List.map_nil, V.Reps] at r; subst r; simp [D.Reps]
  | x :: xs, us, r => by
    simp only [List.map_cons, V.Reps] at r
    obtain ⟨u, q, rfl, h1, h2⟩ := r
    simp only [D.Reps, List.flatMap_cons]
    exact ⟨_, _, rfl, by simpa [V.Rep] using D.RepV.cells (by simpa [V.Rep] using h1), reps_ds h2⟩
theorem reps_sizes {M : Bars} {sz : Nat} : ∀ {xs : List D} {us : List Value}, V.Reps E h M w (xs.map .d) us → (∀ x ∈ xs, x.size = sz) → ∀ u ∈ us, u.cells.size = sz
  | [], us, r, _ => by simp only [List.map_nil, V.Reps] at r; subst r; simp
  | x :: xs, us, r, hs => by
    simp only [List.map_cons, V.Reps] at r
    obtain ⟨u, q, rfl, h1, h2⟩ := r
    intro z hz
    rcases List.mem_cons.1 hz with rfl | hz
    · have := (D.RepV.cells (by simpa [V.Rep] using h1)).length
      rw [hs x (by simp)] at this
      simpa using this
    · exact reps_sizes h2 (fun y hy => hs y (by simp [hy])) z hz
theorem ObjsOk.cons {p : Nat × Option Ob} {l : List (Nat × Option Ob)} (h1 : hget h p.1 = p.2) (h2 : ObjsOk h l) : ObjsOk h (p :: l) := fun q hq => (List.mem_cons.1 hq).elim (fun e => by rw [e]; exact h1) (h2 q)
end

section
variable {P : Program} {n : Nat} {dr : Bool} {ops : Array Oper} {rest : List Oper} {log : List Rec} {K : Fr → Hp → Prop} {fr : Fr} {h : Hp}
variable {d : Nat} {ty : TypeId} {pos : String} {after : Array Edge} {g : Option (Nat × Bool)}
theorem oevs_rep {G : Ctx} {E : Env} {a : Act} {w : World} (C : Conc G E fr h a w) : ∀ {xs : List Operand} {vs : List V}, oevs fr xs vs → xs.all oneOpd = true → V.Reps E h (bars E h G.o) w vs (xs.map a.eval) ∧ ∀ k ∈ V.keyss vs, (hget h k).isSome = true
  | [], [], _, _ => ⟨by simp [V.Reps], by simp [V.keyss]⟩
  | x :: xs, v :: vs, he, h1 => by
    simp only [oevs] at he
    simp only [List.all_cons, Bool.and_eq_true] at h1
    obtain ⟨r1, r2⟩ := C.oev he.1 (oneOpd_spec h1.1)
    obtain ⟨q1, q2⟩ := oevs_rep C he.2 h1.2
    refine ⟨by simp only [V.Reps, List.map_cons]; exact ⟨_, _, rfl, r1, q1⟩, ?_⟩
    simp only [V.keyss, List.mem_append]
    rintro k (hk | hk)
    · exact r2 k hk
    · exact q2 k hk
  | [], _ :: _, he, _ => by simp [oevs] at he
  | _ :: _, [], he, _ => by simp [oevs] at he
variable (T : TT P)
def zeroV : Value → List V
  | .agg cs => cs.toList.map fun u => .d (.raw u)
  | v => [.d (.raw v)]
def zeroOne : Value → Bool
  | .agg cs => cs.toList.all Value.oneCell'
  | v => v.oneCell'
theorem zeroV_rep {E : Env} {h : Hp} {M : Bars} {w : World} {z : Value} (hz : zeroOne z = true) : V.Reps E h M w (zeroV z) z.cells.toList ∧ (∀ x ∈ z.cells.toList, x.oneCell' = true) ∧ V.keyss (zeroV z) = [] := by
  have key : ∀ (l : List Value), l.all Value.oneCell' = true → V.Reps E h M w (l.map fun u => V.d (.raw u)) l ∧ V.keyss (l.map fun u => V.d (.raw u)) = [] := by
    intro l
    induction l with
    | nil => intro _; simp [V.Reps, V.keyss]
    | cons u l ih =>
      intro ha
      simp only [List.all_cons, Bool.and_eq_true] at ha
      obtain ⟨i1, i2⟩ := ih ha.2
      refine ⟨by simp only [List.map_cons, V.Reps]; exact ⟨u, l, rfl, by simp [V.Rep, D.RepV, D.Rep, ha.1], i1⟩, by simp [V.keyss, V.keys, i2]⟩
  cases z with
  | agg cs =>
    simp only [zeroOne] at hz
    obtain ⟨k1, k2⟩ := key cs.toList hz
    exact ⟨by simpa [zeroV, Value.cells] using k1, by simpa only [Value.cells] using List.all_eq_true.1 hz, by simpa [zeroV] using k2⟩
  | _ =>
    simp only [zeroOne] at hz
    obtain ⟨k1, k2⟩ := key [_] (by simpa using hz)
    exact ⟨by simpa [zeroV, Value.cells] using k1, by simpa [Value.cells] using hz, by simpa [zeroV] using k2⟩
/-- A new variable, zero. -/
theorem d_alloc {t : TypeId} {y : Ty} {z : Value} {cs : List V} (hdn : Nat.blt d n = true) (hlow : Nat.blt d 1000 = true) (hg : gOk ops fr g) (hk : hget h d = none) (ht : T.rows[t]? = some y) (hz : y.zero = some z) (h1 : zeroOne z = true) (hcs : zeroV z = cs)
    (hr : dops P n dr ops rest (⟨(gIns ops g ++ []).map Prod.fst, [d], [d], [d]⟩ :: log) K ((d, .ptr d 0) :: fr) ((d, .box t cs) :: h)) : dops P n dr ops (⟨some d, .alloc t, ty, pos, after, g⟩ :: rest) log K fr h := by
  subst hcs
  refine dops_cons (ins := gIns ops g ++ []) (objs := [(d, none)]) (v := .ptr d 0) (upd := [(d, .box t (zeroV z))]) (LStep.updV rfl hdn rfl hg [] _ _ _ fun G E fr' h' a w C _ ho => ?_) (ins_of hg (by simp)) (by simpa using hk) hr
  have hk' : hget h' d = none := ho (d, none) (by simp)
  obtain ⟨i, ds, k1, k2, _, _, _, k6, _⟩ := tyOf_spec (T.at ht)
  obtain ⟨z1, z2, z3⟩ := zeroV_rep (E := E) (h := h') (M := bars E h' G.o) (w := w) h1
  obtain ⟨E', C', hb⟩ := C.newBox hk' hlow t z1 z2 (by rw [z3]; simp)
  refine ⟨.pointer (some ⟨w.heap.size, 0, none⟩), E', _, ?_, C', by simp only [V.Rep]; rw [hb], by intro q hq; simp [V.keys] at hq; subst hq; simp [hget_same]⟩
  have hzz : (zeroValue t).run P w = .ok z w := by
    unfold zeroValue typeInfo
    simp [k1, k6, hz]
  simp [execOp, Instr.alloc, hzz, newVar, newRow]
/-- A new variable that holds a value. -/
theorem d_box {x : Operand} {t : TypeId} {v : V} {cs : List V} (hdn : Nat.blt d n = true) (hlow : Nat.blt d 1000 = true) (hg : gOk ops fr g) (hx : oev fr x = v) (h1 : oneOpd x = true) (hk : hget h d = none) (hcs : v.cellsOf = some cs) {cs' : List V} (hn : cs = cs')
    (hr : dops P n dr ops rest (⟨(gIns ops g ++ insOf x v).map Prod.fst, [d], [d], [d]⟩ :: log) K ((d, .ptr d 0) :: fr) ((d, .box t cs') :: h)) : dops P n dr ops (⟨some d, .box t x, ty, pos, after, g⟩ :: rest) log K fr h := by
  subst hn
  refine dops_cons (ins := gIns ops g ++ insOf x v) (objs := [(d, none)]) (v := .ptr d 0) (upd := [(d, .box t cs)]) (LStep.updV rfl hdn rfl hg _ _ _ _ fun G E fr' h' a w C hi ho => ?_) (ins_of hg (oev_ins hx)) (by simpa using hk) hr
  have hk' : hget h' d = none := ho (d, none) (by simp)
  obtain ⟨r1, r2⟩ := C.oev (oev_of hx hi) (oneOpd_spec h1)
  obtain ⟨c1, c2⟩ := V.cells_rep hcs r1
  have hkeys : ∀ j ∈ V.keyss cs, j ∈ v.keys := by
    intro j hj
    cases v with
    | agg xs => simp only [V.cellsOf, Option.some.injEq] at hcs; subst hcs; simpa [V.keys] using hj
    | d x =>
      exfalso
      cases x with
      | agg fs =>
        simp only [V.cellsOf] at hcs
        split at hcs
        · simp only [Option.some.injEq] at hcs; subst hcs
          obtain ⟨v, hv, hj⟩ := V.keyss_mem.1 hj
          obtain ⟨f, _, rfl⟩ := List.mem_map.1 hv
          simp [V.keys] at hj
        · cases hcs
      | raw u => simp only [V.cellsOf, Option.some.injEq] at hcs; subst hcs; simp [V.keyss, V.keys] at hj
      | sl t s es => simp only [V.cellsOf, Option.some.injEq] at hcs; subst hcs; simp [V.keyss, V.keys] at hj
    | tup vs => simp [V.cellsOf] at hcs
    | junk => simp [V.cellsOf] at hcs
    | _ => simp only [V.cellsOf, Option.some.injEq] at hcs; subst hcs; simpa [V.keyss] using hj
  obtain ⟨E', C', hb⟩ := C.newBox hk' hlow t c1 c2 (fun j hj => r2 j (hkeys j hj))
  refine ⟨.pointer (some ⟨w.heap.size, 0, none⟩), E', _, ?_, C', by simp only [V.Rep]; rw [hb], by intro q hq; simp [V.keys] at hq; subst hq; simp [hget_same]⟩
  simp [execOp, Instr.box, newVar, newRow]

/-- A function value. -/
theorem d_makeFunc {f : Fn} {xs : List Operand} {vs : List V} {fst cap : Array Operand} (hdn : Nat.blt d n = true) (hg : gOk ops fr g) (hf : fst.toList = []) (hc : cap.toList = xs) (hx : oevs fr xs vs) (h1 : xs.all oneOpd = true)
    (hr : dops P n dr ops rest (⟨(gIns ops g ++ insAll xs vs).map Prod.fst, [d], [], []⟩ :: log) K ((d, .fn f [] vs) :: fr) h) : dops P n dr ops (⟨some d, .makeFunc f fst cap, ty, pos, after, g⟩ :: rest) log K fr h := by
  refine dops_cons (ins := gIns ops g ++ insAll xs vs) (objs := []) (v := .fn f [] vs) (upd := []) (LStep.pure rfl hdn rfl hg _ _ _ fun G E fr' h' a w C hi _ => ?_) (ins_of hg (oevs_ins hx)) (by simp) hr
  obtain ⟨r1, r2⟩ := oevs_rep C (oevs_of hx hi) h1
  refine ⟨.func f #[] (xs.map a.eval).toArray, ?_, ?_, by simpa [V.keys, V.keyss] using r2⟩
  · have e1 : fst = #[] := by rw [← Array.toArray_toList (xs := fst), hf]
    have e2 : cap = xs.toArray := by rw [← hc]
    simp [execOp, Instr.makeFunc, e1, e2]
  · simp only [V.Rep]
    exact ⟨[], _, by simp, by simp [V.Reps], r1⟩

/-! ### Structs by value -/
def splice : List V → Nat → List V → List V
  | cs, 0, vs => vs ++ cs.drop vs.length
  | c :: cs, off + 1, vs => c :: splice cs off vs
  | [], _ + 1, _ => []
theorem splice_eq : ∀ (cs : List V) (off : Nat) (vs : List V), off ≤ cs.length → splice cs off vs = cs.take off ++ vs ++ cs.drop (off + vs.length)
  | cs, 0, vs, _ => by cases cs <;> simp [splice]
  | c :: cs, off + 1, vs, h => by
    simp only [splice, List.take_succ_cons, List.cons_append]
    rw [splice_eq cs off vs (by simpa using h), show off + 1 + vs.length = (off + vs.length) + 1 by omega, List.drop_succ_cons]
  | [], off + 1, vs, h => by simp at h
def bfill (fields : List (Nat × Nat)) : List V → List (Nat × V) → Option (List V)
  | cs, [] => some cs
  | cs, (i, v) :: r => match fields[i]?, v.cellsOf with
    | some (off, sz), some vs => match Nat.beq vs.length sz, Nat.ble (off + sz) cs.length with
      | true, true => bfill fields (splice cs off vs) r
      | _, _ => none
    | _, _ => none
theorem reps_splice {E : Env} {h : Hp} {M : Bars} {w : World} {cs vs : List V} {us xs : List Value} {off : Nat} (r : V.Reps E h M w cs us) (q : V.Reps E h M w vs xs) (hl : off ≤ cs.length) : V.Reps E h M w (splice cs off vs) (us.take off ++ xs ++ us.drop (off + xs.length)) := by
  rw [splice_eq cs off vs hl, ← q.length]
  exact ((r.take off).append q).append (r.drop _)
theorem keyss_cellsOf {v : V} {cs : List V} (hcs : v.cellsOf = some cs) : ∀ j ∈ V.keyss cs, j ∈ v.keys := by
  intro j hj
  cases v with
  | agg xs => simp only [V.cellsOf, Option.some.injEq] at hcs; subst hcs; simpa [V.keys] using hj
  | d x =>
    exfalso
    cases x with
    | agg fs =>
      simp only [V.cellsOf] at hcs
      split at hcs
      · simp only [Option.some.injEq] at hcs; subst hcs
        obtain ⟨v, hv, hj⟩ := V.keyss_mem.1 hj
        obtain ⟨f, _, rfl⟩ := List.mem_map.1 hv
        simp [V.keys] at hj
      · cases hcs
    | raw u => simp only [V.cellsOf, Option.some.injEq] at hcs; subst hcs; simp [V.keyss, V.keys] at hj
    | sl t s es => simp only [V.cellsOf, Option.some.injEq] at hcs; subst hcs; simp [V.keyss, V.keys] at hj
  | tup vs => simp [V.cellsOf] at hcs
  | junk => simp [V.cellsOf] at hcs
  | _ => simp only [V.cellsOf, Option.some.injEq] at hcs; subst hcs; simpa [V.keyss] using hj
theorem keyss_splice {cs vs : List V} {off j : Nat} (hl : off ≤ cs.length) (hj : j ∈ V.keyss (splice cs off vs)) : j ∈ V.keyss cs ∨ j ∈ V.keyss vs := by
  rw [splice_eq cs off vs hl] at hj
  obtain ⟨v, hv, hj⟩ := V.keyss_mem.1 hj
  simp only [List.mem_append] at hv
  rcases hv with (hv | hv) | hv
  · exact .inl (V.keyss_mem.2 ⟨v, List.mem_of_mem_take hv, hj⟩)
  · exact .inr (V.keyss_mem.2 ⟨v, hv, hj⟩)
  · exact .inl (V.keyss_mem.2 ⟨v, List.mem_of_mem_drop hv, hj⟩)
theorem run_fillV {E : Env} {h : Hp} {M : Bars} {w : World} {fields : List (Nat × Nat)} : ∀ {ps : List (Nat × V)} {qs : List (Nat × Value)} {cs cs' : List V} {us : List Value}, V.Reps E h M w cs us → (∀ x ∈ us, x.oneCell' = true) → ps.map Prod.fst = qs.map Prod.fst → V.Reps E h M w (ps.map Prod.snd) (qs.map Prod.snd) →
    bfill fields cs ps = some cs' → ∃ us' : List Value, Instr.fill (fun i => fields[i]?) us.toArray qs = some us'.toArray ∧ V.Reps E h M w cs' us' ∧ (∀ x ∈ us', x.oneCell' = true) ∧ (∀ j ∈ V.keyss cs', j ∈ V.keyss cs ∨ j ∈ V.keyss (ps.map Prod.snd))
  | [], qs, cs, cs', us, r, h1, hf, _, hb => by
    have : qs = [] := by cases qs <;> simp_all
    subst this
    simp only [bfill, Option.some.injEq] at hb
    subst hb
    exact ⟨us, rfl, r, h1, fun j hj => .inl hj⟩
  | (i, v) :: ps, [], _, _, _, _, _, hf, _, _ => by simp at hf
  | (i, v) :: ps, (j, u) :: qs, cs, cs', us, r, h1, hf, hr, hb => by
    simp only [List.map_cons, List.cons.injEq] at hf
    obtain ⟨rfl, hf⟩ := hf
    simp only [List.map_cons, V.Reps] at hr
    obtain ⟨x, y, hxy, hv, hr⟩ := hr
    simp only [List.cons.injEq] at hxy
    obtain ⟨rfl, rfl⟩ := hxy
    simp only [bfill] at hb
    cases hfi : fields[i]? with
    | none => rw [hfi] at hb; simp at hb
    | some p =>
      obtain ⟨off, sz⟩ := p
      cases hvc : v.cellsOf with
      | none => rw [hfi, hvc] at hb; simp at hb
      | some vs =>
        rw [hfi, hvc] at hb
        simp only at hb
        cases e1 : Nat.beq vs.length sz with
        | false => rw [e1] at hb; simp at hb
        | true =>
          cases e2 : Nat.ble (off + sz) cs.length with
          | false => rw [e1, e2] at hb; simp at hb
          | true =>
            rw [e1, e2] at hb
            simp only at hb
            have hsz := Nat.eq_of_beq_eq_true e1
            have hle := Nat.le_of_ble_eq_true e2
            obtain ⟨c1, c2⟩ := V.cells_rep hvc hv
            have hcl := c1.length
            have hul := r.length
            have hs := reps_splice r c1 (off := off) (by omega)
            have hone : ∀ x ∈ us.take off ++ u.cells.toList ++ us.drop (off + u.cells.toList.length), x.oneCell' = true := by
              intro x hx
              simp only [List.mem_append] at hx
              rcases hx with (hx | hx) | hx
              · exact h1 x (List.mem_of_mem_take hx)
              · exact c2 x hx
              · exact h1 x (List.mem_of_mem_drop hx)
            obtain ⟨us', k1, k2, k3, k4⟩ := run_fillV hs hone hf hr hb
            refine ⟨us', ?_, k2, k3, fun j hj => ?_⟩
            · simp only [Instr.fill, hfi]
              have n1 : u.cells.size = sz := by rw [← hsz, ← hcl]; simp
              have n2 : ¬ (u.cells.size ≠ sz ∨ off + u.cells.size > us.toArray.size) := by simp [n1]; omega
              have n3 : (decide (u.cells.size ≠ sz) || decide (off + u.cells.size > us.toArray.size)) = false := by simp [n1]; omega
              rw [if_neg (by simp [n1]; omega)]
              rw [← k1]
              congr 1
              apply Array.ext_getElem?
              intro k
              have hfs := (Great.foldl_set off u.cells.toList 0 us.toArray).2 k
              simp only [Nat.add_zero] at hfs
              have e3 : (u.cells.zipIdx.foldl (fun cs (x : Value × Nat) => cs.setIfInBounds (off + x.2) x.1) us.toArray) = ((u.cells.toList.zipIdx 0).foldl (fun cs (x : Value × Nat) => cs.setIfInBounds (off + x.2) x.1) us.toArray) := by
                rw [← Array.foldl_toList]; simp
              show (u.cells.zipIdx.foldl (fun cs (x : Value × Nat) => cs.setIfInBounds (off + x.2) x.1) us.toArray)[k]? = _
              rw [e3, hfs]
              simp only [List.size_toArray, List.getElem?_toArray, Array.length_toList, n1]
              have hl0 : u.cells.toList.length = sz := by simp [n1]
              rw [List.append_assoc, List.getElem?_append, List.getElem?_append, List.getElem?_take, List.getElem?_drop, List.length_take, hl0, Nat.min_eq_left (by omega)]
              by_cases q1 : k < off
              · rw [if_neg (by omega), if_pos q1, if_pos q1]
              · rw [if_neg q1]
                by_cases q2 : k < off + sz
                · rw [if_pos ⟨by omega, q2, by omega⟩, if_pos (by omega)]
                · rw [if_neg (by omega), if_neg (by omega)]
                  congr 1; omega
            · rcases k4 j hj with hj | hj
              · rcases keyss_splice (by omega) hj with hj | hj
                · exact .inl hj
                · exact .inr (by simp only [List.map_cons, V.keyss, List.mem_append]; exact .inl (keyss_cellsOf hvc j hj))
              · exact .inr (by simp only [List.map_cons, V.keyss, List.mem_append]; exact .inr hj)
theorem run_places (w : World) : ∀ (l : List Field), (∀ f ∈ l, P.cellsOf f.type ≠ 0) → (l.mapM (fun f => do pure (f.offset, ← sizeOf f.type) : Field → Sem (Nat × Nat))).run P w = .ok (l.map fun f => (f.offset, P.cellsOf f.type)) w
  | [], _ => by simp
  | f :: l, h => by
    have ih := run_places w l (fun f hf => h f (by simp [hf]))
    have hs : (sizeOf f.type).run P w = .ok (P.cellsOf f.type) w := by
      have h0 := h f (by simp)
      unfold Program.cellsOf at h0 ⊢
      unfold sizeOf typeInfo
      cases hq : P.info? f.type with
      | none => rw [hq] at h0; simp at h0
      | some j => simp [hq]
    simp only [List.mapM_cons, Sem.run_bind, hs, Result.andThen_ok, ih, Sem.run_pure, List.map_cons]
/-- A struct, by its parts. -/
theorem d_build {t : TypeId} {parts : Array (Nat × Operand)} {xs : List Operand} {vs : List V} {y : Ty} {z : Value} {is : List Nat} {cs : List V} (hdn : Nat.blt d n = true) (hg : gOk ops fr g) (hp : parts.toList.map Prod.snd = xs) (hpi : parts.toList.map Prod.fst = is) (hx : oevs fr xs vs) (h1 : xs.all oneOpd = true)
    (ht : T.rows[t]? = some y) (hz : y.zero = some z) (hz1 : zeroOne z = true) (hf : y.fields.isEmpty = false) (hfs : y.fields.all (fun p => !Nat.beq p.2 0) = true) (hb : bfill y.fields (zeroV z) (is.zip vs) = some cs) {cs' : List V} (hn : cs = cs')
    (hr : dops P n dr ops rest (⟨(gIns ops g ++ insAll xs vs).map Prod.fst, [d], [], []⟩ :: log) K ((d, .agg cs') :: fr) h) : dops P n dr ops (⟨some d, .build t parts, ty, pos, after, g⟩ :: rest) log K fr h := by
  subst hn
  refine dops_cons (ins := gIns ops g ++ insAll xs vs) (objs := []) (v := .agg cs) (upd := []) (LStep.pure rfl hdn rfl hg _ _ _ fun G E fr' h' a w C hi _ => ?_) (ins_of hg (oevs_ins hx)) (by simp) hr
  obtain ⟨r1, r2⟩ := oevs_rep C (oevs_of hx hi) h1
  obtain ⟨z1, z2, z3⟩ := zeroV_rep (E := E) (h := h') (M := bars E h' G.o) (w := w) hz1
  obtain ⟨i, ds, k1, k2, _, _, _, k6, _, _, k9⟩ := tyOf_spec (T.at ht)
  obtain ⟨fs, rfl, k10⟩ := k9 (by intro e; rw [e] at hf; simp at hf)
  have hlen : is.length = vs.length := by
    have q1 : is.length = parts.toList.length := by rw [← hpi]; simp
    have q2 : xs.length = parts.toList.length := by rw [← hp]; simp
    have q3 := r1.length
    simp at q3; omega
  let qs : List (Nat × Value) := parts.toList.map fun p => (p.1, a.eval p.2)
  have hq1 : (is.zip vs).map Prod.fst = qs.map Prod.fst := by
    rw [List.map_fst_zip (by omega), ← hpi]; simp [qs]
  have hq2 : (is.zip vs).map Prod.snd = vs := List.map_snd_zip (by omega)
  have hq3 : qs.map Prod.snd = xs.map a.eval := by rw [← hp]; simp [qs]
  obtain ⟨us', f1, f2, f3, f4⟩ := run_fillV z1 z2 hq1 (by rw [hq2, hq3]; exact r1) hb
  refine ⟨.agg us'.toArray, ?_, by simp only [V.Rep]; exact ⟨us', rfl, f2, f3⟩, fun j hj => ?_⟩
  · have hzz : (zeroValue t).run P w = .ok z w := by
      unfold zeroValue typeInfo
      simp [k1, k6, hz]
    have e0 : fs = fs.toList.toArray := by simp
    have hpl : (fs.mapM (fun f => do pure (f.offset, ← sizeOf f.type) : Field → Sem (Nat × Nat))).run P w = .ok y.fields.toArray w := by
      rw [e0, List.mapM_toArray]
      have := run_places (P := P) w fs.toList (fun f hf' => by
        have := List.all_eq_true.1 hfs (f.offset, P.cellsOf f.type) (by rw [k10]; exact List.mem_map.2 ⟨f, hf', rfl⟩)
        intro e
        rw [e] at this
        simp at this)
      rw [← k10] at this
      simp only [Sem.run_map, this, Result.andThen_ok]
    have hparts : (parts.map fun p => (p.1, a.eval p.2)).toList = qs := by simp [qs]
    have hfill : Instr.fill (fun i => y.fields.toArray[i]?) z.cells (parts.map fun p => (p.1, a.eval p.2)).toList = some us'.toArray := by
      rw [hparts]
      simpa using f1
    have hfin : (Instr.build t (parts.map fun p => (p.1, a.eval p.2))).run P w = .ok (.agg us'.toArray) w := by
      unfold Instr.build
      simp only [Sem.run_bind, hzz, Result.andThen_ok, run_underlying k2, hpl, hfill, Sem.run_pure]
    simp only [execOp, Sem.run_bind, hfin, Result.andThen_ok, Sem.run_pure]
  · simp only [V.keys] at hj
    rcases f4 j hj with hj | hj
    · rw [z3] at hj; simp at hj
    · rw [hq2] at hj; exact r2 j hj
end
end Go.Proofs.Ytpaeihifcmohkaa
