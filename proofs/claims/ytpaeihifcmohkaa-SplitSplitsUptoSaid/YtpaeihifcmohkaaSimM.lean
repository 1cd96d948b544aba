/-
  Sim: the step of a call.
-/
import Derived.Test.YtpaeihifcmohkaaSimL
set_option linter.unusedVariables false
set_option linter.unusedSimpArgs false
namespace Go.Proofs.Ytpaeihifcmohkaa
open Go.RowKit

def LinkH (h : Hp) (φ : List (Nat × Nat)) : Hp → Prop
  | [] => True
  | (k, o) :: r => hget h (renK φ k) = some (o.ren φ) ∧ LinkH h φ r
def linkObjs (φ : List (Nat × Nat)) : Hp → List (Nat × Option Ob)
  | [] => []
  | (k, o) :: r => (renK φ k, some (o.ren φ)) :: linkObjs φ r
def newKeys (φ : List (Nat × Nat)) (hc : Hp) : Hp → List Nat
  | [] => []
  | (k, _) :: r => match hget hc k with
    | some _ => newKeys φ hc r
    | none => renK φ k :: newKeys φ hc r
def NewH (h : Hp) : List Nat → Prop
  | [] => True
  | k :: r => hget h k = none ∧ NewH h r
def injB (φ : List (Nat × Nat)) (ks : List Nat) : Bool := ks.all fun k => ks.all fun k' => match Nat.beq (renK φ k) (renK φ k') with
  | true => Nat.beq k k'
  | false => true
def callOk (φ : List (Nat × Nat)) (hc hc' fz : Hp) (W : List Nat) : Bool :=
  allHigh hc && injB φ (hc'.map Prod.fst) && hc.all (fun q => hasKey hc' q.1) && (newKeys φ hc hc').all (fun k => Nat.blt k 1000) &&
    fz.all (fun p => hc.all fun q => !Nat.beq p.1 (renK φ q.1)) && W.all (fun k => hc.all fun q => !Nat.beq k (renK φ q.1)) && fz.all (fun p => W.all fun k => !Nat.beq p.1 k)
def Ob.clean : Ob → Prop
  | .box _ cs => V.cleans cs
  | .row _ _ xs => D.cleans xs
  | .froz _ xs => D.cleans xs
  | .dead _ => True
def HpClean : Hp → Prop
  | [] => True
  | (_, o) :: r => o.clean ∧ HpClean r

theorem hget_mem {h : Hp} {k : Nat} {o : Ob} (hk : hget h k = some o) : (k, o) ∈ h := by
  induction h with
  | nil => simp [hget] at hk
  | cons p u ih =>
    obtain ⟨j, ob⟩ := p
    by_cases ej : j = k
    · subst ej; rw [hget_same] at hk; cases hk; simp
    · rw [hget_other _ _ ej] at hk; exact List.mem_cons_of_mem _ (ih hk)
theorem mem_hget {h : Hp} {p : Nat × Ob} (hp : p ∈ h) : (hget h p.1).isSome = true := by
  obtain ⟨o, ho⟩ := hget_some (u := h) (k := p.1) (List.mem_map.2 ⟨p, hp, rfl⟩)
  rw [ho]; rfl
theorem LinkH.get {h : Hp} {φ : List (Nat × Nat)} : ∀ {hc : Hp}, LinkH h φ hc → ∀ {k : Nat} {o : Ob}, hget hc k = some o → hget h (renK φ k) = some (o.ren φ)
  | [], _, k, o, hk => by simp [hget] at hk
  | (j, ob) :: r, hl, k, o, hk => by
    simp only [LinkH] at hl
    by_cases ej : j = k
    · subst ej; rw [hget_same] at hk; cases hk; exact hl.1
    · rw [hget_other _ _ ej] at hk; exact LinkH.get hl.2 hk
theorem LinkH.iff {h : Hp} {φ : List (Nat × Nat)} : ∀ {hc : Hp}, LinkH h φ hc ↔ ObjsOk h (linkObjs φ hc)
  | [] => by simp [LinkH, linkObjs, ObjsOk]
  | (j, ob) :: r => by
    simp only [LinkH, linkObjs]
    rw [LinkH.iff (hc := r)]
    constructor
    · rintro ⟨h1, h2⟩; exact ObjsOk.cons h1 h2
    · intro q; exact ⟨q (_, _) (List.mem_cons_self), fun p hp => q p (List.mem_cons_of_mem _ hp)⟩
theorem newKeys_mem {φ : List (Nat × Nat)} {hc : Hp} : ∀ {g : Hp} {k : Nat}, (hget g k).isSome = true → hget hc k = none → renK φ k ∈ newKeys φ hc g
  | [], k, hk, _ => by simp [hget] at hk
  | (j, ob) :: r, k, hk, hn => by
    simp only [newKeys]
    by_cases ej : j = k
    · subst ej; rw [hn]; simp
    · rw [hget_other _ _ ej] at hk
      have := newKeys_mem (φ := φ) hk hn
      cases hget hc j with
      | some _ => exact this
      | none => exact List.mem_cons_of_mem _ this
theorem NewH.get {h : Hp} : ∀ {l : List Nat}, NewH h l → ∀ k ∈ l, hget h k = none
  | [], _, k, hk => by cases hk
  | j :: r, hn, k, hk => by
    simp only [NewH] at hn
    rcases List.mem_cons.1 hk with rfl | hk
    · exact hn.1
    · exact NewH.get hn.2 k hk
theorem injB_spec {φ : List (Nat × Nat)} {ks : List Nat} (hi : injB φ ks = true) {k k' : Nat} (h1 : k ∈ ks) (h2 : k' ∈ ks) (e : renK φ k = renK φ k') : k = k' := by
  have := List.all_eq_true.1 (List.all_eq_true.1 hi k h1) k' h2
  rw [e, Nat.beq_refl] at this
  exact Nat.eq_of_beq_eq_true this
theorem hget_ren {φ : List (Nat × Nat)} : ∀ {g : Hp} {k : Nat}, (∀ j ∈ g.map Prod.fst, renK φ j = renK φ k → j = k) → hget (Hp.ren φ g) (renK φ k) = (hget g k).map (Ob.ren φ)
  | [], k, _ => rfl
  | (j, ob) :: r, k, hi => by
    simp only [Hp.ren]
    by_cases ej : j = k
    · subst ej; rw [hget_same, hget_same]; rfl
    · rw [hget_other _ _ ej, hget_other _ _ (fun e => ej (hi j (by simp) e))]
      exact hget_ren (fun i hi' => hi i (by simp only [List.map_cons, List.mem_cons]; exact .inr hi'))
theorem ren_keys {φ : List (Nat × Nat)} : ∀ {g : Hp}, (Hp.ren φ g).map Prod.fst = (g.map Prod.fst).map (renK φ)
  | [] => rfl
  | (j, ob) :: r => by simp only [Hp.ren, List.map_cons, ren_keys (g := r)]
theorem HpClean.get : ∀ {g : Hp}, HpClean g → ∀ {k : Nat} {o : Ob}, hget g k = some o → o.clean
  | [], _, k, o, hk => by simp [hget] at hk
  | (j, ob) :: r, hl, k, o, hk => by
    simp only [HpClean] at hl
    by_cases ej : j = k
    · subst ej; rw [hget_same] at hk; cases hk; exact hl.1
    · rw [hget_other _ _ ej] at hk; exact HpClean.get hl.2 hk

section
variable {P : Program} {G : Ctx} {E : Env} {fr : Fr} {h : Hp} {a : Act} {w : World}
/-- The call, seen from a state that has frozen what freezes. -/
theorem Conc.call (C : Conc G E fr h a w) {f : FuncId} {cargs : List V} {hc hc' : Hp} {r : V} (hA : ACalls P f cargs hc r hc') (φ : List (Nat × Nat)) (W : List Nat)
    (hlink : LinkH h φ hc) (hnew : NewH h (newKeys φ hc hc')) (hhigh : allHigh hc = true) (hin : hpIn hc hc = true) (hinj : injB φ (hc'.map Prod.fst) = true) (hdom : hc.all (fun q => hasKey hc' q.1) = true) (hlow : (newKeys φ hc hc').all (fun k => Nat.blt k 1000) = true)
    (hW : ∀ k ∈ W, (∃ e sz xs, hget h k = some (.row e sz xs)) ∧ ∀ q ∈ hc, k ≠ renK φ q.1) (hcl : W = [] ∨ (r.clean ∧ HpClean hc'))
    {us : List Value} (hus : ∀ (Ec : Env) (M : Bars), Link φ Ec hc E h → Allow false (bars E h G.o) M → (∀ k ∈ W, ∀ b, blkOf E h k = some b → ¬ M true b) → V.Reps Ec hc M w cargs us) (hck : ∀ k ∈ V.keyss cargs, (hget hc k).isSome = true) :
    Calls P f us.toArray w fun e w' => ∃ E' u, e = .returned u ∧ Conc G E' fr (Hp.ren φ hc' ++ h) a w' ∧ V.Rep E' (Hp.ren φ hc' ++ h) (bars E' (Hp.ren φ hc' ++ h) G.o) w' (r.ren φ) u ∧ ∀ k ∈ (r.ren φ).keys, (hget (Hp.ren φ hc' ++ h) k).isSome = true := by
  let Ec : Env := ⟨fun k => E.blk (renK φ k), fun k => E.row (renK φ k)⟩
  have L : Link φ Ec hc E h := ⟨fun k hk => by obtain ⟨o, ho⟩ := Option.isSome_iff_exists.1 hk; rw [hlink.get ho, ho]; rfl, fun _ _ => rfl, fun _ _ => rfl⟩
  have hfoot : ∀ b, Live Ec hc b → Live E h b := fun b ⟨k, hk⟩ => ⟨renK φ k, by rw [← L.blkOf (blkOf_some hk)]; exact hk⟩
  let oc : Bars := fun t b => ¬ Live Ec hc b ∧ ((∃ j, blkOf E h j = some b ∧ (t = true → j ∉ W)) ∨ G.o t b)
  have hbars1 : ∀ t b, ¬ bars E h G.o t b → ¬ bars Ec hc oc t b := fun t b hn hb => by
    rcases hb with hb | ⟨_, ⟨j, hj, _⟩ | hb⟩
    · exact hn (.inl (hfoot b hb))
    · exact hn (.inl ⟨j, hj⟩)
    · exact hn (.inr hb)
  have hA1 : Allow false (bars E h G.o) (bars Ec hc oc) := ⟨hbars1 false, fun _ => hbars1 true⟩
  have hinjc : ∀ {k k' : Nat}, (hget hc' k).isSome = true → (hget hc' k').isSome = true → renK φ k = renK φ k' → k = k' := fun {k k'} h1 h2 e => by
    obtain ⟨o1, p1⟩ := Option.isSome_iff_exists.1 h1
    obtain ⟨o2, p2⟩ := Option.isSome_iff_exists.1 h2
    exact injB_spec hinj (List.mem_map.2 ⟨_, hget_mem p1, rfl⟩) (List.mem_map.2 ⟨_, hget_mem p2, rfl⟩) e
  have hdom' : ∀ {k : Nat}, (hget hc k).isSome = true → (hget hc' k).isSome = true := fun {k} hk => by
    obtain ⟨o, ho⟩ := Option.isSome_iff_exists.1 hk
    have := List.all_eq_true.1 hdom _ (hget_mem ho)
    exact hasKey_spec.1 this
  have Hc : HRep Ec hc oc w := by
    refine ⟨fun k ob hk => ?_, fun k k' b h1 h2 => ?_, fun k ob hk j hj => ?_⟩
    · have hk' := hlink.get hk
      have hr := C.heap.obs _ _ hk'
      cases ob with
      | box ty cs =>
        obtain ⟨us, g1, g2, g3⟩ := hr
        exact ⟨us, g1, V.Reps.unren L hA1 (hpIn_spec hin k _ hk) g2, g3⟩
      | row e sz xs =>
        obtain ⟨g0, g1 | ⟨gb, off, cap, cur, g1, g2, g3, g4, g5, g6, g7⟩⟩ := hr
        · exact ⟨g0, .inl g1⟩
        · exact ⟨g0, .inr ⟨gb, off, cap, cur, g1, g2, g3, g4, g5, g6, g7.allow hA1 (by simp)⟩⟩
      | froz sz xs => exact D.Rep.allow hA1 (by simp) hr
      | dead _ => trivial
    · have k1 := blkOf_some h1
      have k2 := blkOf_some h2
      rw [L.blkOf k1] at h1
      rw [L.blkOf k2] at h2
      exact hinjc (hdom' k1) (hdom' k2) (C.heap.apart _ _ b h1 h2)
    · exact hpIn_spec hin k ob hk j hj
  have hviews : ∀ k ∈ W, ∀ b, blkOf E h k = some b → ¬ bars Ec hc oc true b := fun k hk b hb hx => by
    rcases hx with ⟨k', hk'⟩ | ⟨_, ⟨j, hj, hjw⟩ | ho⟩
    · obtain ⟨o, ho⟩ := Option.isSome_iff_exists.1 (blkOf_some hk')
      rw [L.blkOf (blkOf_some hk')] at hk'
      exact (hW k hk).2 _ (hget_mem ho) (C.heap.apart _ _ b hb hk')
    · have := C.heap.apart _ _ b hj hb
      subst this
      exact hjw rfl hk
    · obtain ⟨o1, o2⟩ := C.outer _ _ ho
      rcases C.fresh k b hb with q | q
      · exact o2 q
      · omega
  refine (hA.2 Ec w us oc Hc (hus Ec _ L hA1 hviews) hck (fun t b hb => ⟨?_, hb.1⟩) (fun b hb => ⟨hb.1, ?_⟩)).mono ?_
  · rcases hb.2 with ⟨j, hj, _⟩ | ho
    · exact C.heap.lt hj
    · exact Nat.lt_of_lt_of_le (C.outer _ _ ho).1 C.ext.size
  · rcases hb.2 with ⟨j, hj, _⟩ | ho
    · exact .inl ⟨j, hj, fun e => by cases e⟩
    · exact .inr (C.sub b ho)
  rintro e w' ⟨Ec', u, he, H', hr', hkr, hE', hHist, hfr⟩
  let pre : Nat → Option Nat := fun j => (hc'.map Prod.fst).find? (fun k => Nat.beq (renK φ k) j)
  have hpre : ∀ {k : Nat}, (hget hc' k).isSome = true → pre (renK φ k) = some k := fun {k} hk => by
    obtain ⟨o, ho⟩ := Option.isSome_iff_exists.1 hk
    have hm : k ∈ hc'.map Prod.fst := List.mem_map.2 ⟨_, hget_mem ho, rfl⟩
    cases hq : pre (renK φ k) with
    | none =>
      have := List.find?_eq_none.1 hq k hm
      simp at this
    | some k0 =>
      have h1 := List.find?_some hq
      have h2 := List.mem_of_find?_eq_some hq
      have := injB_spec hinj h2 hm (Nat.eq_of_beq_eq_true h1)
      rw [this]
  have hpreN : ∀ {j : Nat}, (∀ k, (hget hc' k).isSome = true → renK φ k ≠ j) → pre j = none := fun {j} hj => by
    cases hq : pre j with
    | none => rfl
    | some k0 =>
      exfalso
      have h1 := List.find?_some hq
      have h2 := List.mem_of_find?_eq_some hq
      obtain ⟨p, hp, rfl⟩ := List.mem_map.1 h2
      exact hj p.1 (mem_hget hp) (Nat.eq_of_beq_eq_true h1)
  let E' : Env := ⟨fun j => match pre j with | some k => Ec'.blk k | none => E.blk j, fun j => match pre j with | some k => Ec'.row k | none => E.row j⟩
  let h' : Hp := Hp.ren φ hc' ++ h
  have hEb : ∀ {k : Nat}, (hget hc' k).isSome = true → E'.blk (renK φ k) = Ec'.blk k ∧ E'.row (renK φ k) = Ec'.row k := fun {k} hk => by
    constructor <;> simp only [E', hpre hk]
  have hEn : ∀ {j : Nat}, (∀ k, (hget hc' k).isSome = true → renK φ k ≠ j) → E'.blk j = E.blk j ∧ E'.row j = E.row j := fun {j} hj => by
    constructor <;> simp only [E', hpreN hj]
  have hgi : ∀ {k : Nat}, (hget hc' k).isSome = true → hget h' (renK φ k) = (hget hc' k).map (Ob.ren φ) := fun {k} hk => by
    obtain ⟨o, ho⟩ := Option.isSome_iff_exists.1 hk
    have h1 : hget (Hp.ren φ hc') (renK φ k) = (hget hc' k).map (Ob.ren φ) := hget_ren (fun j hj e => injB_spec hinj hj (List.mem_map.2 ⟨_, hget_mem ho, rfl⟩) e)
    simp only [h', hget_append, h1, ho, Option.map_some]
  have hgn : ∀ {j : Nat}, (∀ k, (hget hc' k).isSome = true → renK φ k ≠ j) → hget h' j = hget h j := fun {j} hj => by
    have h1 : hget (Hp.ren φ hc') j = none := hget_none (by
      rw [ren_keys]
      intro hm
      obtain ⟨k, hk, rfl⟩ := List.mem_map.1 hm
      obtain ⟨p, hp, rfl⟩ := List.mem_map.1 hk
      exact hj p.1 (mem_hget hp) rfl)
    simp only [h', hget_append, h1]
  have himg : ∀ j, (∃ k, (hget hc' k).isSome = true ∧ renK φ k = j) ∨ (∀ k, (hget hc' k).isSome = true → renK φ k ≠ j) := fun j => by
    by_cases hx : ∃ k, (hget hc' k).isSome = true ∧ renK φ k = j
    · exact .inl hx
    · exact .inr (fun k hk e => hx ⟨k, hk, e⟩)
  have L' : Link φ Ec' hc' E' h' := ⟨fun k hk => hgi hk, fun k hk => (hEb hk).1.symm, fun k hk => (hEb hk).2.symm⟩
  have hbn : ∀ {j : Nat}, (∀ k, (hget hc' k).isSome = true → renK φ k ≠ j) → blkOf E' h' j = blkOf E h j := fun {j} hj => by
    unfold blkOf
    rw [hgn hj, (hEn hj).1, (hEn hj).2]
  have hbi : ∀ {k : Nat}, (hget hc' k).isSome = true → blkOf E' h' (renK φ k) = blkOf Ec' hc' k := fun {k} hk => (L'.blkOf hk).symm
  have hmono : ∀ j, (hget h j).isSome = true → (hget h' j).isSome = true := fun j hj => by
    rcases himg j with ⟨k, hk, rfl⟩ | hn
    · rw [hgi hk]; simpa using hk
    · rw [hgn hn]; exact hj
  have hold : ∀ {k : Nat}, (hget hc' k).isSome = true → (hget h (renK φ k)).isSome = true → (hget hc k).isSome = true := fun {k} hk hh => by
    cases hq : hget hc k with
    | some _ => rfl
    | none =>
      exfalso
      have := hnew.get _ (newKeys_mem (φ := φ) hk hq)
      rw [this] at hh; cases hh
  have hnf : ∀ {j b : Nat}, (∀ k, (hget hc' k).isSome = true → renK φ k ≠ j) → blkOf E h j = some b → ¬ Live Ec hc b := fun {j b} hj hb ⟨k, hk⟩ => by
    have hks := blkOf_some hk
    rw [L.blkOf hks] at hk
    exact hj k (hdom' hks) (C.heap.apart _ _ b hk hb)
  have hoLF : ∀ {t b}, G.o t b → ¬ Live Ec hc b := fun {t b} ho hl => by
    obtain ⟨o1, o2⟩ := C.outer _ _ ho
    obtain ⟨k, hk⟩ := hfoot b hl
    rcases C.fresh k b hk with q | q
    · exact o2 q
    · omega
  have hcarry : Carry (bars E h G.o) (bars E' h' G.o) w w' := by
    refine ⟨fun t b hb hm => ?_, hE'.size⟩
    have hnl : ¬ Live E h b := fun hl => hm (.inl hl)
    refine ⟨hE'.block b hb (fun hl => hnl (hfoot b hl)), ?_⟩
    rintro (⟨j, hj⟩ | ho)
    · rcases himg j with ⟨k, hk, rfl⟩ | hn
      · rw [hbi hk] at hj
        rcases hfr k b hj with q | q
        · exact hnl (hfoot b q)
        · omega
      · rw [hbn hn] at hj; exact hnl ⟨j, hj⟩
    · exact hm (.inr ho)
  have T : Trans E h (bars E h G.o) w E' h' (bars E' h' G.o) w' := by
    refine ⟨fun j hj _ => ?_, fun j _ m hv => ?_, fun j hj sz n hv => ?_, hcarry⟩
    · rcases himg j with ⟨k, hk, rfl⟩ | hn
      · have hkc := hold hk hj
        rw [(hEb hk).1]
        exact (hHist k (allHigh_spec hhigh k hkc) hk).2.1
      · exact (hEn hn).1
    · rcases himg j with ⟨k, hk, rfl⟩ | hn
      · have hjs : (hget h (renK φ k)).isSome = true := by
          rcases hv with ⟨_, _, _, q, _⟩ | ⟨_, _, q, _⟩ | q <;> rw [q] <;> rfl
        have hkc := hold hk hjs
        obtain ⟨m', g1, g2, g3⟩ := (hHist k (allHigh_spec hhigh k hkc) hk).2.2.1 m ((L.any hkc).1 hv)
        exact ⟨m', (L'.any hk).2 g1, g2, fun e => by rw [(hEb hk).2]; exact g3 e⟩
      · exact ⟨m, by unfold verAny at hv ⊢; rw [hgn hn]; exact hv, Nat.le_refl _, fun _ => (hEn hn).2⟩
    · rcases himg j with ⟨k, hk, rfl⟩ | hn
      · have hkc := hold hk hj
        obtain ⟨m, hm⟩ := (hHist k (allHigh_spec hhigh k hkc) hk).2.2.2 sz n ((L'.rowv hk).1 hv)
        exact ⟨m, (L.rowv hkc).2 hm⟩
      · exact ⟨n, by unfold verRow at hv ⊢; rw [hgn hn] at hv; exact hv⟩
  have hA2 : Allow (!W.isEmpty) (bars Ec' hc' oc) (bars E' h' G.o) := by
    have key : ∀ t b, (t = true → W = []) → ¬ bars Ec' hc' oc t b → ¬ bars E' h' G.o t b := fun t b hw hn hx => by
      rcases hx with ⟨j, hj⟩ | ho
      · rcases himg j with ⟨k, hk, rfl⟩ | hni
        · rw [hbi hk] at hj; exact hn (.inl ⟨k, hj⟩)
        · rw [hbn hni] at hj
          exact hn (.inr ⟨hnf hni hj, .inl ⟨j, hj, fun e => by rw [hw e]; simp⟩⟩)
      · exact hn (.inr ⟨hoLF ho, .inr ho⟩)
    exact ⟨fun b => key false b (fun e => by cases e), fun e b => key true b (fun _ => by cases W <;> simp_all)⟩
  have hcl' : (!W.isEmpty) = true → r.clean ∧ HpClean hc' := fun e => by
    rcases hcl with q | q
    · subst q; simp at e
    · exact q
  have H2 : HRep E' h' G.o w' := by
    refine ⟨fun j ob hj => ?_, fun j j' b h1 h2 => ?_, fun j ob hj i hi => ?_⟩
    · rcases himg j with ⟨k, hk, rfl⟩ | hn
      · rw [hgi hk] at hj
        obtain ⟨o0, ho0⟩ := Option.isSome_iff_exists.1 hk
        rw [ho0] at hj
        simp only [Option.map_some, Option.some.injEq] at hj
        subst hj
        have hr := H'.obs k _ ho0
        have hclk : (!W.isEmpty) = true → o0.clean := fun e => (hcl' e).2.get ho0
        cases o0 with
        | box ty cs =>
          obtain ⟨us, g1, g2, g3⟩ := hr
          exact ⟨us, by rw [(hEb hk).1]; exact g1, V.Reps.ren L' hA2 (H'.closed k _ ho0) hclk g2, g3⟩
        | row e sz xs =>
          simp only [ObRep, Ob.ren] at hr ⊢
          rw [(hEb hk).2]
          obtain ⟨g0, g1 | ⟨gb, off, cap, cur, g1, g2, g3, g4, g5, g6, g7⟩⟩ := hr
          · exact ⟨g0, .inl g1⟩
          · exact ⟨g0, .inr ⟨gb, off, cap, cur, g1, g2, g3, g4, g5, g6, g7.allow hA2 hclk⟩⟩
        | froz sz xs =>
          simp only [ObRep, Ob.ren] at hr ⊢
          rw [(hEb hk).2]
          exact D.Rep.allow hA2 (fun e => ⟨rfl, hclk e⟩) hr
        | dead _ => trivial
      · rw [hgn hn] at hj
        have hr := C.heap.obs j ob hj
        have hsame : ∀ b, blkOf E h j = some b → w'.heap[b]? = w.heap[b]? := fun b hb => hE'.block b (C.heap.lt hb) (hnf hn hb)
        have hclo := C.heap.closed j ob hj
        cases ob with
        | box ty cs =>
          obtain ⟨us, g1, g2, g3⟩ := hr
          refine ⟨us, ?_, g2.move T (by simpa [Ob.keys] using hclo) (fun i hi => hmono i (hclo i (by simpa [Ob.keys] using hi))), g3⟩
          rw [(hEn hn).1, hsame _ (by simp [blkOf, hj])]; exact g1
        | row e sz xs =>
          simp only [ObRep] at hr ⊢
          rw [(hEn hn).2]
          exact hr.move hcarry (fun b hb => hsame b (by simpa [blkOf, hj] using hb))
        | froz sz xs =>
          simp only [ObRep] at hr ⊢
          rw [(hEn hn).2]
          exact hr.carry hcarry
        | dead _ => trivial
    · have cross : ∀ {k i b : Nat}, (hget hc' k).isSome = true → (∀ k, (hget hc' k).isSome = true → renK φ k ≠ i) → blkOf E' h' (renK φ k) = some b → blkOf E' h' i = some b → False := fun {k i b} hk hi q1 q2 => by
        rw [hbi hk] at q1
        rw [hbn hi] at q2
        rcases hfr k b q1 with q | q
        · exact hnf hi q2 q
        · have := C.heap.lt q2; omega
      rcases himg j with ⟨k, hk, rfl⟩ | hn
      · rcases himg j' with ⟨k', hk', rfl⟩ | hn'
        · rw [hbi hk] at h1
          rw [hbi hk'] at h2
          rw [H'.apart k k' b h1 h2]
        · exact (cross hk hn' h1 h2).elim
      · rcases himg j' with ⟨k', hk', rfl⟩ | hn'
        · exact (cross hk' hn h2 h1).elim
        · rw [hbn hn] at h1
          rw [hbn hn'] at h2
          exact C.heap.apart j j' b h1 h2
    · rcases himg j with ⟨k, hk, rfl⟩ | hn
      · rw [hgi hk] at hj
        obtain ⟨o0, ho0⟩ := Option.isSome_iff_exists.1 hk
        rw [ho0] at hj
        simp only [Option.map_some, Option.some.injEq] at hj
        subst hj
        rw [Ob.ren_keys] at hi
        obtain ⟨i0, hi0, rfl⟩ := List.mem_map.1 hi
        have := H'.closed k _ ho0 i0 hi0
        rw [hgi this]; simpa using this
      · rw [hgn hn] at hj
        exact hmono i (C.heap.closed j ob hj i hi)
  refine ⟨E', u, he, ⟨C.size, C.defers, fun i => (C.frame i).move T (C.closed i) (fun j hj => hmono j (C.closed i j hj)), H2, fun i j hj => hmono j (C.closed i j hj), ?_, fun j b hb => ?_, fun j hj hs => ?_, C.outer, C.sub⟩, V.Rep.ren L' hA2 hkr (fun e => (hcl' e).1) hr', fun k hk => ?_⟩
  · refine C.ext.trans hE' (fun x hx hl => ?_)
    obtain ⟨k, hk⟩ := hfoot x hx
    rcases C.fresh k x hk with q | q
    · exact q
    · omega
  · rcases himg j with ⟨k, hk, rfl⟩ | hn
    · rw [hbi hk] at hb
      rcases hfr k b hb with q | q
      · obtain ⟨j0, hj0⟩ := hfoot b q
        exact C.fresh j0 b hj0
      · exact .inr (Nat.le_trans C.ext.size q)
    · rw [hbn hn] at hb; exact C.fresh j b hb
  · rcases himg j with ⟨k, hk, rfl⟩ | hn
    · have hkc : (hget hc k).isSome = true := by
        cases hq : hget hc k with
        | some _ => rfl
        | none =>
          exfalso
          have := List.all_eq_true.1 hlow _ (newKeys_mem (φ := φ) hk hq)
          simp [Nat.blt_eq] at this
          omega
      have hjs : (hget h (renK φ k)).isSome = true := by rw [L.obj k hkc]; simpa using hkc
      obtain ⟨g0, g1, g2, g3⟩ := C.keep _ hj hjs
      obtain ⟨_, q1, q2, q3⟩ := hHist k (allHigh_spec hhigh k hkc) hk
      refine ⟨g0, by rw [(hEb hk).1, q1]; exact g1, fun m hm => ?_, fun sz n hv => ?_⟩
      · obtain ⟨m1, r1, r2, r3⟩ := g2 m hm
        obtain ⟨m2, s1, s2, s3⟩ := q2 m1 ((L.any hkc).1 r1)
        exact ⟨m2, (L'.any hk).2 s1, by omega, fun e => by rw [(hEb hk).2, s3 (by omega)]; exact r3 (by omega)⟩
      · obtain ⟨m, hm⟩ := q3 sz n ((L'.rowv hk).1 hv)
        exact g3 sz m ((L.rowv hkc).2 hm)
    · rw [hgn hn] at hs
      obtain ⟨g0, g1, g2, g3⟩ := C.keep j hj hs
      refine ⟨g0, by rw [(hEn hn).1]; exact g1, fun m hm => ?_, fun sz n hv => g3 sz n (by unfold verRow at hv ⊢; rw [hgn hn] at hv; exact hv)⟩
      obtain ⟨m1, r1, r2, r3⟩ := g2 m hm
      exact ⟨m1, by unfold verAny at r1 ⊢; rw [hgn hn]; exact r1, r2, fun e => by rw [(hEn hn).2]; exact r3 e⟩
  · rw [V.ren_keys] at hk
    obtain ⟨k0, hk0, rfl⟩ := List.mem_map.1 hk
    have := hkr k0 hk0
    show (hget h' (renK φ k0)).isSome = true
    rw [hgi this]; simpa using this
end
end Go.Proofs.Ytpaeihifcmohkaa
