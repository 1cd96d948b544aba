/-
  Sim: a cell of an object, read as something else.
-/
import Derived.Test.YtflgmalhpglklaaSimMp
set_option linter.unusedVariables false
set_option linter.unusedSimpArgs false
set_option linter.unusedSectionVars false
namespace Go.Proofs.Ytflgmalhpglklaa
open Go.RowKit
section
variable {G : Ctx} {E : Env} {fr : Fr} {h : Hp} {a : Act} {w : World}
theorem Conc.reBox (C : Conc G E fr h a w) {k j : Nat} {ty : TypeId} {cs : List V} {c c' : V} (hk : hget h k = some (.box ty cs)) (hj : cs[j]? = some c) (hco : Co h c c') (hin : c'.inside h = true) : Conc G E fr ((k, .box ty (cs.set j c')) :: h) a w := by
  obtain ⟨us, g1, g2, g3⟩ := C.heap.obs k _ hk
  have hcl := C.heap.closed k _ hk
  have U : Upd E h w k (.box ty (cs.set j c')) E w :=
    ⟨fun _ _ => rfl, fun _ _ => rfl, fun _ _ => rfl, fun _ => rfl, (fun hn => by rw [hk] at hn; cases hn),
      (fun m hm => by exfalso; rcases hm with ⟨_, _, _, h1, _⟩ | ⟨_, _, h1, _⟩ | h1 | ⟨_, _, _, _, h1, _⟩ <;> rw [hk] at h1 <;> cases h1),
      (fun _ sz n hv => by exfalso; rcases hv with ⟨_, _, h1, _⟩ | ⟨_, _, _, _, h1, _⟩ <;> (rw [hget_same] at h1; cases h1)),
      Ext.refl _ _, (fun x hx => .inl (by unfold blkOf at hx ⊢; rw [hget_same] at hx; rw [hk]; exact hx))⟩
  have hkeys : ∀ i ∈ V.keyss (cs.set j c'), (hget h i).isSome = true := fun i hi => by
    obtain ⟨v, hv, hi'⟩ := V.keyss_mem.1 hi
    rcases List.mem_or_eq_of_mem_set hv with hv | rfl
    · exact hcl i (by simp only [Ob.keys]; exact V.keyss_mem.2 ⟨v, hv, hi'⟩)
    · exact V.inside_spec hin i hi'
  refine C.upd U ⟨us, g1, ?_, g3⟩ (fun i hi => U.mono i (hkeys i (by simpa [Ob.keys] using hi)))
  obtain ⟨u, hu, hur⟩ := g2.get hj
  have hs := g2.set (i := j) (hco E G.o w u C.heap C.sub hur)
  have e : us.set j u = us := by
    apply List.ext_getElem?
    intro i
    rw [List.getElem?_set]
    split
    · rename_i e; subst e; rw [hu]; split <;> simp_all
    · rfl
  rw [e] at hs
  exact hs.move (U.trans G.o) hkeys (fun i hi => U.mono i (hkeys i hi))
end
section
variable {P : Program} {n : Nat} {Q : Exit → Fr → Hp → Prop} {fr : Fr} {h : Hp}
theorem aw_reBox {c0 : Code} (k j : Nat) {ty : TypeId} {cs : List V} {c : V} (c' : V) (hk : hget h k = some (.box ty cs)) (hj : cs[j]? = some c) (hco : Co h c c') (hin : c'.inside h = true) (hc : aw P n c0 Q fr ((k, .box ty (cs.set j c')) :: h)) : aw P n c0 Q fr h :=
  fun G E a w hn C => hc G E a w hn (C.reBox hk hj hco hin)
/-- A row of rows in a cell of an object: only read from now on. -/
theorem aw_frozCell {c0 : Code} (k j k0 : Nat) {n0 e : Nat} {A : List Tr} {ty : TypeId} {cs : List V} (hk : hget h k = some (.box ty cs)) (hj : cs[j]? = some (.own k0 n0)) (h0 : hget h k0 = some (.nest e A [] [])) (hn : A.length = n0)
    (hc : aw P n c0 Q fr ((k, .box ty (cs.set j (.d (.sl false 1 (Tr.toDs A))))) :: (k0, .froz 1 (Tr.toDs A)) :: h)) : aw P n c0 Q fr h := by
  have hne : k0 ≠ k := by rintro rfl; rw [hk] at h0; cases h0
  exact aw_frozN k0 h0 (aw_reBox k j _ (by rw [hget_other _ _ hne]; exact hk) hj (Co.froz (hget_same _ _ _) (by rw [Tr.toDs_map]; simp [hn])) rfl hc)
/-- Some state says the same of memory, and meets K. -/
def now (K : Fr → Hp → Prop) (fr : Fr) (h : Hp) : Prop := ∀ (G : Ctx) (E : Env) (a : Act) (w : World), Conc G E fr h a w → ∃ E' fr' h', K fr' h' ∧ Conc G E' fr' h' a w
theorem now_of {K : Fr → Hp → Prop} (hk : K fr h) : now K fr h := fun _ E _ _ C => ⟨E, fr, h, hk, C⟩
def nowQ (Q : Exit → Fr → Hp → Prop) : Exit → Fr → Hp → Prop
  | .normal, fr, h => now (Q .normal) fr h
  | e, fr, h => Q e fr h
/-- Behind the last code of a block: one place more at which to say what objects are. -/
theorem aw_then {c : Code} (hc : aw P n c (nowQ Q) fr h) : aw P n c Q fr h := fun G E a w hn C => by
  refine wp_mono (hc G E a w hn C) fun e a' w' hq => ?_
  obtain ⟨E', fr', h', h1, C'⟩ := hq
  cases e with
  | normal => exact h1 G E' a' w' C'
  | _ => exact ⟨E', fr', h', h1, C'⟩
theorem nowQ_n (hq : now (Q .normal) fr h) : nowQ Q .normal fr h := hq
theorem now_frozCell {K : Fr → Hp → Prop} (k j k0 : Nat) {n0 e : Nat} {A : List Tr} {ty : TypeId} {cs : List V} (hk : hget h k = some (.box ty cs)) (hj : cs[j]? = some (.own k0 n0)) (h0 : hget h k0 = some (.nest e A [] [])) (hn : A.length = n0)
    (hc : now K fr ((k, .box ty (cs.set j (.d (.sl false 1 (Tr.toDs A))))) :: (k0, .froz 1 (Tr.toDs A)) :: h)) : now K fr h := fun G E a w C => by
  have hne : k0 ≠ k := by rintro rfl; rw [hk] at h0; cases h0
  have C1 := C.frozN h0
  exact hc G E a w (C1.reBox (by rw [hget_other _ _ hne]; exact hk) hj (Co.froz (hget_same _ _ _) (by rw [Tr.toDs_map]; simp [hn])) rfl)
end
end Go.Proofs.Ytflgmalhpglklaa
