/-
  Sim: the operations of a region, one behind the other in the text's order; where the order is drawn, a check on what each reads and writes shows that every order comes to the same.
-/
import Derived.Test.YtpaeihifcmohkaaSimB
set_option linter.unusedVariables false
set_option linter.unusedSimpArgs false
namespace Go.Proofs.Ytpaeihifcmohkaa
open Go.RowKit

def dput (dst : Option Tmp) (v : V) (fr : Fr) : Fr := match dst with
  | some d => (d, v) :: fr
  | none => fr
/-- What an operation does, wanted or not. -/
def wpS (P : Program) (ops : Array Oper) (Q : Exit → Act → World → Prop) (o : Oper) (K : Act → World → Prop) (a : Act) (w : World) : Prop :=
  if Region.wanted o (yielded ops a.tmps) = true then o.wp P a w K Q ∨ (o.asks P a w ∧ LetsOut Q) else K (a.put o.dst undef) w
/-- An operation's step: what it reads (slots, objects), the value it puts, the objects that are new or other. -/
def LStep (P : Program) (n : Nat) (ops : Array Oper) (o : Oper) (ins : List (Nat × V)) (objs : List (Nat × Option Ob)) (v : V) (upd : List (Nat × Ob)) : Prop :=
  ∀ (G : Ctx) (E : Env) (fr : Fr) (h : Hp) (a : Act) (w : World) (K : Act → World → Prop) (Q : Exit → Act → World → Prop), G.n = n → Conc G E fr h a w →
    (∀ p ∈ ins, fget fr p.1 = p.2) → (∀ p ∈ objs, hget h p.1 = p.2) →
    (∀ E' a' w', Conc G E' (dput o.dst v fr) (upd ++ h) a' w' → K a' w') → wpS P ops Q o K a w

/-- A step whose reads of objects are told by a condition. -/
def LStepP (P : Program) (n : Nat) (ops : Array Oper) (o : Oper) (ins : List (Nat × V)) (pre : Hp → Prop) (v : V) (upd : List (Nat × Ob)) : Prop :=
  ∀ (G : Ctx) (E : Env) (fr : Fr) (h : Hp) (a : Act) (w : World) (K : Act → World → Prop) (Q : Exit → Act → World → Prop), G.n = n → Conc G E fr h a w →
    (∀ p ∈ ins, fget fr p.1 = p.2) → pre h →
    (∀ E' a' w', Conc G E' (dput o.dst v fr) (upd ++ h) a' w' → K a' w') → wpS P ops Q o K a w
/-- Object k is there, and so. -/
def okp (k : Nat) (p : Ob → Prop) (h : Hp) : Prop := ∃ ob, hget h k = some ob ∧ p ob
structure Rec where
  rs : List Nat
  ws : List Nat
  rk : List Nat
  wk : List Nat
def meets (a b : List Nat) : Bool := a.any fun x => b.any fun y => Nat.beq x y
/-- Must i stay ahead of j? -/
def clash (i j : Rec) : Bool := meets i.ws j.ws || meets i.ws j.rs || meets i.rs j.ws || meets i.wk j.wk || meets i.wk j.rk || meets i.rk j.wk
def bindsAny (e : Edge) : Bool := Region.binds .any e
/-- Is i ahead of j by the edges? -/
def ahead (ops : List Oper) : Nat → Nat → Nat → Bool
  | 0, _, _ => false
  | f + 1, i, j => match ops[j]? with
    | none => false
    | some o => o.after.toList.any (fun e => bindsAny e && Nat.beq e.on i) || o.after.toList.any (fun e => bindsAny e && ahead ops f i e.on)
def okAt (ops : List Oper) (log : List Rec) (j : Nat) (rj : Rec) : List Rec → Nat → Bool
  | [], _ => true
  | ri :: r, i => (match Nat.blt i j with
    | true => (match clash ri rj with | true => ahead ops 40 i j | false => true) && okAt ops log j rj r (i + 1)
    | false => true)
def okAll (ops : List Oper) (log : List Rec) : List Rec → Nat → Bool
  | [], _ => true
  | rj :: r, j => okAt ops log j rj log 0 && okAll ops log r (j + 1)
def edgesBack : List Oper → Nat → Bool
  | [], _ => true
  | o :: r, j => o.after.toList.all (fun e => !bindsAny e || Nat.blt e.on j) && edgesBack r (j + 1)
def orderOk (ops : List Oper) (log : List Rec) : Bool := edgesBack ops 0 && okAll ops log log 0

/-- The operations of a region, in the text's order; log: what those ahead read and wrote. -/
def dops (P : Program) (n : Nat) (dr : Bool) (ops : Array Oper) : List Oper → List Rec → (Fr → Hp → Prop) → Fr → Hp → Prop
  | [], log, K, fr, h => (dr = true → orderOk ops.toList log.reverse = true) ∧ K fr h
  | o :: rest, log, K, fr, h => (∃ ins objs v upd, LStep P n ops o ins objs v upd ∧ (∀ p ∈ ins, fget fr p.1 = p.2) ∧ (∀ p ∈ objs, hget h p.1 = p.2) ∧
      dops P n dr ops rest (⟨ins.map Prod.fst, o.dst.toList, objs.map Prod.fst, upd.map Prod.fst⟩ :: log) K (dput o.dst v fr) (upd ++ h)) ∨
    -- an object is read that those behind may write, as long as what is read stays
    ∃ ins k p v, LStepP P n ops o ins (okp k p) v [] ∧ (∀ q ∈ ins, fget fr q.1 = q.2) ∧ okp k p h ∧ (∀ r ∈ log, k ∉ r.wk) ∧
      dops P n dr ops rest (⟨ins.map Prod.fst, o.dst.toList, [], []⟩ :: log) (fun fr' h' => K fr' h' ∧ ∃ u, h' = u ++ h ∧ ∀ q ∈ u, q.1 = k → p q.2) (dput o.dst v fr) h

section
variable {P : Program} {n : Nat} {ops : Array Oper} {G : Ctx} {Q : Exit → Act → World → Prop}
/-- No order drawn. -/
theorem dops_list {dr : Bool} (hn : G.n = n) : ∀ (rest : List Oper) (log : List Rec) (K : Fr → Hp → Prop) (_ : ∀ E fr h a w, K fr h → Conc G E fr h a w → Q .normal a w) (E : Env) (fr : Fr) (h : Hp) (a : Act) (w : World),
    dops P n dr ops rest log K fr h → Conc G E fr h a w → wpList P ops Q rest a w
  | [], _, K, hQ, E, fr, h, a, w, hd, C => hQ E fr h a w hd.2 C
  | o :: rest, log, K, hQ, E, fr, h, a, w, hd, C => by
    rcases hd with ⟨ins, objs, v, upd, hs, h1, h2, h3⟩ | ⟨ins, k, p, v, hs, h1, h2, _, h3⟩
    · have := hs G E fr h a w (wpList P ops Q rest) Q hn C h1 h2 (fun E' a' w' C' => dops_list hn rest _ K hQ E' _ _ a' w' h3 C')
      exact this
    · have := hs G E fr h a w (wpList P ops Q rest) Q hn C h1 h2 (fun E' a' w' C' => dops_list hn rest _ _ (fun E fr h a w hk => hQ E fr h a w hk.1) E' _ _ a' w' h3 C')
      exact this
variable {K : Fr → Hp → Prop}

/-! ### A drawn order -/
theorem Conc.congr {E : Env} {fr fr' : Fr} {h h' : Hp} {a : Act} {w : World} (hf : ∀ i, fget fr i = fget fr' i) (hh : ∀ k, hget h k = hget h' k) (C : Conc G E fr h a w) : Conc G E fr' h' a w := by
  have hb : ∀ k, blkOf E h' k = blkOf E h k := fun k => by unfold blkOf; rw [hh k]
  have hB : bars E h G.o = bars E h' G.o := by
    funext t b
    unfold bars Live
    simp only [hb]
  have hs : ∀ {j}, (hget h j).isSome = true → (hget h' j).isSome = true := fun {j} hj => by rw [← hh j]; exact hj
  have T : Trans E h (bars E h G.o) w E h' (bars E h' G.o) w := by
    refine ⟨fun _ _ _ => rfl, fun k _ m hv => ⟨m, ?_, Nat.le_refl _, fun _ => rfl⟩, fun k _ sz n hv => ⟨n, ?_⟩, ?_⟩
    · unfold verAny at hv ⊢; rw [← hh k]; exact hv
    · unfold verRow at hv ⊢; rw [hh k]; exact hv
    · rw [hB]; exact Carry.refl _ _
  refine ⟨C.size, C.defers, fun i => by rw [← hf i]; exact (C.frame i).move T (C.closed i) (fun j hj => hs (C.closed i j hj)), ⟨fun k ob hk => ?_, fun k k' b h1 h2 => C.heap.apart k k' b (by rw [← hb]; exact h1) (by rw [← hb]; exact h2), fun k ob hk j hj => ?_⟩, fun i j hj => ?_, C.ext, fun k b hk => C.fresh k b (by rw [← hb]; exact hk), fun k hk hk' => ?_, C.outer, C.sub⟩
  · rw [← hh k] at hk
    have hr := C.heap.obs k ob hk
    cases ob with
    | box ty cs =>
      obtain ⟨us, g1, g2, g3⟩ := hr
      have hc := C.heap.closed k _ hk
      exact ⟨us, g1, g2.move T hc (fun j hj => hs (hc j hj)), g3⟩
    | row e sz xs => exact RowAt.move hr T.carry (fun _ _ => rfl)
    | froz sz xs => exact D.Rep.carry T.carry hr
    | dead _ => trivial
  · rw [← hh k] at hk
    rw [← hh j]; exact C.heap.closed k ob hk j hj
  · rw [← hf i] at hj
    rw [← hh j]; exact C.closed i j hj
  · rw [← hh k] at hk'
    obtain ⟨g0, g1, g2, g3⟩ := C.keep k hk hk'
    refine ⟨g0, g1, fun m hm => ?_, fun sz n hv => g3 sz n ?_⟩
    · obtain ⟨m', k1, k2, k3⟩ := g2 m hm
      exact ⟨m', by unfold verAny at k1 ⊢; rw [← hh k]; exact k1, k2, k3⟩
    · unfold verRow at hv ⊢; rw [hh k]; exact hv

/-- A step of the text's order, as data. -/
structure Stp where
  dst : Option Tmp
  ins : List (Nat × V)
  objs : List (Nat × Option Ob)
  v : V
  upd : List (Nat × Ob)
  pre : Hp → Prop
def Stp.rc (s : Stp) : Rec := ⟨s.ins.map Prod.fst, s.dst.toList, s.objs.map Prod.fst, s.upd.map Prod.fst⟩
def Stp.app (s : Stp) (st : Fr × Hp) : Fr × Hp := (dput s.dst s.v st.1, s.upd ++ st.2)
/-- The steps of X alone, in the text's order. -/
def cst (X : Nat → Bool) : List Stp → Nat → Fr × Hp → Fr × Hp
  | [], _, st => st
  | s :: r, i, st => cst X r (i + 1) (if X i = true then s.app st else st)

theorem fget_app_other {s : Stp} {st : Fr × Hp} {x : Nat} (h : x ∉ s.dst.toList) : fget (s.app st).1 x = fget st.1 x := by
  unfold Stp.app dput
  cases hd : s.dst with
  | none => rfl
  | some d => rw [hd] at h; exact fget_other _ _ (by simpa [eq_comm] using h)
theorem hget_append {u h : Hp} {k : Nat} : hget (u ++ h) k = match hget u k with | some o => some o | none => hget h k := by
  induction u with
  | nil => rfl
  | cons p u ih =>
    obtain ⟨j, o⟩ := p
    simp only [List.cons_append, hget]
    cases Nat.beq j k with
    | true => rfl
    | false => exact ih
theorem hget_none {u : Hp} {k : Nat} (h : k ∉ u.map Prod.fst) : hget u k = none := by
  induction u with
  | nil => rfl
  | cons p u ih =>
    obtain ⟨j, o⟩ := p
    simp only [List.map_cons, List.mem_cons, not_or] at h
    rw [hget_other _ _ (Ne.symm h.1)]
    exact ih h.2
theorem hget_some {u : Hp} {k : Nat} (h : k ∈ u.map Prod.fst) : ∃ o, hget u k = some o := by
  induction u with
  | nil => simp at h
  | cons p u ih =>
    obtain ⟨j, o⟩ := p
    by_cases e : j = k
    · subst e; exact ⟨o, hget_same _ _ _⟩
    · rw [hget_other _ _ e]
      exact ih (by simpa [Ne.symm e] using h)
theorem hget_app_other {s : Stp} {st : Fr × Hp} {k : Nat} (h : k ∉ s.upd.map Prod.fst) : hget (s.app st).2 k = hget st.2 k := by
  unfold Stp.app; rw [hget_append, hget_none h]
theorem fget_app_congr {s : Stp} {st st' : Fr × Hp} {x : Nat} (h : fget st.1 x = fget st'.1 x) : fget (s.app st).1 x = fget (s.app st').1 x := by
  unfold Stp.app dput
  cases s.dst with
  | none => exact h
  | some d =>
    by_cases e : d = x
    · subst e; rw [fget_same, fget_same]
    · rw [fget_other _ _ e, fget_other _ _ e]; exact h
theorem hget_app_congr {s : Stp} {st st' : Fr × Hp} {k : Nat} (h : hget st.2 k = hget st'.2 k) : hget (s.app st).2 k = hget (s.app st').2 k := by
  unfold Stp.app; rw [hget_append, hget_append]
  cases hget s.upd k with
  | none => exact h
  | some o => rfl
theorem cst_fget {X Y : Nat → Bool} {x : Nat} : ∀ (l : List Stp) (i : Nat) (st st' : Fr × Hp), fget st.1 x = fget st'.1 x → (∀ j s, l[j]? = some s → x ∈ s.dst.toList → X (i + j) = Y (i + j)) →
    fget (cst X l i st).1 x = fget (cst Y l i st').1 x
  | [], _, _, _, h, _ => h
  | s :: r, i, st, st', h, hx => by
    simp only [cst]
    refine cst_fget r (i + 1) _ _ ?_ (fun j s' hj hm => by have := hx (j + 1) s' (by simpa using hj) hm; rwa [show i + (j + 1) = i + 1 + j by omega] at this)
    by_cases hm : x ∈ s.dst.toList
    · have := hx 0 s (by simp) hm
      simp only [Nat.add_zero] at this
      rw [this]
      split
      · exact fget_app_congr h
      · exact h
    · split <;> split <;> simp only [fget_app_other hm, h]
theorem cst_hget {X Y : Nat → Bool} {x : Nat} : ∀ (l : List Stp) (i : Nat) (st st' : Fr × Hp), hget st.2 x = hget st'.2 x → (∀ j s, l[j]? = some s → x ∈ s.upd.map Prod.fst → X (i + j) = Y (i + j)) →
    hget (cst X l i st).2 x = hget (cst Y l i st').2 x
  | [], _, _, _, h, _ => h
  | s :: r, i, st, st', h, hx => by
    simp only [cst]
    refine cst_hget r (i + 1) _ _ ?_ (fun j s' hj hm => by have := hx (j + 1) s' (by simpa using hj) hm; rwa [show i + (j + 1) = i + 1 + j by omega] at this)
    by_cases hm : x ∈ s.upd.map Prod.fst
    · have := hx 0 s (by simp) hm
      simp only [Nat.add_zero] at this
      rw [this]
      split
      · exact hget_app_congr h
      · exact h
    · split <;> split <;> simp only [hget_app_other hm, h]
/-- The last that writes has the say. -/
theorem cst_split (X : Nat → Bool) : ∀ (l r : List Stp) (i : Nat) (st : Fr × Hp), cst X (l ++ r) i st = cst X r (i + l.length) (cst X l i st)
  | [], _, _, _ => rfl
  | s :: l, r, i, st => by
    simp only [List.cons_append, cst, List.length_cons]
    rw [cst_split X l r (i + 1), show i + 1 + l.length = i + (l.length + 1) by omega]
theorem cst_none_f {X : Nat → Bool} {x : Nat} : ∀ (l : List Stp) (i : Nat) (st : Fr × Hp), (∀ j s, l[j]? = some s → x ∈ s.dst.toList → X (i + j) = false) → fget (cst X l i st).1 x = fget st.1 x
  | [], _, _, _ => rfl
  | s :: r, i, st, hx => by
    simp only [cst]
    rw [cst_none_f r (i + 1) _ (fun j s' hj hm => by have := hx (j + 1) s' (by simpa using hj) hm; rwa [show i + (j + 1) = i + 1 + j by omega] at this)]
    by_cases hm : x ∈ s.dst.toList
    · have := hx 0 s (by simp) hm
      simp only [Nat.add_zero] at this
      rw [if_neg (by simp [this])]
    · split
      · exact fget_app_other hm
      · rfl
theorem cst_none_h {X : Nat → Bool} {x : Nat} : ∀ (l : List Stp) (i : Nat) (st : Fr × Hp), (∀ j s, l[j]? = some s → x ∈ s.upd.map Prod.fst → X (i + j) = false) → hget (cst X l i st).2 x = hget st.2 x
  | [], _, _, _ => rfl
  | s :: r, i, st, hx => by
    simp only [cst]
    rw [cst_none_h r (i + 1) _ (fun j s' hj hm => by have := hx (j + 1) s' (by simpa using hj) hm; rwa [show i + (j + 1) = i + 1 + j by omega] at this)]
    by_cases hm : x ∈ s.upd.map Prod.fst
    · have := hx 0 s (by simp) hm
      simp only [Nat.add_zero] at this
      rw [if_neg (by simp [this])]
    · split
      · exact hget_app_other hm
      · rfl

theorem cst_okp {X : Nat → Bool} {k : Nat} {p : Ob → Prop} : ∀ (l : List Stp) (i : Nat) (st : Fr × Hp), okp k p st.2 → (∀ j s, l[j]? = some s → X (i + j) = true → ∀ q ∈ s.upd, q.1 = k → p q.2) → okp k p (cst X l i st).2
  | [], _, _, h, _ => h
  | s :: r, i, st, h, hx => by
    simp only [cst]
    refine cst_okp r (i + 1) _ ?_ (fun j s' hj hm => by have := hx (j + 1) s' (by simpa using hj); rw [show i + (j + 1) = i + 1 + j by omega] at this; exact this hm)
    split
    · rename_i hX
      have h0 := hx 0 s (by simp) (by simpa using hX)
      obtain ⟨ob, h1, h2⟩ := h
      unfold Stp.app okp
      rw [hget_append]
      cases hq : hget s.upd k with
      | none => exact ⟨ob, h1, h2⟩
      | some o' =>
        refine ⟨o', rfl, ?_⟩
        have hm : ∀ (u : Hp), hget u k = some o' → (k, o') ∈ u := fun u => by
          induction u with
          | nil => intro h; cases h
          | cons q u ih =>
            obtain ⟨j, o⟩ := q
            intro hg
            by_cases e : j = k
            · subst e; rw [hget_same] at hg; cases hg; exact List.mem_cons_self
            · rw [hget_other _ _ e] at hg; exact List.mem_cons_of_mem _ (ih hg)
        exact h0 (k, o') (hm _ hq) rfl
    · exact h
/-- All that the steps write, the last ahead. -/
def ups : List Stp → Hp
  | [] => []
  | s :: r => ups r ++ s.upd
theorem cst_ups : ∀ (l : List Stp) (i : Nat) (st : Fr × Hp), (cst (fun _ => true) l i st).2 = ups l ++ st.2
  | [], _, _ => rfl
  | s :: r, i, st => by simp only [cst, ups, if_true]; rw [cst_ups r]; simp [Stp.app]
theorem ups_mem {l : List Stp} {s : Stp} (h : s ∈ l) : ∀ q ∈ s.upd, q ∈ ups l := by
  induction l with
  | nil => cases h
  | cons x l ih =>
    intro q hq
    simp only [ups, List.mem_append]
    rcases List.mem_cons.1 h with rfl | h
    · exact .inr hq
    · exact .inl (ih h q hq)
/-- Does X list just those ahead, as far as they clash with i? -/
def Fair (l : List Stp) (i : Nat) (s : Stp) (X : Nat → Bool) : Prop := X i = false ∧ ∀ j sj, l[j]? = some sj → j ≠ i → (j < i → clash sj.rc s.rc = true) → (i < j → clash s.rc sj.rc = true) → X j = decide (j < i)
/-- The chain in the text's order: each step's reads hold where it stands. -/
structure Chain (P : Program) (n : Nat) (ops : Array Oper) (l : List Stp) (st : Fr × Hp) : Prop where
  len : l.length = ops.size
  step : ∀ i s o, l[i]? = some s → ops[i]? = some o → s.dst = o.dst ∧ LStepP P n ops o s.ins s.pre s.v s.upd ∧
    (∀ p ∈ s.ins, fget (cst (fun j => decide (j < i)) l 0 st).1 p.1 = p.2) ∧ ∀ X, Fair l i s X → ∀ h, (∀ x, hget h x = hget (cst X l 0 st).2 x) → s.pre h

theorem split_at {α : Type} {l : List α} {i : Nat} {x : α} (h : l[i]? = some x) : l = l.take i ++ (x :: l.drop (i + 1)) := by
  have h' := (List.getElem?_eq_some_iff.1 h).2
  rw [← h']; simp
theorem meets_spec {a b : List Nat} : meets a b = true ↔ ∃ x, x ∈ a ∧ x ∈ b := by
  simp only [meets, List.any_eq_true]
  constructor
  · rintro ⟨x, hx, y, hy, e⟩
    have := Nat.eq_of_beq_eq_true e
    subst this; exact ⟨x, hx, hy⟩
  · rintro ⟨x, hx, hy⟩; exact ⟨x, hx, x, hy, Nat.beq_refl x⟩
theorem okAt_spec {ops : List Oper} {log : List Rec} {j : Nat} {rj : Rec} : ∀ (l : List Rec) (i : Nat), okAt ops log j rj l i = true → ∀ m ri, l[m]? = some ri → i + m < j → clash ri rj = true → ahead ops 40 (i + m) j = true
  | [], _, _, m, ri, hm, _, _ => by simp at hm
  | r :: l, i, h, m, ri, hm, hlt, hc => by
    simp only [okAt] at h
    have hi : Nat.blt i j = true := by rw [Nat.blt_eq]; omega
    rw [hi] at h
    simp only [Bool.and_eq_true] at h
    match m with
    | 0 =>
      simp only [List.getElem?_cons_zero, Option.some.injEq] at hm
      subst hm
      rw [hc] at h
      exact h.1
    | m + 1 =>
      have := okAt_spec l (i + 1) h.2 m ri (by simpa using hm) (by omega) hc
      rwa [show i + 1 + m = i + (m + 1) by omega] at this
theorem okAll_spec {ops : List Oper} {log : List Rec} : ∀ (l : List Rec) (j : Nat), okAll ops log l j = true → ∀ m rj, l[m]? = some rj → okAt ops log (j + m) rj log 0 = true
  | [], _, _, m, rj, hm => by simp at hm
  | r :: l, j, h, m, rj, hm => by
    simp only [okAll, Bool.and_eq_true] at h
    match m with
    | 0 => simp only [List.getElem?_cons_zero, Option.some.injEq] at hm; subst hm; exact h.1
    | m + 1 =>
      have := okAll_spec l (j + 1) h.2 m rj (by simpa using hm)
      rwa [show j + 1 + m = j + (m + 1) by omega] at this
theorem edgesBack_spec : ∀ (l : List Oper) (j : Nat), edgesBack l j = true → ∀ m o, l[m]? = some o → ∀ e ∈ o.after, bindsAny e = true → e.on < j + m
  | [], _, _, m, o, hm => by simp at hm
  | r :: l, j, h, m, o, hm => by
    simp only [edgesBack, Bool.and_eq_true, List.all_eq_true] at h
    match m with
    | 0 =>
      simp only [List.getElem?_cons_zero, Option.some.injEq] at hm
      subst hm
      intro e he hb
      have := h.1 e (by simpa using he)
      rw [hb] at this
      simpa [Nat.blt_eq] using this
    | m + 1 =>
      intro e he hb
      have := edgesBack_spec l (j + 1) h.2 m o (by simpa using hm) e he hb
      omega

theorem fair_objs {l : List Stp} {i : Nat} {s : Stp} {X : Nat → Bool} {st : Fr × Hp} (hsi : l[i]? = some s) (hobjs : ∀ p ∈ s.objs, hget (cst (fun j => decide (j < i)) l 0 st).2 p.1 = p.2) (hF : Fair l i s X) (h : Hp) (hh : ∀ x, hget h x = hget (cst X l 0 st).2 x) : ∀ p ∈ s.objs, hget h p.1 = p.2 := fun p hp => by
  rw [hh p.1, ← hobjs p hp]
  refine cst_hget l 0 st st rfl (fun j sj hj hm => ?_)
  simp only [Nat.zero_add]
  by_cases hne : j = i
  · subst hne; rw [hF.1]; simp
  · refine hF.2 j sj hj hne (fun _ => ?_) (fun _ => ?_)
    · simp only [clash, Bool.or_eq_true]
      exact .inl (.inr (meets_spec.2 ⟨p.1, hm, by simp only [Stp.rc, List.mem_map]; exact ⟨p, hp, rfl⟩⟩))
    · simp only [clash, Bool.or_eq_true]
      exact .inr (meets_spec.2 ⟨p.1, by simp only [Stp.rc, List.mem_map]; exact ⟨p, hp, rfl⟩, hm⟩)
/-- What is listed is closed under the edges. -/
def Down (ops : Array Oper) (X : Nat → Bool) : Prop := ∀ j o, ops[j]? = some o → X j = true → ∀ e ∈ o.after, bindsAny e = true → X e.on = true
theorem ahead_spec {ops : Array Oper} {X : Nat → Bool} (hD : Down ops X) : ∀ (f i j : Nat) (o : Oper), ops[j]? = some o → (∀ e ∈ o.after, bindsAny e = true → X e.on = true) → ahead ops.toList f i j = true → X i = true
  | 0, i, j, o, _, _, h => by simp [ahead] at h
  | f + 1, i, j, o, ho, hX, h => by
    simp only [ahead] at h
    have ho' : ops.toList[j]? = some o := by simpa using ho
    rw [ho'] at h
    simp only [Bool.or_eq_true, List.any_eq_true, Bool.and_eq_true] at h
    rcases h with ⟨e, he, hb, hon⟩ | ⟨e, he, hb, hon⟩
    · have := Nat.eq_of_beq_eq_true hon
      rw [← this]; exact hX e (by simpa using he) hb
    · have hXe := hX e (by simpa using he) hb
      cases hq : ops[e.on]? with
      | none =>
        exfalso
        have hq' : ops.toList[e.on]? = none := by simpa using hq
        cases f with
        | zero => simp [ahead] at hon
        | succ f => simp only [ahead, hq'] at hon; cases hon
      | some o' => exact ahead_spec hD f i e.on o' hq (hD e.on o' hq hXe) hon

theorem drawn_any {l : List Stp} {st : Fr × Hp} (hn : G.n = n) (hC : Chain P n ops l st) (hok : orderOk ops.toList (l.map Stp.rc) = true)
    (hK : K (cst (fun _ => true) l 0 st).1 (cst (fun _ => true) l 0 st).2) (hQ : ∀ E fr h a w, K fr h → Conc G E fr h a w → Q .normal a w) :
    ∀ (fuel : Nat) (listed : Array Bool) (E : Env) (fr : Fr) (h : Hp) (a : Act) (w : World), listed.size = ops.size → listed.toList.count false ≤ fuel →
      Down ops (fun i => listed.getD i false) → (∀ x, fget fr x = fget (cst (fun i => listed.getD i false) l 0 st).1 x) → (∀ x, hget h x = hget (cst (fun i => listed.getD i false) l 0 st).2 x) →
      Conc G E fr h a w → wpAny P .any ops Q fuel listed a w := by
  simp only [orderOk, Bool.and_eq_true] at hok
  obtain ⟨hback, hall⟩ := hok
  have hord : ∀ i j si sj, l[i]? = some si → l[j]? = some sj → i < j → clash si.rc sj.rc = true → ahead ops.toList 40 i j = true := fun i j si sj hi hj hlt hc => by
    have h1 := okAll_spec _ 0 hall j sj.rc (by simp [hj])
    rw [Nat.zero_add] at h1
    have := okAt_spec _ 0 h1 i si.rc (by simp [hi]) (by omega) hc
    simpa using this
  -- all listed: the text's end
  have hfin : ∀ (listed : Array Bool) (E : Env) (fr : Fr) (h : Hp) (a : Act) (w : World), listed.size = ops.size → Region.ready .any ops listed = [] → Down ops (fun i => listed.getD i false) →
      (∀ x, fget fr x = fget (cst (fun i => listed.getD i false) l 0 st).1 x) → (∀ x, hget h x = hget (cst (fun i => listed.getD i false) l 0 st).2 x) → Conc G E fr h a w → Q .normal a w := by
    intro listed E fr h a w hs hr hD hf hh C
    have hallX : ∀ i, i < ops.size → listed.getD i false = true := by
      intro i
      induction i using Nat.strongRecOn with
      | _ i ih =>
        intro hi
        cases hx : listed.getD i false with
        | true => rfl
        | false =>
          exfalso
          have hi' : i < listed.size := by omega
          have hm : i ∈ Region.ready .any ops listed := by
            rw [mem_ready]
            refine ⟨?_, ops[i], by simp [hi], fun e he hb => ih e.on ?_ ?_⟩
            · simp [hi'] at hx ⊢; exact hx
            · have := edgesBack_spec _ 0 hback i ops[i] (by simp [hi]) e he hb; omega
            · have := edgesBack_spec _ 0 hback i ops[i] (by simp [hi]) e he hb; omega
          rw [hr] at hm; cases hm
    refine hQ E _ _ a w hK (C.congr (fun x => ?_) (fun x => ?_))
    · rw [hf x]
      exact cst_fget l 0 st st rfl (fun j s hj _ => by
        have : j < ops.size := by rw [← hC.len]; exact (List.getElem?_eq_some_iff.1 hj).1
        simp [hallX j this])
    · rw [hh x]
      exact cst_hget l 0 st st rfl (fun j s hj _ => by
        have : j < ops.size := by rw [← hC.len]; exact (List.getElem?_eq_some_iff.1 hj).1
        simp [hallX j this])
  intro fuel
  induction fuel with
  | zero =>
    intro listed E fr h a w hs hc hD hf hh C
    have hr : Region.ready .any ops listed = [] := by
      apply List.eq_nil_iff_forall_not_mem.2
      intro i hi
      have h1 := (mem_ready.1 hi).1
      have hil : i < listed.size := by
        rcases Nat.lt_or_ge i listed.size with h' | h'
        · exact h'
        · simp [Array.getElem?_eq_none h'] at h1
      have hm : false ∈ listed.toList := by
        simp [hil] at h1
        rw [← h1]; simp
      have := List.count_pos_iff.2 hm
      omega
    exact ⟨hr, hfin listed E fr h a w hs hr hD hf hh C⟩
  | succ fuel ih =>
    intro listed E fr h a w hs hc hD hf hh C
    refine ⟨fun hr => hfin listed E fr h a w hs hr hD hf hh C, fun i hi => ?_⟩
    obtain ⟨hun, o, ho, hpre⟩ := mem_ready.1 hi
    have hiN : i < ops.size := (Array.getElem?_eq_some_iff.1 ho).1
    have hil : i < listed.size := by omega
    have hunl : listed.getD i false = false := by simp [hil] at hun ⊢; exact hun
    obtain ⟨s, hsi⟩ : ∃ s, l[i]? = some s := ⟨l[i]'(by rw [hC.len]; exact hiN), by simp⟩
    obtain ⟨hdst, hstep, hins, hpre'⟩ := hC.step i s o hsi ho
    have hDi : ∀ j, ahead ops.toList 40 j i = true → listed.getD j false = true := fun j hj => ahead_spec hD 40 j i o ho hpre hj
    -- whoever clashes with i: listed just if ahead of it
    have hclash : ∀ j sj, l[j]? = some sj → (j < i → clash sj.rc s.rc = true) → (i < j → clash s.rc sj.rc = true) → j ≠ i → listed.getD j false = decide (j < i) := by
      intro j sj hj c1 c2 hne
      rcases Nat.lt_trichotomy j i with hlt | he | hgt
      · rw [hDi j (hord j i sj s hj hsi hlt (c1 hlt))]; simp [hlt]
      · exact absurd he hne
      · have hnl : ¬ j < i := by omega
        simp only [hnl, decide_false]
        cases hx : listed.getD j false with
        | false => rfl
        | true =>
          exfalso
          have hjN : j < ops.size := by rw [← hC.len]; exact (List.getElem?_eq_some_iff.1 hj).1
          have := ahead_spec hD 40 i j ops[j] (by simp [hjN]) (hD j ops[j] (by simp [hjN]) hx) (hord i j s sj hsi hj hgt (c2 hgt))
          rw [this] at hunl; cases hunl
    have hins' : ∀ p ∈ s.ins, fget fr p.1 = p.2 := fun p hp => by
      rw [hf p.1, ← hins p hp]
      refine cst_fget l 0 st st rfl (fun j sj hj hm => ?_)
      simp only [Nat.zero_add]
      by_cases hne : j = i
      · subst hne; rw [hunl]; simp
      · refine hclash j sj hj (fun _ => ?_) (fun _ => ?_) hne
        · simp only [clash, Bool.or_eq_true]
          exact .inl (.inl (.inl (.inl (.inr (meets_spec.2 ⟨p.1, by simpa [Stp.rc] using hm, by simp only [Stp.rc, List.mem_map]; exact ⟨p, hp, rfl⟩⟩)))))
        · simp only [clash, Bool.or_eq_true]
          exact .inl (.inl (.inl (.inr (meets_spec.2 ⟨p.1, by simp only [Stp.rc, List.mem_map]; exact ⟨p, hp, rfl⟩, by simpa [Stp.rc] using hm⟩))))
    have hobjs' : s.pre h := hpre' (fun j => listed.getD j false) ⟨hunl, fun j sj hj hne c1 c2 => hclash j sj hj c1 c2 hne⟩ h hh
    have hset : ∀ j, (listed.setIfInBounds i true).getD j false = if j = i then true else listed.getD j false := fun j => by
      by_cases e : j = i
      · subst e; simp [hil]
      · rw [if_neg e]
        simp only [Array.getD_eq_getD_getElem?]
        rw [Array.getElem?_setIfInBounds_ne (Ne.symm e)]
    have hXi : ∀ j, j ≠ i → (listed.setIfInBounds i true).getD j false = listed.getD j false := fun j hj => by rw [hset j, if_neg hj]
    have hnext : ∀ E' a' w', Conc G E' (dput o.dst s.v fr) (s.upd ++ h) a' w' → wpAny P .any ops Q fuel (listed.setIfInBounds i true) a' w' := fun E' a' w' C' => by
      refine ih (listed.setIfInBounds i true) E' _ _ a' w' (by simp [hs]) ?_ ?_ ?_ ?_ C'
      · have hf' : listed.toList[i]? = some false := by simp [hil] at hun ⊢; exact hun
        have hsp : listed.toList = listed.toList.take i ++ (false :: listed.toList.drop (i + 1)) := by
          exact split_at hf'
        have e1 : (listed.setIfInBounds i true).toList = listed.toList.take i ++ (true :: listed.toList.drop (i + 1)) := by
          rw [Array.toList_setIfInBounds, List.set_eq_take_append_cons_drop, if_pos (by simpa using hil)]
        rw [hsp] at hc
        rw [e1]
        simp only [List.count_append, List.count_cons] at hc ⊢
        simp at hc ⊢
        omega
      · intro j o' hj hX e he hb
        simp only [hset] at hX ⊢
        by_cases ej : e.on = i
        · rw [if_pos ej]
        · rw [if_neg ej]
          by_cases hji : j = i
          · subst hji
            rw [ho] at hj; cases hj
            exact hpre e he hb
          · rw [if_neg hji] at hX
            exact hD j o' hj hX e he hb
      · intro x
        by_cases hx : x ∈ s.dst.toList
        · -- i wrote it last
          have hsp : l = l.take i ++ (s :: l.drop (i + 1)) := split_at hsi
          have hlt : (l.take i).length = i := by rw [List.length_take, hC.len]; omega
          rw [hsp, cst_split, hlt]
          simp only [Nat.zero_add, cst]
          rw [if_pos (by rw [hset i]; simp)]
          rw [cst_none_f (l.drop (i + 1)) (i + 1)]
          · unfold Stp.app dput
            rw [hdst]
            rw [hdst] at hx
            cases hd : o.dst with
            | none => rw [hd] at hx; simp at hx
            | some d =>
              rw [hd] at hx
              simp only [Option.toList_some, List.mem_singleton] at hx
              subst hx
              simp only
              rw [fget_same, fget_same]
          · intro j sj hj hm
            rw [List.getElem?_drop] at hj
            rw [hXi _ (by omega)]
            have := hclash (i + 1 + j) sj hj (fun hlt => by omega) (fun _ => by
              simp only [clash, Bool.or_eq_true]
              exact .inl (.inl (.inl (.inl (.inl (meets_spec.2 ⟨x, by simpa [Stp.rc] using hx, by simpa [Stp.rc] using hm⟩)))))) (by omega)
            rw [this]; simp; omega
        · have e1 : fget (dput o.dst s.v fr) x = fget fr x := by
            have := fget_app_other (s := s) (st := (fr, h)) hx
            unfold Stp.app at this
            rw [hdst] at this; exact this
          rw [e1, hf x]
          refine cst_fget l 0 st st rfl (fun j sj hj hm => ?_)
          simp only [Nat.zero_add]
          by_cases hne : j = i
          · subst hne; rw [hsi] at hj; cases hj; exact absurd hm hx
          · rw [hXi j hne]
      · intro x
        by_cases hx : x ∈ s.upd.map Prod.fst
        · have hsp : l = l.take i ++ (s :: l.drop (i + 1)) := by
            have h' := (List.getElem?_eq_some_iff.1 hsi).2
            rw [← h']; simp
          have hlt : (l.take i).length = i := by rw [List.length_take, hC.len]; omega
          rw [hsp, cst_split, hlt]
          simp only [Nat.zero_add, cst]
          rw [if_pos (by rw [hset i]; simp)]
          rw [cst_none_h (l.drop (i + 1)) (i + 1)]
          · unfold Stp.app
            obtain ⟨ob, hob⟩ := hget_some hx
            rw [hget_append, hget_append, hob]
          · intro j sj hj hm
            rw [List.getElem?_drop] at hj
            rw [hXi _ (by omega)]
            have := hclash (i + 1 + j) sj hj (fun hlt => by omega) (fun _ => by
              simp only [clash, Bool.or_eq_true]
              exact .inl (.inl (.inr (meets_spec.2 ⟨x, hx, hm⟩)))) (by omega)
            rw [this]; simp; omega
        · have e1 : hget (s.upd ++ h) x = hget h x := by rw [hget_append, hget_none hx]
          rw [e1, hh x]
          refine cst_hget l 0 st st rfl (fun j sj hj hm => ?_)
          simp only [Nat.zero_add]
          by_cases hne : j = i
          · subst hne; rw [hsi] at hj; cases hj; exact absurd hm hx
          · rw [hXi j hne]
    have := hstep G E fr h a w (wpAny P .any ops Q fuel (listed.setIfInBounds i true)) Q hn C hins' hobjs' hnext
    unfold wpS at this
    unfold wpOp
    rw [ho]
    exact this
end
end Go.Proofs.Ytpaeihifcmohkaa
