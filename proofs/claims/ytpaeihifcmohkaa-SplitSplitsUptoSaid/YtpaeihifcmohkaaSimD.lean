/-
  Sim: code (sequence, branch, block, loop, region), what a call's contract says, and how it is come by.
-/
import Derived.Test.YtpaeihifcmohkaaSimV
set_option linter.unusedVariables false
set_option linter.unusedSimpArgs false
namespace Go.Proofs.Ytpaeihifcmohkaa
open Go.RowKit

section
variable {P : Program} {n : Nat}
theorem cst_take : ∀ (l : List Stp) (i k : Nat) (st : Fr × Hp), cst (fun j => decide (j < k + i)) l k st = cst (fun _ => true) (l.take i) k st
  | [], i, k, st => by simp [cst]
  | s :: r, 0, k, st => by
    simp only [List.take_zero, cst]
    rw [if_neg (by simp)]
    have : ∀ (r : List Stp) (m : Nat), k < m → cst (fun j => decide (j < k + 0)) r m st = st := by
      intro r
      induction r with
      | nil => intro m _; rfl
      | cons s r ih =>
        intro m hm
        simp only [cst]
        rw [if_neg (by simp; omega)]
        exact ih (m + 1) (by omega)
    exact this r (k + 1) (by omega)
  | s :: r, i + 1, k, st => by
    simp only [List.take_succ_cons, cst]
    rw [if_pos (by simp)]
    simp only [if_true]
    rw [← cst_take r i (k + 1)]
    congr 1
    funext j
    rw [show k + (i + 1) = k + 1 + i by omega]

/-- A step of the text's order: it reads objects as they stand, or one that stays so. -/
def StpOk (s : Stp) (fr : Fr) (h : Hp) (wr : Nat → Prop) (later : List Stp) : Prop :=
  (s.pre = (fun h => ∀ p ∈ s.objs, hget h p.1 = p.2) ∧ ∀ p ∈ s.objs, hget h p.1 = p.2) ∨
  (s.upd = [] ∧ ∃ k p, s.pre = okp k p ∧ okp k p h ∧ ¬ wr k ∧ ∀ sj ∈ later, ∀ q ∈ sj.upd, q.1 = k → p q.2)
def wrOf (log : List Rec) (l : List Stp) (k : Nat) : Prop := (∃ r ∈ log, k ∈ r.wk) ∨ ∃ s ∈ l, k ∈ s.upd.map Prod.fst
theorem dops_steps {dr : Bool} {ops : Array Oper} : ∀ (rest : List Oper) (log : List Rec) (K : Fr → Hp → Prop) (fr : Fr) (h : Hp) (k : Nat), dops P n dr ops rest log K fr h →
    ∃ l : List Stp, l.length = rest.length ∧ (∀ m s o, l[m]? = some s → rest[m]? = some o → s.dst = o.dst ∧ LStepP P n ops o s.ins s.pre s.v s.upd ∧
        (∀ p ∈ s.ins, fget (cst (fun _ => true) (l.take m) k (fr, h)).1 p.1 = p.2) ∧ StpOk s (cst (fun _ => true) (l.take m) k (fr, h)).1 (cst (fun _ => true) (l.take m) k (fr, h)).2 (wrOf log (l.take m)) (l.drop (m + 1))) ∧
      (dr = true → orderOk ops.toList (log.reverse ++ l.map Stp.rc) = true) ∧ K (cst (fun _ => true) l k (fr, h)).1 (cst (fun _ => true) l k (fr, h)).2
  | [], log, K, fr, h, k, hd => ⟨[], rfl, by simp, by simpa using hd.1, hd.2⟩
  | o :: rest, log, K, fr, h, k, hd => by
    have hwr : ∀ (s : Stp) (l : List Stp) (j : Nat), wrOf log (s :: l) j → wrOf (s.rc :: log) l j := fun s l j hw => by
      rcases hw with ⟨r, h1, h2⟩ | ⟨x, h1, h2⟩
      · exact .inl ⟨r, by simp [h1], h2⟩
      · rcases List.mem_cons.1 h1 with rfl | h1
        · exact .inl ⟨x.rc, by simp, by simpa [Stp.rc] using h2⟩
        · exact .inr ⟨x, h1, h2⟩
    have hok : ∀ {s s0 : Stp} {fr : Fr} {h : Hp} {l later : List Stp}, StpOk s fr h (wrOf (s0.rc :: log) l) later → StpOk s fr h (wrOf log (s0 :: l)) later := fun {s s0 fr h l later} hs => by
      rcases hs with hs | ⟨h1, j, p, h2, h3, h4, h5⟩
      · exact .inl hs
      · exact .inr ⟨h1, j, p, h2, h3, fun hw => h4 (hwr _ _ _ hw), h5⟩
    rcases hd with ⟨ins, objs, v, upd, hs, h1, h2, h3⟩ | ⟨ins, kk, p, v, hs, h1, h2, hlog, h3⟩
    · obtain ⟨l, g1, g2, g3, g4⟩ := dops_steps rest _ K _ _ (k + 1) h3
      refine ⟨⟨o.dst, ins, objs, v, upd, fun h => ∀ p ∈ objs, hget h p.1 = p.2⟩ :: l, by simp [g1], fun m s o' hm ho => ?_, fun hdr => ?_, ?_⟩
      · match m with
        | 0 =>
          simp only [List.getElem?_cons_zero, Option.some.injEq] at hm ho
          subst hm; subst ho
          exact ⟨rfl, hs, by simpa [cst] using h1, .inl ⟨rfl, by simpa [cst] using h2⟩⟩
        | m + 1 =>
          obtain ⟨k1, k2, k3, k4⟩ := g2 m s o' (by simpa using hm) (by simpa using ho)
          refine ⟨k1, k2, ?_, ?_⟩
          · simpa [cst, Stp.app] using k3
          · rw [List.take_succ_cons, List.drop_succ_cons]
            refine hok ?_
            simpa [cst, Stp.app, Stp.rc] using k4
      · have := g3 hdr
        simpa [Stp.rc] using this
      · simpa [cst, Stp.app] using g4
    · obtain ⟨l, g1, g2, g3, g4, u, hu, hup⟩ := dops_steps rest _ _ _ _ (k + 1) h3
      refine ⟨⟨o.dst, ins, [], v, [], okp kk p⟩ :: l, by simp [g1], fun m s o' hm ho => ?_, fun hdr => ?_, ?_⟩
      · match m with
        | 0 =>
          simp only [List.getElem?_cons_zero, Option.some.injEq] at hm ho
          subst hm; subst ho
          refine ⟨rfl, hs, by simpa [cst] using h1, .inr ⟨rfl, kk, p, rfl, by simpa [cst] using h2, ?_, fun sj hj q hq => ?_⟩⟩
          · rintro (⟨r, hr, hk⟩ | ⟨x, hx, _⟩)
            · exact hlog r hr hk
            · simp at hx
          · rw [cst_ups] at hu
            have := List.append_cancel_right hu
            subst this
            exact hup q (ups_mem (by simpa using hj) q hq)
        | m + 1 =>
          obtain ⟨k1, k2, k3, k4⟩ := g2 m s o' (by simpa using hm) (by simpa using ho)
          refine ⟨k1, k2, ?_, ?_⟩
          · simpa [cst, Stp.app] using k3
          · rw [List.take_succ_cons, List.drop_succ_cons]
            refine hok ?_
            simpa [cst, Stp.app, Stp.rc] using k4
      · have := g3 hdr
        simpa [Stp.rc] using this
      · simpa [cst, Stp.app] using g4

/-! ### Code -/
def lift (G : Ctx) (Q : Exit → Fr → Hp → Prop) : Exit → Act → World → Prop := fun e a w => ∃ E fr h, Q e fr h ∧ Conc G E fr h a w
def aw (P : Program) (n : Nat) (c : Code) (Q : Exit → Fr → Hp → Prop) (fr : Fr) (h : Hp) : Prop :=
  ∀ (G : Ctx) (E : Env) (a : Act) (w : World), G.n = n → Conc G E fr h a w → c.wp P (lift G Q) a w
variable {Q : Exit → Fr → Hp → Prop} {fr : Fr} {h : Hp}
theorem aw_mono {c : Code} {Q' : Exit → Fr → Hp → Prop} (hc : aw P n c Q fr h) (hq : ∀ e fr h, Q e fr h → Q' e fr h) : aw P n c Q' fr h :=
  fun G E a w hn C => wp_mono (hc G E a w hn C) fun _ _ _ ⟨E', fr', h', hq', C'⟩ => ⟨E', fr', h', hq _ _ _ hq', C'⟩
theorem aw_skip (hq : Q .normal fr h) : aw P n .skip Q fr h := fun _ E _ _ _ C => wp_skip ⟨E, fr, h, hq, C⟩
theorem aw_exit {id : Nat} (hq : Q (.exit id) fr h) : aw P n (.exit id) Q fr h := fun _ E _ _ _ C => wp_exit ⟨E, fr, h, hq, C⟩
theorem aw_ret (hq : Q .ret fr h) : aw P n .ret Q fr h := fun _ E _ _ _ C => wp_ret ⟨E, fr, h, hq, C⟩
theorem aw_label {l : Nat} (hq : Q .normal fr h) : aw P n (.label l) Q fr h := fun _ E _ _ _ C => wp_label ⟨E, fr, h, hq, C⟩
/-- What follows where x ends as usual. -/
def andThen (K : Fr → Hp → Prop) (Q : Exit → Fr → Hp → Prop) : Exit → Fr → Hp → Prop
  | .normal, fr, h => K fr h
  | e, fr, h => Q e fr h
theorem aw_seq {x y : Code} (hx : aw P n x (andThen (aw P n y Q) Q) fr h) : aw P n (.seq x y) Q fr h := fun G E a w hn C => by
  refine wp_seq (wp_mono (hx G E a w hn C) fun e a' w' ⟨E', fr', h', hq, C'⟩ => ?_)
  cases e with
  | normal => exact hq G E' a' w' hn C'
  | _ => exact ⟨E', fr', h', hq, C'⟩
def inBlock (id : Nat) (Q : Exit → Fr → Hp → Prop) : Exit → Fr → Hp → Prop
  | .exit id', fr, h => match Nat.beq id' id with
    | true => Q .normal fr h
    | false => Q (.exit id') fr h
  | e, fr, h => Q e fr h
theorem aw_block {id : Nat} {c : Code} (hc : aw P n c (inBlock id Q) fr h) : aw P n (.block id c) Q fr h := fun G E a w hn C => by
  refine wp_block (wp_mono (hc G E a w hn C) fun e a' w' ⟨E', fr', h', hq, C'⟩ => ?_)
  cases e with
  | exit id' =>
    simp only [inBlock] at hq
    by_cases e : id' = id
    · subst e
      rw [Nat.beq_refl] at hq
      simp only [Exit.inBlock, if_true]
      exact ⟨E', fr', h', hq, C'⟩
    · have : Nat.beq id' id = false := by cases q : Nat.beq id' id with | false => rfl | true => exact absurd (Nat.eq_of_beq_eq_true q) e
      rw [this] at hq
      simp only [Exit.inBlock, e, if_false]
      exact ⟨E', fr', h', hq, C'⟩
  | _ => exact ⟨E', fr', h', hq, C'⟩
def oev (fr : Fr) : Operand → V
  | .tmp t => fget fr t
  | .const (.agg cs) => .agg (cs.toList.map fun v => .d (.raw v))
  | .const (.tuple _) => .junk
  | .const v => .d (.raw v)
  | .global _ => .junk
  | .func f => .fn (.func f) [] []
/-- A branch: each way is walked under what was asked. -/
theorem aw_cond {c : Operand} {x y : Code} {t : Bool} (hc : oev fr c = .d (.raw (.bool t))) (ht : t = true → aw P n x Q fr h) (hf : t = false → aw P n y Q fr h) : aw P n (.cond c x y) Q fr h := fun G E a w hn C => by
  have hv : a.eval c = .bool t := by
    cases c with
    | tmp i =>
      have := C.frame i
      simp only [oev] at hc
      rw [hc] at this
      simpa [V.Rep, D.RepV, D.Rep, Act.eval] using this.1
    | const v => cases v <;> simp_all [oev, Act.eval]
    | global g => simp [oev] at hc
    | func f => simp [oev] at hc
  exact wp_cond_split hv (fun e => ht e G E a w hn C) (fun e => hf e G E a w hn C)
theorem aw_loop {X : Type} {c : Code} (S : X → Fr → Hp → Prop) (μ : X → Nat) (x0 : X) (h0 : S x0 fr h) (round : ∀ x fr h, S x fr h → aw P n c (andThen (fun fr h => ∃ x', S x' fr h ∧ μ x' < μ x) Q) fr h) : aw P n (.loop c) Q fr h := fun G E a w hn C => by
  intro b k cs
  have key : ∀ (m : Nat) (x : X) (fr : Fr) (h : Hp) (E : Env) (a : Act) (w : World), μ x = m → S x fr h → Conc G E fr h a w →
      ∃ e a' w', lift G Q e a' w' ∧ Arrives P (lone (b.at a (.code c :: .inLoop c :: k)) cs w) b k cs e a' w' := by
    intro m
    induction m using Nat.strongRecOn with
    | _ m ih =>
      intro x fr h E a w hm hS C
      obtain ⟨e, a₁, w₁, ⟨E', fr', h', hq, C'⟩, harr⟩ := round x fr h hS G E a w hn C b (.inLoop c :: k) cs
      cases e with
      | normal =>
        obtain ⟨x', hS', hlt⟩ := hq
        obtain ⟨e₂, a₂, w₂, hq₂, harr₂⟩ := ih (μ x') (hm ▸ hlt) x' fr' h' E' a₁ w₁ rfl hS' C'
        exact ⟨e₂, a₂, w₂, hq₂, .of_steps (Steps.trans harr (.one step_inLoop)) harr₂⟩
      | exit id => exact ⟨_, a₁, w₁, ⟨E', fr', h', hq, C'⟩, .pass (x := .inLoop c) rfl (fun _ _ => .inl (by simp)) harr⟩
      | goto l => exact ⟨_, a₁, w₁, ⟨E', fr', h', hq, C'⟩, .pass (x := .inLoop c) rfl (fun _ _ => .inl (by simp)) harr⟩
      | ret => exact ⟨_, a₁, w₁, ⟨E', fr', h', hq, C'⟩, .pass (x := .inLoop c) rfl (fun _ _ => .inl (by simp)) harr⟩
      | panic ch => exact ⟨_, a₁, w₁, ⟨E', fr', h', hq, C'⟩, .pass (x := .inLoop c) rfl (fun _ _ => .inl (by simp)) harr⟩
      | outgrown => exact ⟨_, a₁, w₁, ⟨E', fr', h', hq, C'⟩, .pass (x := .inLoop c) rfl (fun _ _ => .inl (by simp)) harr⟩
  obtain ⟨e, a', w', hq, harr⟩ := key _ x0 fr h E a w rfl h0 C
  exact ⟨e, a', w', hq, .of_steps (.one step_loop) harr⟩

theorem none_listed (N j : Nat) : (Array.replicate N false).getD j false = false := by
  simp only [Array.getD_eq_getD_getElem?, Array.getElem?_replicate]
  split <;> rfl
/-- A region. -/
theorem aw_region {id : Nat} {ops : Array Oper} {dr : Bool} (hm : P.follows .mixedOrders = true) (hd : dops P n dr ops ops.toList [] (Q .normal) fr h) : aw P n (.region id ops dr) Q fr h := fun G E a w hn C => by
  cases dr with
  | false => exact wp_region_list (dops_list hn _ _ _ (fun E fr h a w hq C => ⟨E, fr, h, hq, C⟩) E fr h a w hd C)
  | true =>
    obtain ⟨l, g1, g2, g3, g4⟩ := dops_steps _ _ _ fr h 0 hd
    refine wp_region_any hm ?_
    have hl : l.length = ops.size := by simpa using g1
    refine drawn_any (K := Q .normal) (G := G) (l := l) (st := (fr, h)) hn ⟨hl, fun i s o hi ho => ?_⟩ (by simpa using g3 rfl) g4 (fun E fr h a w hq C => ⟨E, fr, h, hq, C⟩) _ _ E fr h a _ (by simp) (by simp) ?_ ?_ ?_ C.drew
    · obtain ⟨k1, k2, k3, k4⟩ := g2 i s o hi (by simpa using ho)
      have e := cst_take l i 0 (fr, h)
      simp only [Nat.zero_add] at e
      refine ⟨k1, k2, by rw [e]; exact k3, fun X hF h' hh' => ?_⟩
      rcases k4 with ⟨q1, q2⟩ | ⟨q1, kk, p, q2, q3, q4, q5⟩
      · rw [q1]
        exact fair_objs hi (by rw [e]; exact q2) hF h' hh'
      · rw [q2]
        have hil : i < l.length := (List.getElem?_eq_some_iff.1 hi).1
        have hnw : ∀ j sj, l[j]? = some sj → j < i → kk ∉ sj.upd.map Prod.fst := fun j sj hj hlt hm => q4 (.inr ⟨sj, by
          have hj' := (List.getElem?_eq_some_iff.1 hj)
          rw [← hj'.2, List.mem_iff_getElem]
          exact ⟨j, by simp; omega, by simp⟩, hm⟩)
        have h0 : okp kk p (fr, h).2 := by
          obtain ⟨ob, r1, r2⟩ := q3
          refine ⟨ob, ?_, r2⟩
          rw [← e, cst_none_h l 0 (fr, h) (fun j sj hj hm => ?_)] at r1
          · exact r1
          · simp only [Nat.zero_add, decide_eq_false_iff_not]
            exact fun hlt => hnw j sj hj hlt hm
        obtain ⟨ob, r1, r2⟩ := cst_okp (X := X) (k := kk) (p := p) l 0 (fr, h) h0 (fun j sj hj _ q hq hk => by
          rcases Nat.lt_trichotomy j i with hlt | rfl | hgt
          · exact absurd (List.mem_map.2 ⟨q, hq, hk⟩) (hnw j sj hj hlt)
          · rw [hi] at hj; cases hj; rw [q1] at hq; cases hq
          · refine q5 sj ?_ q hq hk
            have hj' := (List.getElem?_eq_some_iff.1 hj)
            rw [← hj'.2, List.mem_iff_getElem]
            have hjl := hj'.1
            exact ⟨j - (i + 1), by simp; omega, by simp [show i + 1 + (j - (i + 1)) = j by omega]⟩)
        exact ⟨ob, by rw [hh' kk]; exact r1, r2⟩
    · intro j o hj hX
      simp only [none_listed] at hX
      cases hX
    · intro x
      rw [cst_none_f l 0 (fr, h) (fun j s _ _ => none_listed _ _)]
    · intro x
      rw [cst_none_h l 0 (fr, h) (fun j s _ _ => none_listed _ _)]

/-! ### Letting go -/
def FSub (fr : Fr) : Fr → Prop
  | [] => True
  | (i, v) :: r => fget fr i = v ∧ FSub fr r
def HSub (h : Hp) : Hp → Prop
  | [] => True
  | (k, o) :: r => hget h k = some o ∧ HSub h r
def hasKey (h : Hp) (k : Nat) : Bool := match hget h k with
  | some _ => true
  | none => false
mutual
def V.inside (h : Hp) : V → Bool
  | .d _ | .full .. | .eptr .. | .junk => true
  | .own k _ | .ptr k _ | .optr k _ _ _ => hasKey h k
  | .fn _ f c => V.insides h f && V.insides h c
  | .agg cs => V.insides h cs
  | .tup vs => V.insides h vs
def V.insides (h : Hp) : List V → Bool
  | [] => true
  | v :: r => v.inside h && V.insides h r
end
def Ob.inside (h : Hp) : Ob → Bool
  | .box _ cs => V.insides h cs
  | _ => true
def frIn (h : Hp) : Fr → Bool
  | [] => true
  | (_, v) :: r => v.inside h && frIn h r
def hpIn (h : Hp) : Hp → Bool
  | [] => true
  | (_, o) :: r => o.inside h && hpIn h r
theorem hasKey_spec {h : Hp} {k : Nat} : hasKey h k = true ↔ (hget h k).isSome = true := by
  unfold hasKey; cases hget h k <;> simp
mutual
theorem V.inside_spec {h : Hp} : ∀ {v : V}, v.inside h = true → ∀ k ∈ v.keys, (hget h k).isSome = true
  | .d _, _ => by simp [V.keys]
  | .full .., _ => by simp [V.keys]
  | .eptr .., _ => by simp [V.keys]
  | .junk, _ => by simp [V.keys]
  | .own k _, hi => by simp only [V.inside, hasKey_spec] at hi; simpa [V.keys] using hi
  | .ptr k _, hi => by simp only [V.inside, hasKey_spec] at hi; simpa [V.keys] using hi
  | .optr k _ _ _, hi => by simp only [V.inside, hasKey_spec] at hi; simpa [V.keys] using hi
  | .fn _ f c, hi => by
    simp only [V.inside, Bool.and_eq_true] at hi
    simp only [V.keys, List.mem_append]
    rintro k (hk | hk)
    · exact V.insides_spec hi.1 k hk
    · exact V.insides_spec hi.2 k hk
  | .agg cs, hi => by simp only [V.inside] at hi; simp only [V.keys]; exact V.insides_spec hi
  | .tup cs, hi => by simp only [V.inside] at hi; simp only [V.keys]; exact V.insides_spec hi
theorem V.insides_spec {h : Hp} : ∀ {vs : List V}, V.insides h vs = true → ∀ k ∈ V.keyss vs, (hget h k).isSome = true
  | [], _ => by simp [V.keyss]
  | v :: vs, hi => by
    simp only [V.insides, Bool.and_eq_true] at hi
    simp only [V.keyss, List.mem_append]
    rintro k (hk | hk)
    · exact V.inside_spec hi.1 k hk
    · exact V.insides_spec hi.2 k hk
end
theorem frIn_spec {h : Hp} : ∀ {fr : Fr}, frIn h fr = true → ∀ i, ∀ k ∈ (fget fr i).keys, (hget h k).isSome = true
  | [], _, i => by simp [fget, V.keys]
  | (j, v) :: r, hi, i => by
    simp only [frIn, Bool.and_eq_true] at hi
    simp only [fget]
    cases Nat.beq j i with
    | true => exact V.inside_spec hi.1
    | false => exact frIn_spec hi.2 i
theorem Ob.inside_spec {h : Hp} {o : Ob} (hi : o.inside h = true) : ∀ k ∈ o.keys, (hget h k).isSome = true := by
  cases o with
  | box ty cs => exact V.insides_spec hi
  | row _ _ _ => simp [Ob.keys]
  | froz _ _ => simp [Ob.keys]
  | dead _ => simp [Ob.keys]
theorem hpIn_spec {h : Hp} : ∀ {g : Hp}, hpIn h g = true → ∀ k o, hget g k = some o → ∀ j ∈ o.keys, (hget h j).isSome = true
  | [], _, k, o, hk => by simp [hget] at hk
  | (j, v) :: r, hi, k, o, hk => by
    simp only [hpIn, Bool.and_eq_true] at hi
    simp only [hget] at hk
    cases hb : Nat.beq j k with
    | true => rw [hb] at hk; cases hk; exact Ob.inside_spec hi.1
    | false => rw [hb] at hk; exact hpIn_spec hi.2 k o hk
section
variable {E : Env} {g : Hp} {o : Bars} {w : World}
theorem HRep.sub (H : HRep E h o w) (hs : HLe h g) (hc : hpIn g g = true) : HRep E g o w := by
  refine ⟨fun k ob hk => ?_, fun k k' b h1 h2 => H.apart k k' b (hs.blkOf h1) (hs.blkOf h2), fun k ob hk => hpIn_spec hc k ob hk⟩
  obtain ⟨o', h1, h2⟩ := hs.get k ob hk
  have hr := h2.rep (H.obs k o' h1)
  have T := HLe.trans (E := E) (o := o) (w := w) hs
  cases ob with
  | box ty cs =>
    obtain ⟨us, g1, g2, g3⟩ := hr
    exact ⟨us, g1, g2.move T (by have := H.closed k _ h1; rw [h2.keys] at this; exact this) (hpIn_spec hc k _ hk), g3⟩
  | row e sz xs => exact RowAt.move hr T.carry (fun _ _ => rfl)
  | froz sz xs => exact D.Rep.carry T.carry hr
  | dead _ => trivial
end
theorem Conc.weak {G : Ctx} {E : Env} {fr' : Fr} {h' : Hp} {a : Act} {w : World} (C : Conc G E fr h a w) (hf : FLe fr fr') (hh : HLe h h') (hi : (frIn h' fr' && hpIn h' h') = true) : Conc G E fr' h' a w := by
  simp only [Bool.and_eq_true] at hi
  have T := HLe.trans (E := E) (o := G.o) (w := w) hh
  refine ⟨C.size, C.defers, fun i => ?_, C.heap.sub hh hi.2, frIn_spec hi.1, C.ext, fun k b hb => C.fresh k b (hh.blkOf hb), fun k hk hs => ?_, C.outer, C.sub⟩
  · rcases hf.get i with e | e
    · rw [e]; simp [V.Rep]
    · have hc := frIn_spec hi.1 i
      exact (e.rep _ _ _ _ _ (C.frame i)).move T (by rw [← e.keys]; exact C.closed i) hc
  · obtain ⟨g0, g1, g2, g3⟩ := C.keep k hk (hh.isSome hs)
    refine ⟨g0, g1, fun m hm => ?_, fun sz n hv => g3 sz n (hh.verRow hv)⟩
    obtain ⟨m', k1, k2, k3⟩ := g2 m hm
    exact ⟨m', hh.verAny hs k1, k2, k3⟩
theorem aw_weak {c : Code} (fr' : Fr) (h' : Hp) (hf : FLe fr fr') (hh : HLe h h') (hi : (frIn h' fr' && hpIn h' h') = true) (hc : aw P n c Q fr' h') : aw P n c Q fr h :=
  fun G E a w hn C => hc G E a w hn (C.weak hf hh hi)
end
end Go.Proofs.Ytpaeihifcmohkaa
