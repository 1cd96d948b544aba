/-
  Sim: data, values and objects that are read as something else (nil as a slice without elements).
-/
import Derived.Test.YtpaeihifcmohkaaSimC
set_option linter.unusedVariables false
set_option linter.unusedSimpArgs false
namespace Go.Proofs.Ytpaeihifcmohkaa
open Go.RowKit

structure DLe (d d' : D) : Prop where
  size : d.size = d'.size
  rep : ∀ M w cs, d.Rep M w cs → d'.Rep M w cs
structure DLes (ds ds' : List D) : Prop where
  len : ds.length = ds'.length
  size : D.sizes ds = D.sizes ds'
  all : ∀ sz, (∀ x ∈ ds, x.size = sz) → ∀ x ∈ ds', x.size = sz
  reps : ∀ M w cs, D.Reps M w ds cs → D.Reps M w ds' cs
theorem DLe.refl (d : D) : DLe d d := ⟨rfl, fun _ _ _ h => h⟩
theorem DLe.nil (t : Bool) (sz : Nat) : DLe (.raw (.slice none 0 0)) (.sl t sz []) := ⟨rfl, fun M w cs h => by
  simp only [D.Rep] at h ⊢
  obtain ⟨rfl, _⟩ := h
  exact ⟨none, 0, [], by simp, by simp, by simp [maxLen], by simp, by simp [D.Reps], by simp⟩⟩
theorem DLes.nil : DLes [] [] := ⟨rfl, rfl, by simp, fun _ _ _ h => h⟩
theorem DLes.cons {d d' : D} {ds ds' : List D} (h1 : DLe d d') (h2 : DLes ds ds') : DLes (d :: ds) (d' :: ds') := by
  refine ⟨by simp [h2.len], by simp [D.sizes, h1.size, h2.size], fun sz hs x hx => ?_, fun M w cs h => ?_⟩
  · rcases List.mem_cons.1 hx with rfl | hx
    · rw [← h1.size]; exact hs d (by simp)
    · exact h2.all sz (fun y hy => hs y (by simp [hy])) x hx
  · simp only [D.Reps] at h ⊢
    obtain ⟨c, r, rfl, k1, k2⟩ := h
    exact ⟨c, r, rfl, h1.rep M w c k1, h2.reps M w r k2⟩
theorem DLe.agg {ds ds' : List D} (h : DLes ds ds') : DLe (.agg ds) (.agg ds') := ⟨by simp [D.size, h.size], fun M w cs k => by simp only [D.Rep] at k ⊢; exact h.reps M w cs k⟩
theorem DLe.sl {t : Bool} {sz : Nat} {ds ds' : List D} (h : DLes ds ds') : DLe (.sl t sz ds) (.sl t sz ds') := ⟨rfl, fun M w cs k => by
  simp only [D.Rep] at k ⊢
  obtain ⟨a, cap, us, rfl, h1, h2, h3, h4, h5⟩ := k
  exact ⟨a, cap, us, by rw [h.len], by rw [← h.len]; exact h1, h2, h.all sz h3, h.reps M w us h4, fun hne => h5 (by rintro rfl; exact hne (List.length_eq_zero_iff.1 h.len.symm))⟩⟩
structure VLe (v v' : V) : Prop where
  keys : v.keys = v'.keys
  rep : ∀ E h M w u, V.Rep E h M w v u → V.Rep E h M w v' u
theorem VLe.refl (v : V) : VLe v v := ⟨rfl, fun _ _ _ _ _ h => h⟩
theorem VLe.agg {ds ds' : List D} (h : DLes ds ds') : VLe (.d (.agg ds)) (.d (.agg ds')) := ⟨rfl, fun E hp M w u k => by
  simp only [V.Rep, D.RepV] at k ⊢
  obtain ⟨us, rfl, k⟩ := k
  exact ⟨us, rfl, h.reps M w us k⟩⟩
theorem VLe.sl {t : Bool} {sz : Nat} {ds ds' : List D} (h : DLes ds ds') : VLe (.d (.sl t sz ds)) (.d (.sl t sz ds')) := ⟨rfl, fun E hp M w u k => by
  simp only [V.Rep, D.RepV] at k ⊢
  exact (DLe.sl h).rep M w [u] k⟩
theorem VLe.nil (t : Bool) (sz : Nat) : VLe (.d (.raw (.slice none 0 0))) (.d (.sl t sz [])) := ⟨rfl, fun E hp M w u k => by
  simp only [V.Rep, D.RepV] at k ⊢
  exact (DLe.nil t sz).rep M w [u] k⟩
def VLes : List V → List V → Prop
  | [], [] => True
  | v :: vs, v' :: vs' => VLe v v' ∧ VLes vs vs'
  | _, _ => False
theorem VLes.keys : ∀ {vs vs' : List V}, VLes vs vs' → V.keyss vs = V.keyss vs'
  | [], [], _ => rfl
  | v :: vs, v' :: vs', h => by simp only [V.keyss, h.1.keys, VLes.keys h.2]
theorem VLes.reps {E : Env} {h : Hp} {M : Bars} {w : World} : ∀ {vs vs' : List V} {us : List Value}, VLes vs vs' → V.Reps E h M w vs us → V.Reps E h M w vs' us
  | [], [], _, _, r => r
  | v :: vs, v' :: vs', us, hl, r => by
    simp only [V.Reps] at r ⊢
    obtain ⟨x, y, rfl, h1, h2⟩ := r
    exact ⟨x, y, rfl, hl.1.rep _ _ _ _ _ h1, hl.2.reps h2⟩
theorem DLes.refl (ds : List D) : DLes ds ds := ⟨rfl, rfl, fun _ h => h, fun _ _ _ h => h⟩
theorem DLes.append {a a' b b' : List D} (h1 : DLes a a') (h2 : DLes b b') : DLes (a ++ b) (a' ++ b') := by
  refine ⟨by simp [h1.len, h2.len], ?_, fun sz hs x hx => ?_, fun M w cs h => ?_⟩
  · have hz : ∀ (p q : List D), D.sizes (p ++ q) = D.sizes p + D.sizes q := by
      intro p q
      induction p with
      | nil => simp [D.sizes]
      | cons x p ih => simp only [List.cons_append, D.sizes, ih]; omega
    rw [hz, hz, h1.size, h2.size]
  · rcases List.mem_append.1 hx with hx | hx
    · exact h1.all sz (fun y hy => hs y (by simp [hy])) x hx
    · exact h2.all sz (fun y hy => hs y (by simp [hy])) x hx
  · obtain ⟨k1, k2⟩ := D.Reps.split h
    have := (h1.reps M w _ k1).append (h2.reps M w _ k2)
    rwa [List.take_append_drop] at this
theorem DLe.of {a b : D} (e : a = b) : DLe a b := e ▸ DLe.refl a
theorem DLes.of {a b : List D} (e : a = b) : DLes a b := e ▸ DLes.refl a
theorem DLes.snoc {a b : List D} {x y : D} (e : b = a ++ [y]) (h : DLe x y) : DLes (a ++ [x]) b := by
  rw [e]; exact (DLes.refl a).append (.cons h .nil)
theorem VLe.of {a b : V} (e : a = b) : VLe a b := e ▸ VLe.refl a
theorem VLe.d {a b : D} (h : DLe a b) (hr : ∀ M w u, a.RepV M w u → b.RepV M w u) : VLe (.d a) (.d b) := ⟨rfl, fun E hp M w u k => by simp only [V.Rep] at k ⊢; exact hr M w u k⟩
theorem VLes.refl : ∀ (vs : List V), VLes vs vs
  | [] => trivial
  | v :: vs => ⟨.refl v, VLes.refl vs⟩
inductive OLe : Ob → Ob → Prop
  | box {ty : TypeId} {cs cs' : List V} (h : VLes cs cs') : OLe (.box ty cs) (.box ty cs')
  | row {e : TypeId} {sz : Nat} {xs xs' : List D} (h : DLes xs xs') : OLe (.row e sz xs) (.row e sz xs')
  | froz {sz : Nat} {xs xs' : List D} (h : DLes xs xs') : OLe (.froz sz xs) (.froz sz xs')
  | dead (n : Nat) : OLe (.dead n) (.dead n)
theorem OLe.refl : ∀ (o : Ob), OLe o o
  | .box _ _ => .box (VLes.refl _)
  | .row _ _ _ => .row (DLes.refl _)
  | .froz _ _ => .froz (DLes.refl _)
  | .dead _ => .dead _
theorem OLe.of {a b : Ob} (e : a = b) : OLe a b := e ▸ OLe.refl a
theorem OLe.keys {a b : Ob} (h : OLe a b) : a.keys = b.keys := by
  cases h with
  | box h => simpa [Ob.keys] using h.keys
  | _ => rfl
/-- An object of h, read as another one. -/
def HElt (h : Hp) (k : Nat) (o : Ob) : Prop := ∃ o', hget h k = some o' ∧ OLe o' o
theorem HElt.of {h : Hp} {k : Nat} {o : Ob} (e : hget h k = some o) : HElt h k o := ⟨o, e, .refl o⟩
def FLe (fr : Fr) : Fr → Prop
  | [] => True
  | (i, v) :: r => VLe (fget fr i) v ∧ FLe fr r
def HLe (h : Hp) : Hp → Prop
  | [] => True
  | (k, o) :: r => HElt h k o ∧ HLe h r
theorem FLe.get {fr : Fr} : ∀ {g : Fr}, FLe fr g → ∀ i, fget g i = .junk ∨ VLe (fget fr i) (fget g i)
  | [], _, _ => .inl rfl
  | (j, v) :: r, hs, i => by
    simp only [FLe] at hs
    simp only [fget]
    cases hb : Nat.beq j i with
    | true => have := Nat.eq_of_beq_eq_true hb; subst this; exact .inr hs.1
    | false => exact FLe.get hs.2 i
theorem HLe.get {h : Hp} : ∀ {g : Hp}, HLe h g → ∀ k o, hget g k = some o → HElt h k o
  | [], _, k, o, hk => by simp [hget] at hk
  | (j, v) :: r, hs, k, o, hk => by
    simp only [HLe] at hs
    simp only [hget] at hk
    cases hb : Nat.beq j k with
    | true => rw [hb] at hk; have := Nat.eq_of_beq_eq_true hb; subst this; cases hk; exact hs.1
    | false => rw [hb] at hk; exact HLe.get hs.2 k o hk
theorem HLe.isSome {h g : Hp} (hs : HLe h g) {k : Nat} (hk : (hget g k).isSome = true) : (hget h k).isSome = true := by
  obtain ⟨ob, hob⟩ := Option.isSome_iff_exists.1 hk
  obtain ⟨o', h1, _⟩ := hs.get k ob hob
  rw [h1]; rfl
theorem HLe.verAny {h g : Hp} (hs : HLe h g) {k m : Nat} (hk : (hget g k).isSome = true) (hv : verAny h k m) : verAny g k m := by
  obtain ⟨ob, hob⟩ := Option.isSome_iff_exists.1 hk
  obtain ⟨o', h1, h2⟩ := hs.get k ob hob
  unfold Proofs.Ytpaeihifcmohkaa.verAny at hv ⊢
  rw [h1] at hv
  rw [hob]
  cases h2 with
  | box _ => simp at hv
  | row hl =>
    rcases hv with ⟨_, _, _, h1, h2⟩ | ⟨_, _, h1, _⟩ | h1 <;> cases h1
    exact .inl ⟨_, _, _, rfl, hl.len.symm.trans h2⟩
  | froz hl =>
    rcases hv with ⟨_, _, _, h1, _⟩ | ⟨_, _, h1, h2⟩ | h1 <;> cases h1
    exact .inr (.inl ⟨_, _, rfl, hl.len.symm.trans h2⟩)
  | dead n => exact hv
theorem HLe.verRow {h g : Hp} (hs : HLe h g) {k sz m : Nat} (hv : verRow g k sz m) : verRow h k sz m := by
  obtain ⟨e, xs, h1, h2⟩ := hv
  obtain ⟨o', h3, h4⟩ := hs.get k _ h1
  cases h4 with
  | row hl => exact ⟨e, _, h3, hl.len.trans h2⟩
theorem HLe.blkOf {h g : Hp} {E : Env} (hs : HLe h g) {k b : Nat} (hb : blkOf E g k = some b) : blkOf E h k = some b := by
  unfold Proofs.Ytpaeihifcmohkaa.blkOf at hb ⊢
  cases hg : hget g k with
  | none => rw [hg] at hb; cases hb
  | some ob =>
    rw [hg] at hb
    obtain ⟨o', h1, h2⟩ := hs.get k ob hg
    rw [h1]
    cases h2 <;> exact hb
theorem OLe.rep {E : Env} {h : Hp} {M : Bars} {w : World} {k : Nat} {a b : Ob} (hl : OLe a b) (hr : ObRep E h M w k a) : ObRep E h M w k b := by
  cases hl with
  | box hl =>
    obtain ⟨us, g1, g2, g3⟩ := hr
    exact ⟨us, g1, hl.reps g2, g3⟩
  | row hl =>
    obtain ⟨h0, h1⟩ := hr
    refine ⟨hl.all _ h0, ?_⟩
    rcases h1 with ⟨a, h1, h2⟩ | ⟨g, off, cap, cur, h1, h2, h3, h4, h5, h6, h7⟩
    · subst h2
      exact .inl ⟨a, h1, List.length_eq_zero_iff.1 hl.len.symm⟩
    · exact .inr ⟨g, off, cap, cur, by rw [← hl.len]; exact h1, h2, h3, by rw [← hl.len]; exact h4, h5, h6, by rw [← hl.len]; exact hl.reps _ _ _ h7⟩
  | froz hl => exact (DLe.sl hl).rep _ _ _ hr
  | dead n => exact hr
theorem HLe.trans {h g : Hp} {E : Env} {o : Bars} {w : World} (hs : HLe h g) : Trans E h (bars E h o) w E g (bars E g o) w := by
  refine ⟨fun _ _ _ => rfl, fun k hk m hv => ⟨m, hs.verAny hk hv, Nat.le_refl _, fun _ => rfl⟩, fun k hk sz n hv => ⟨n, hs.verRow hv⟩, ⟨fun t b _ hm => ⟨rfl, ?_⟩, Nat.le_refl _⟩⟩
  rintro (⟨k, hk⟩ | ho)
  · exact hm (.inl ⟨k, hs.blkOf hk⟩)
  · exact hm (.inr ho)
end Go.Proofs.Ytpaeihifcmohkaa
