/-
  Sim: a call, by the callee's contract: its numbers of objects are the caller's by a table.
-/
import Derived.Test.YtpaeihifcmohkaaSimK
set_option linter.unusedVariables false
set_option linter.unusedSimpArgs false
namespace Go.Proofs.Ytpaeihifcmohkaa
open Go.RowKit

/-! ### Other numbers -/
def renK : List (Nat × Nat) → Nat → Nat
  | [], k => k
  | (a, b) :: r, k => bif a == k then b else renK r k
mutual
def V.ren (φ : List (Nat × Nat)) : V → V
  | .d x => .d x
  | .full t sz es => .full t sz es
  | .own k n => .own (renK φ k) n
  | .ptr k off => .ptr (renK φ k) off
  | .eptr t sz es i off => .eptr t sz es i off
  | .optr k n i off => .optr (renK φ k) n i off
  | .fn f a c => .fn f (V.rens φ a) (V.rens φ c)
  | .agg cs => .agg (V.rens φ cs)
  | .tup vs => .tup (V.rens φ vs)
  | .junk => .junk
def V.rens (φ : List (Nat × Nat)) : List V → List V
  | [] => []
  | v :: r => v.ren φ :: V.rens φ r
end
def Ob.ren (φ : List (Nat × Nat)) : Ob → Ob
  | .box ty cs => .box ty (V.rens φ cs)
  | o => o
def Hp.ren (φ : List (Nat × Nat)) : Hp → Hp
  | [] => []
  | (k, o) :: r => (renK φ k, o.ren φ) :: Hp.ren φ r

/-- A callee's state c, as the caller's sees it. -/
structure Link (φ : List (Nat × Nat)) (Ec : Env) (hc : Hp) (E : Env) (h : Hp) : Prop where
  obj : ∀ k, (hget hc k).isSome = true → hget h (renK φ k) = (hget hc k).map (Ob.ren φ)
  blk : ∀ k, (hget hc k).isSome = true → Ec.blk k = E.blk (renK φ k)
  row : ∀ k, (hget hc k).isSome = true → Ec.row k = E.row (renK φ k)
section
variable {φ : List (Nat × Nat)} {Ec E : Env} {hc h : Hp}
theorem Link.any (L : Link φ Ec hc E h) {k m : Nat} (hk : (hget hc k).isSome = true) : verAny h (renK φ k) m ↔ verAny hc k m := by
  unfold verAny
  rw [L.obj k hk]
  obtain ⟨o, ho⟩ := Option.isSome_iff_exists.1 hk
  rw [ho]
  cases o <;> simp [Ob.ren]
theorem Link.rowv (L : Link φ Ec hc E h) {k sz m : Nat} (hk : (hget hc k).isSome = true) : verRow h (renK φ k) sz m ↔ verRow hc k sz m := by
  unfold verRow
  rw [L.obj k hk]
  obtain ⟨o, ho⟩ := Option.isSome_iff_exists.1 hk
  rw [ho]
  cases o <;> simp [Ob.ren]
mutual
/-- Data that is not handed on for a while only. -/
def D.clean : D → Prop
  | .raw _ => True
  | .sl t _ es => t = false ∧ D.cleans es
  | .agg fs => D.cleans fs
def D.cleans : List D → Prop
  | [] => True
  | d :: ds => d.clean ∧ D.cleans ds
end
mutual
def V.clean : V → Prop
  | .d x => x.clean
  | .full t _ es => t = false ∧ D.cleans es
  | .own _ _ | .ptr _ _ | .optr _ _ _ _ | .junk => True
  | .eptr t _ es _ _ => t = false ∧ D.cleans es
  | .fn _ a c => V.cleans a ∧ V.cleans c
  | .agg cs => V.cleans cs
  | .tup vs => V.cleans vs
def V.cleans : List V → Prop
  | [] => True
  | v :: r => v.clean ∧ V.cleans r
end
/-- Bars M allow what bars M' allow: of all data, or of what is clean. -/
def Allow (cl : Bool) (M M' : Bars) : Prop := (∀ b, ¬ M false b → ¬ M' false b) ∧ (cl = false → ∀ b, ¬ M true b → ¬ M' true b)
mutual
theorem D.Rep.allow {cl : Bool} {M M' : Bars} {w : World} (hA : Allow cl M M') : ∀ {d : D} {cs : List Value}, (cl = true → d.clean) → d.Rep M w cs → d.Rep M' w cs
  | .raw _, _, _, r => by simp only [D.Rep] at r ⊢; exact r
  | .agg fs, _, hc, r => by simp only [D.Rep] at r ⊢; exact D.Reps.allow hA (fun e => by simpa [D.clean] using hc e) r
  | .sl t sz es, _, hc, r => by
    simp only [D.Rep] at r ⊢
    obtain ⟨a, cap, us, h1, h2, h3, h4, h5, h6⟩ := r
    refine ⟨a, cap, us, h1, h2, h3, h4, D.Reps.allow hA (fun e => by have := hc e; simp only [D.clean] at this; exact this.2) h5, fun hne => ?_⟩
    obtain ⟨b, off, g1, g2, g3⟩ := h6 hne
    refine ⟨b, off, g1, ?_, g3⟩
    cases t with
    | false => exact hA.1 b g2
    | true =>
      cases cl with
      | false => exact hA.2 rfl b g2
      | true => have := hc rfl; simp [D.clean] at this
theorem D.Reps.allow {cl : Bool} {M M' : Bars} {w : World} (hA : Allow cl M M') : ∀ {ds : List D} {cs : List Value}, (cl = true → D.cleans ds) → D.Reps M w ds cs → D.Reps M' w ds cs
  | [], _, _, r => by simp only [D.Reps] at r ⊢; exact r
  | d :: ds, _, hc, r => by
    simp only [D.Reps] at r ⊢
    obtain ⟨c, q, h1, h2, h3⟩ := r
    exact ⟨c, q, h1, D.Rep.allow hA (fun e => by have := hc e; simp only [D.cleans] at this; exact this.1) h2, D.Reps.allow hA (fun e => by have := hc e; simp only [D.cleans] at this; exact this.2) h3⟩
end
theorem D.RepV.allow {cl : Bool} {M M' : Bars} {w : World} (hA : Allow cl M M') {d : D} {u : Value} (hc : cl = true → d.clean) (r : d.RepV M w u) : d.RepV M' w u := by
  cases d with
  | agg fs => obtain ⟨us, h1, h2⟩ := r; exact ⟨us, h1, h2.allow hA (fun e => by simpa [D.clean] using hc e)⟩
  | raw v => exact D.Rep.allow hA hc r
  | sl t sz es => exact D.Rep.allow hA hc r
mutual
/-- From the callee's to the caller's. -/
theorem V.Rep.ren (L : Link φ Ec hc E h) {cl : Bool} {M M' : Bars} {w : World} (hA : Allow cl M M') : ∀ {v : V} {u : Value}, (∀ k ∈ v.keys, (hget hc k).isSome = true) → (cl = true → v.clean) → V.Rep Ec hc M w v u → V.Rep E h M' w (v.ren φ) u
  | .d x, _, _, hcl, r => by simp only [V.ren, V.Rep] at r ⊢; exact r.allow hA (fun e => by simpa [V.clean] using hcl e)
  | .full t sz es, _, _, hcl, r => by
    simp only [V.ren, V.Rep] at r ⊢
    exact ⟨D.Rep.allow hA (fun e => by simpa [V.clean, D.clean] using hcl e) r.1, r.2⟩
  | .own k n, _, hk, _, r => by
    simp only [V.ren, V.Rep] at r ⊢
    have hkk := hk k (by simp [V.keys])
    obtain ⟨m, h1, h2, h3, h4⟩ := r
    exact ⟨m, (L.any hkk).2 h1, h2, h3, fun e => by rw [h4 e, L.row k hkk]⟩
  | .ptr k off, _, hk, _, r => by
    simp only [V.ren, V.Rep] at r ⊢
    rw [r, L.blk k (hk k (by simp [V.keys]))]
  | .eptr t sz es i off, _, _, hcl, r => by
    simp only [V.ren, V.Rep] at r ⊢
    obtain ⟨b, o, us, h1, h2, h3, h4, h5, h6⟩ := r
    refine ⟨b, o, us, h1, h2, h3, h4.allow hA (fun e => by have := hcl e; simp only [V.clean] at this; exact this.2), ?_, h6⟩
    cases t with
    | false => exact hA.1 b h5
    | true =>
      cases cl with
      | false => exact hA.2 rfl b h5
      | true => have := hcl rfl; simp [V.clean] at this
  | .optr k n i off, _, hk, _, r => by
    simp only [V.ren, V.Rep] at r ⊢
    have hkk := hk k (by simp [V.keys])
    obtain ⟨m, h1, h2, h3, h4⟩ := r
    refine ⟨m, (L.any hkk).2 h1, h2, h3, fun e sz hv => ?_⟩
    rw [← L.row k hkk]
    exact h4 e sz ((L.rowv hkk).1 hv)
  | .fn f a c, _, hk, hcl, r => by
    simp only [V.ren, V.Rep] at r ⊢
    obtain ⟨x, y, h1, h2, h3⟩ := r
    exact ⟨x, y, h1, V.Reps.ren L hA (fun k hx => hk k (by simp [V.keys, hx])) (fun e => by have := hcl e; simp only [V.clean] at this; exact this.1) h2, V.Reps.ren L hA (fun k hx => hk k (by simp [V.keys, hx])) (fun e => by have := hcl e; simp only [V.clean] at this; exact this.2) h3⟩
  | .agg cs, _, hk, hcl, r => by
    simp only [V.ren, V.Rep] at r ⊢
    obtain ⟨us, h1, h2, h3⟩ := r
    exact ⟨us, h1, V.Reps.ren L hA (fun k hx => hk k (by simpa [V.keys] using hx)) (fun e => by simpa [V.clean] using hcl e) h2, h3⟩
  | .tup cs, _, hk, hcl, r => by
    simp only [V.ren, V.Rep] at r ⊢
    obtain ⟨us, h1, h2⟩ := r
    exact ⟨us, h1, V.Reps.ren L hA (fun k hx => hk k (by simpa [V.keys] using hx)) (fun e => by simpa [V.clean] using hcl e) h2⟩
  | .junk, _, _, _, _ => by simp only [V.ren, V.Rep]
theorem V.Reps.ren (L : Link φ Ec hc E h) {cl : Bool} {M M' : Bars} {w : World} (hA : Allow cl M M') : ∀ {vs : List V} {us : List Value}, (∀ k ∈ V.keyss vs, (hget hc k).isSome = true) → (cl = true → V.cleans vs) → V.Reps Ec hc M w vs us → V.Reps E h M' w (V.rens φ vs) us
  | [], _, _, _, r => by simp only [V.rens, V.Reps] at r ⊢; exact r
  | v :: vs, _, hk, hcl, r => by
    simp only [V.rens, V.Reps] at r ⊢
    obtain ⟨x, y, h1, h2, h3⟩ := r
    exact ⟨x, y, h1, V.Rep.ren L hA (fun k hx => hk k (by simp [V.keyss, hx])) (fun e => by have := hcl e; simp only [V.cleans] at this; exact this.1) h2, V.Reps.ren L hA (fun k hx => hk k (by simp [V.keyss, hx])) (fun e => by have := hcl e; simp only [V.cleans] at this; exact this.2) h3⟩
end
mutual
/-- From the caller's to the callee's. -/
theorem V.Rep.unren (L : Link φ Ec hc E h) {M M' : Bars} {w : World} (hA : Allow false M' M) : ∀ {v : V} {u : Value}, (∀ k ∈ v.keys, (hget hc k).isSome = true) → V.Rep E h M' w (v.ren φ) u → V.Rep Ec hc M w v u
  | .d x, _, _, r => by simp only [V.ren, V.Rep] at r ⊢; exact r.allow hA (by simp)
  | .full t sz es, _, _, r => by
    simp only [V.ren, V.Rep] at r ⊢
    exact ⟨D.Rep.allow hA (by simp) r.1, r.2⟩
  | .own k n, _, hk, r => by
    simp only [V.ren, V.Rep] at r ⊢
    have hkk := hk k (by simp [V.keys])
    obtain ⟨m, h1, h2, h3, h4⟩ := r
    exact ⟨m, (L.any hkk).1 h1, h2, h3, fun e => by rw [h4 e, L.row k hkk]⟩
  | .ptr k off, _, hk, r => by
    simp only [V.ren, V.Rep] at r ⊢
    rw [r, L.blk k (hk k (by simp [V.keys]))]
  | .eptr t sz es i off, _, _, r => by
    simp only [V.ren, V.Rep] at r ⊢
    obtain ⟨b, o, us, h1, h2, h3, h4, h5, h6⟩ := r
    refine ⟨b, o, us, h1, h2, h3, h4.allow hA (by simp), ?_, h6⟩
    cases t with
    | false => exact hA.1 b h5
    | true => exact hA.2 rfl b h5
  | .optr k n i off, _, hk, r => by
    simp only [V.ren, V.Rep] at r ⊢
    have hkk := hk k (by simp [V.keys])
    obtain ⟨m, h1, h2, h3, h4⟩ := r
    refine ⟨m, (L.any hkk).1 h1, h2, h3, fun e sz hv => ?_⟩
    rw [L.row k hkk]
    exact h4 e sz ((L.rowv hkk).2 hv)
  | .fn f a c, _, hk, r => by
    simp only [V.ren, V.Rep] at r ⊢
    obtain ⟨x, y, h1, h2, h3⟩ := r
    exact ⟨x, y, h1, V.Reps.unren L hA (fun k hx => hk k (by simp [V.keys, hx])) h2, V.Reps.unren L hA (fun k hx => hk k (by simp [V.keys, hx])) h3⟩
  | .agg cs, _, hk, r => by
    simp only [V.ren, V.Rep] at r ⊢
    obtain ⟨us, h1, h2, h3⟩ := r
    exact ⟨us, h1, V.Reps.unren L hA (fun k hx => hk k (by simpa [V.keys] using hx)) h2, h3⟩
  | .tup cs, _, hk, r => by
    simp only [V.ren, V.Rep] at r ⊢
    obtain ⟨us, h1, h2⟩ := r
    exact ⟨us, h1, V.Reps.unren L hA (fun k hx => hk k (by simpa [V.keys] using hx)) h2⟩
  | .junk, _, _, _ => by simp only [V.Rep]
theorem V.Reps.unren (L : Link φ Ec hc E h) {M M' : Bars} {w : World} (hA : Allow false M' M) : ∀ {vs : List V} {us : List Value}, (∀ k ∈ V.keyss vs, (hget hc k).isSome = true) → V.Reps E h M' w (V.rens φ vs) us → V.Reps Ec hc M w vs us
  | [], _, _, r => by simp only [V.rens, V.Reps] at r ⊢; exact r
  | v :: vs, _, hk, r => by
    simp only [V.rens, V.Reps] at r ⊢
    obtain ⟨x, y, h1, h2, h3⟩ := r
    exact ⟨x, y, h1, V.Rep.unren L hA (fun k hx => hk k (by simp [V.keyss, hx])) h2, V.Reps.unren L hA (fun k hx => hk k (by simp [V.keyss, hx])) h3⟩
end
mutual
theorem V.ren_keys (φ : List (Nat × Nat)) : ∀ (v : V), (v.ren φ).keys = v.keys.map (renK φ)
  | .d _ => rfl
  | .full .. => rfl
  | .own _ _ => rfl
  | .ptr _ _ => rfl
  | .eptr .. => rfl
  | .optr .. => rfl
  | .fn _ a c => by simp only [V.ren, V.keys, V.rens_keys φ a, V.rens_keys φ c, List.map_append]
  | .agg cs => by simp only [V.ren, V.keys, V.rens_keys φ cs]
  | .tup cs => by simp only [V.ren, V.keys, V.rens_keys φ cs]
  | .junk => rfl
theorem V.rens_keys (φ : List (Nat × Nat)) : ∀ (vs : List V), V.keyss (V.rens φ vs) = (V.keyss vs).map (renK φ)
  | [] => rfl
  | v :: vs => by simp only [V.rens, V.keyss, V.ren_keys φ v, V.rens_keys φ vs, List.map_append]
end
theorem Ob.ren_keys (φ : List (Nat × Nat)) (o : Ob) : (o.ren φ).keys = o.keys.map (renK φ) := by
  cases o <;> simp [Ob.ren, Ob.keys, V.rens_keys]
theorem Link.blkOf (L : Link φ Ec hc E h) {k : Nat} (hk : (hget hc k).isSome = true) : blkOf Ec hc k = blkOf E h (renK φ k) := by
  unfold Proofs.Ytpaeihifcmohkaa.blkOf
  rw [L.obj k hk]
  obtain ⟨o, ho⟩ := Option.isSome_iff_exists.1 hk
  rw [ho]
  cases o with
  | box ty cs => simp [Ob.ren, L.blk k hk]
  | row e sz xs => simp [Ob.ren, L.row k hk]
  | _ => simp [Ob.ren]
end
theorem blkOf_some {E : Env} {h : Hp} {k b : Nat} (hb : blkOf E h k = some b) : (hget h k).isSome = true := by
  unfold blkOf at hb
  cases hh : hget h k with
  | none => rw [hh] at hb; cases hb
  | some _ => rfl

/-! ### Arguments -/
/-- The caller's value v, as the callee's c: as it is; as data (rows freeze: fz); as something that is only looked at during the call (vw). -/
inductive CArg (φ : List (Nat × Nat)) (h : Hp) : V → V → List (Nat × Option Ob) → Hp → List Nat → Prop
  | same {v c : V} (hv : c.ren φ = v) : CArg φ h v c [] [] []
  | emb {v : V} {x : D} {o : List (Nat × Option Ob)} {f : Hp} (he : EmbV h v x o f) : CArg φ h v (.d x) o f []
  | vwd {x y : D} (hy : x.view = y) : CArg φ h (.d x) (.d y) [] [] []
  | vw {k n sz : Nat} {e : TypeId} {xs ys : List D} (hk : hget h k = some (.row e sz xs)) (hn : xs.length = n) (hy : D.views xs = ys) : CArg φ h (.own k n) (.d (.sl true sz ys)) [(k, some (.row e sz xs))] [] [k]
inductive CArgs (φ : List (Nat × Nat)) (h : Hp) : List V → List V → List (Nat × Option Ob) → Hp → List Nat → Prop
  | nil : CArgs φ h [] [] [] [] []
  | cons {v c : V} {vs cs : List V} {o1 o2 : List (Nat × Option Ob)} {f1 f2 : Hp} {w1 w2 : List Nat} (h1 : CArg φ h v c o1 f1 w1) (h2 : CArgs φ h vs cs o2 f2 w2) : CArgs φ h (v :: vs) (c :: cs) (o1 ++ o2) (f1 ++ f2) (w1 ++ w2)
section
variable {φ : List (Nat × Nat)} {h : Hp}
theorem CArg.objs {v c : V} {o : List (Nat × Option Ob)} {f : Hp} {w : List Nat} (ha : CArg φ h v c o f w) : ObjsOk h o := by
  cases ha with
  | emb he => exact he.objs
  | vw hk hn _ => simpa [ObjsOk] using hk
  | _ => simp [ObjsOk]
theorem CArgs.objs {v c : List V} {o : List (Nat × Option Ob)} {f : Hp} {w : List Nat} (ha : CArgs φ h v c o f w) : ObjsOk h o := by
  induction ha with
  | nil => simp [ObjsOk]
  | cons h1 _ ih => exact ObjsOk.append.2 ⟨h1.objs, ih⟩
theorem CArg.fz {v c : V} {o : List (Nat × Option Ob)} {f : Hp} {w : List Nat} (ha : CArg φ h v c o f w) : FzOk h f := by
  cases ha with
  | emb he => exact he.fz
  | _ => simp [FzOk]
theorem CArgs.fz {v c : List V} {o : List (Nat × Option Ob)} {f : Hp} {w : List Nat} (ha : CArgs φ h v c o f w) : FzOk h f := by
  induction ha with
  | nil => simp [FzOk]
  | cons h1 _ ih => exact h1.fz.append ih
theorem CArg.of {h' : Hp} {v c : V} {o : List (Nat × Option Ob)} {f : Hp} {w : List Nat} (ha : CArg φ h v c o f w) (ho : ObjsOk h' o) : CArg φ h' v c o f w := by
  cases ha with
  | same hv => exact .same hv
  | emb he => exact .emb (he.of ho)
  | vwd hy => exact .vwd hy
  | vw hk hn hy => exact .vw (ho (_, _) (List.mem_singleton.2 rfl)) hn hy
theorem CArgs.of {h' : Hp} {v c : List V} {o : List (Nat × Option Ob)} {f : Hp} {w : List Nat} (ha : CArgs φ h v c o f w) (ho : ObjsOk h' o) : CArgs φ h' v c o f w := by
  induction ha with
  | nil => exact .nil
  | cons h1 _ ih => exact .cons (h1.of (ObjsOk.append.1 ho).1) (ih (ObjsOk.append.1 ho).2)
end
end Go.Proofs.Ytpaeihifcmohkaa
