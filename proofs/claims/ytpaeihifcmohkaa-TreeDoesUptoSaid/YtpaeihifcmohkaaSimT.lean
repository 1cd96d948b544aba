/-
  Sim: an argument that is read as something else: nil as a slice without elements.
-/
import Derived.Test.YtpaeihifcmohkaaSimS
namespace Go.Proofs.Ytpaeihifcmohkaa
open Go.RowKit

structure DLe (d d' : D) : Prop where
  size : d.size = d'.size
  rep : ∀ M w cs, d.Rep M w cs → d'.Rep M w cs
structure DLes (ds ds' : List D) : Prop where
  len : ds.length = ds'.length
  size : D.sizes ds = D.sizes ds'
  all : ∀ sz, (∀ x ∈ ds, x.size = sz) → ∀ x ∈ ds', x.size = sz
  reps : ∀ M w cs, D.Reps M w ds cs → D.Reps M w ds' cs
theorem DLe.refl (d : D) : DLe d d := ⟨rfl, fun _ _ _ h => h⟩
theorem DLe.nil (t : Bool) (sz : Nat) : DLe (.raw (.slice none 0 0)) (.sl t sz []) := ⟨rfl, fun M w cs h => by
  simp only [D.Rep] at h ⊢
  obtain ⟨rfl, _⟩ := h
  exact ⟨none, 0, [], by simp, by simp, by simp [maxLen], by simp, by simp [D.Reps], by simp⟩⟩
theorem DLes.nil : DLes [] [] := ⟨rfl, rfl, by simp, fun _ _ _ h => h⟩
theorem DLes.cons {d d' : D} {ds ds' : List D} (h1 : DLe d d') (h2 : DLes ds ds') : DLes (d :: ds) (d' :: ds') := by
  refine ⟨by simp [h2.len], by simp [D.sizes, h1.size, h2.size], fun sz hs x hx => ?_, fun M w cs h => ?_⟩
  · rcases List.mem_cons.1 hx with rfl | hx
    · rw [← h1.size]; exact hs d (by simp)
    · exact h2.all sz (fun y hy => hs y (by simp [hy])) x hx
  · simp only [D.Reps] at h ⊢
    obtain ⟨c, r, rfl, k1, k2⟩ := h
    exact ⟨c, r, rfl, h1.rep M w c k1, h2.reps M w r k2⟩
theorem DLe.agg {ds ds' : List D} (h : DLes ds ds') : DLe (.agg ds) (.agg ds') := ⟨by simp [D.size, h.size], fun M w cs k => by simp only [D.Rep] at k ⊢; exact h.reps M w cs k⟩
theorem DLe.sl {t : Bool} {sz : Nat} {ds ds' : List D} (h : DLes ds ds') : DLe (.sl t sz ds) (.sl t sz ds') := ⟨rfl, fun M w cs k => by
  simp only [D.Rep] at k ⊢
  obtain ⟨a, cap, us, rfl, h1, h2, h3, h4, h5⟩ := k
  exact ⟨a, cap, us, by rw [h.len], by rw [← h.len]; exact h1, h2, h.all sz h3, h.reps M w us h4, fun hne => h5 (by rintro rfl; exact hne (List.length_eq_zero_iff.1 h.len.symm))⟩⟩
structure VLe (v v' : V) : Prop where
  keys : v.keys = v'.keys
  rep : ∀ E h M w u, V.Rep E h M w v u → V.Rep E h M w v' u
theorem VLe.refl (v : V) : VLe v v := ⟨rfl, fun _ _ _ _ _ h => h⟩
theorem VLe.agg {ds ds' : List D} (h : DLes ds ds') : VLe (.d (.agg ds)) (.d (.agg ds')) := ⟨rfl, fun E hp M w u k => by
  simp only [V.Rep, D.RepV] at k ⊢
  obtain ⟨us, rfl, k⟩ := k
  exact ⟨us, rfl, h.reps M w us k⟩⟩
theorem VLe.sl {t : Bool} {sz : Nat} {ds ds' : List D} (h : DLes ds ds') : VLe (.d (.sl t sz ds)) (.d (.sl t sz ds')) := ⟨rfl, fun E hp M w u k => by
  simp only [V.Rep, D.RepV] at k ⊢
  exact (DLe.sl h).rep M w [u] k⟩
theorem VLe.nil (t : Bool) (sz : Nat) : VLe (.d (.raw (.slice none 0 0))) (.d (.sl t sz [])) := ⟨rfl, fun E hp M w u k => by
  simp only [V.Rep, D.RepV] at k ⊢
  exact (DLe.nil t sz).rep M w [u] k⟩
def VLes : List V → List V → Prop
  | [], [] => True
  | v :: vs, v' :: vs' => VLe v v' ∧ VLes vs vs'
  | _, _ => False
theorem VLes.keys : ∀ {vs vs' : List V}, VLes vs vs' → V.keyss vs = V.keyss vs'
  | [], [], _ => rfl
  | v :: vs, v' :: vs', h => by simp only [V.keyss, h.1.keys, VLes.keys h.2]
theorem VLes.reps {E : Env} {h : Hp} {M : Bars} {w : World} : ∀ {vs vs' : List V} {us : List Value}, VLes vs vs' → V.Reps E h M w vs us → V.Reps E h M w vs' us
  | [], [], _, _, r => r
  | v :: vs, v' :: vs', us, hl, r => by
    simp only [V.Reps] at r ⊢
    obtain ⟨x, y, rfl, h1, h2⟩ := r
    exact ⟨x, y, rfl, hl.1.rep _ _ _ _ _ h1, hl.2.reps h2⟩
theorem ACalls.le {P : Program} {f : FuncId} {args args' : List V} {h h' : Hp} {r : V} (hA : ACalls P f args' h r h') (hl : VLes args args') : ACalls P f args h r h' :=
  ⟨hA.ok, fun E w us o H hr hk ho hs => hA.run E w us o H (hl.reps hr) (by rw [← hl.keys]; exact hk) ho hs⟩
end Go.Proofs.Ytpaeihifcmohkaa
