/-
  Sim: rows within rows that are the call's own: what they become, and how an inner one is taken out for a while and put back.
-/
import Derived.Test.YtflgmalhpglklaaS5
set_option linter.unusedVariables false
set_option linter.unusedSimpArgs false
set_option linter.unusedSectionVars false
namespace Go.Proofs.Ytflgmalhpglklaa
open Go.RowKit

theorem NE.Reps.split {E : Env} {h : Hp} {M : Bars} {w : World} : ∀ {xs ys : List NE} {f : List Nat} {us : List Value}, NE.Reps E h M w (xs ++ ys) f us → ∃ f1 f2 u1 u2, f = f1 ++ f2 ∧ us = u1 ++ u2 ∧ NE.Reps E h M w xs f1 u1 ∧ NE.Reps E h M w ys f2 u2
  | [], _, f, us, r => ⟨[], f, [], us, rfl, rfl, by simp [NE.Reps], r⟩
  | .tr t :: xs, _, _, _, r => by
    simp only [NE.Reps, List.cons_append] at r
    obtain ⟨f1, f2, u, vs, rfl, rfl, r1, r2⟩ := r
    obtain ⟨g1, g2, u1, u2, rfl, rfl, q1, q2⟩ := NE.Reps.split r2
    exact ⟨f1 ++ g1, g2, u :: u1, u2, by simp, by simp, by simp only [NE.Reps]; exact ⟨f1, g1, u, u1, rfl, rfl, r1, q1⟩, q2⟩
  | .ref k n :: xs, _, _, _, r => by
    simp only [NE.Reps, List.cons_append] at r
    obtain ⟨u, vs, rfl, r1, r2⟩ := r
    obtain ⟨g1, g2, u1, u2, rfl, rfl, q1, q2⟩ := NE.Reps.split r2
    exact ⟨g1, g2, u :: u1, u2, rfl, by simp, by simp only [NE.Reps]; exact ⟨u, u1, rfl, r1, q1⟩, q2⟩
theorem NE.Reps.append {E : Env} {h : Hp} {M : Bars} {w : World} : ∀ {xs ys : List NE} {f1 f2 : List Nat} {u1 u2 : List Value}, NE.Reps E h M w xs f1 u1 → NE.Reps E h M w ys f2 u2 → NE.Reps E h M w (xs ++ ys) (f1 ++ f2) (u1 ++ u2)
  | [], _, _, _, _, _, r, q => by simp only [NE.Reps] at r; obtain ⟨rfl, rfl⟩ := r; simpa using q
  | .tr t :: xs, _, _, _, _, _, r, q => by
    simp only [NE.Reps, List.cons_append] at r ⊢
    obtain ⟨g1, g2, u, vs, rfl, rfl, r1, r2⟩ := r
    exact ⟨g1, _, u, _, by simp only [List.append_assoc], rfl, r1, NE.Reps.append r2 q⟩
  | .ref k n :: xs, _, _, _, _, _, r, q => by
    simp only [NE.Reps, List.cons_append] at r ⊢
    obtain ⟨u, vs, rfl, r1, r2⟩ := r
    exact ⟨u, _, rfl, r1, NE.Reps.append r2 q⟩
theorem NE.Reps.trs {E : Env} {h : Hp} {M : Bars} {w : World} : ∀ {ts : List Tr} {f : List Nat} {us : List Value}, NE.Reps E h M w (ts.map .tr) f us ↔ Tr.Reps M w ts f us
  | [], _, _ => by simp [NE.Reps, Tr.Reps]
  | t :: ts, _, _ => by simp only [List.map_cons, NE.Reps, Tr.Reps, NE.Reps.trs (ts := ts)]
theorem NE.Reps.one {E : Env} {h : Hp} {M : Bars} {w : World} : ∀ {xs : List NE} {f : List Nat} {us : List Value}, NE.Reps E h M w xs f us → ∀ u ∈ us, u.oneCell' = true
  | [], _, _, r => by simp only [NE.Reps] at r; obtain ⟨_, rfl⟩ := r; simp
  | .tr t :: xs, _, _, r => by
    simp only [NE.Reps] at r
    obtain ⟨f1, f2, u, vs, rfl, rfl, r1, r2⟩ := r
    intro x hx
    rcases List.mem_cons.1 hx with rfl | hx
    · exact r1.one
    · exact NE.Reps.one r2 x hx
  | .ref k n :: xs, _, _, r => by
    simp only [NE.Reps] at r
    obtain ⟨u, vs, rfl, r1, r2⟩ := r
    intro x hx
    rcases List.mem_cons.1 hx with rfl | hx
    · simp only [V.Rep] at r1; obtain ⟨_, _, _, h0, _⟩ := r1; exact h0
    · exact NE.Reps.one r2 x hx
theorem trs_keys (l : List Tr) : (l.map NE.tr).flatMap NE.keys = [] := by
  have := nes_keys l [] []
  simpa [nes] using this
theorem raws_reps_d {M : Bars} {w : World} : ∀ {us : List Value}, (∀ u ∈ us, u.oneCell' = true) → D.Reps M w (us.map D.raw) us
  | [], _ => by simp [D.Reps]
  | u :: us, h => by
    simp only [List.map_cons, D.Reps]
    exact ⟨[u], us, rfl, ⟨rfl, h u (by simp)⟩, raws_reps_d (fun x hx => h x (by simp [hx]))⟩
theorem raws_of_d {M : Bars} {w : World} : ∀ {us vs : List Value}, D.Reps M w (us.map D.raw) vs → vs = us
  | [], _, h => by simpa [D.Reps] using h
  | u :: us, _, h => by
    simp only [List.map_cons, D.Reps] at h
    obtain ⟨c, r, rfl, h1, h2⟩ := h
    simp only [D.Rep] at h1
    rw [h1.1, raws_of_d h2]; rfl

section
variable {G : Ctx} {E : Env} {fr : Fr} {h : Hp} {a : Act} {w : World}
/-- Some objects are others from now on, memory is as it was. -/
theorem Conc.regroup (C : Conc G E fr h a w) (E' : Env) (h2 : Hp) (S : Nat → Prop)
    (hoff : ∀ j, ¬ S j → hget h2 j = hget h j ∧ E'.blk j = E.blk j ∧ E'.row j = E.row j ∧ E'.fp j = E.fp j)
    (hmono : ∀ j, (hget h j).isSome = true → (hget h2 j).isSome = true)
    (hblk : ∀ j, (hget h j).isSome = true → E'.blk j = E.blk j)
    (hver : ∀ j m, S j → verAny h j m → ∃ m', verAny h2 j m' ∧ m ≤ m' ∧ (m = m' → E'.row j = E.row j))
    (hverR : ∀ j sz n, S j → (hget h j).isSome = true → verRow h2 j sz n → ∃ m, verRow h j sz m)
    (hown : ∀ j b, S j → blkOf E' h2 j b → ∃ i, S i ∧ blkOf E h i b)
    (hap : ∀ j j' b, S j → S j' → blkOf E' h2 j b → blkOf E' h2 j' b → j = j')
    (hobs : Trans E h (bars E h G.o) w E' h2 (bars E' h2 G.o) w → ∀ j, S j → ∀ ob, hget h2 j = some ob → ObRep E' h2 (bars E' h2 G.o) w j ob)
    (hcl : ∀ j, S j → ∀ ob, hget h2 j = some ob → ∀ i ∈ ob.keys, (hget h2 i).isSome = true)
    (hlow : ∀ j, 1000 ≤ j → (hget h2 j).isSome = true → (hget h j).isSome = true) : Conc G E' fr h2 a w := by
  have hbo : ∀ j, ¬ S j → ∀ b, blkOf E' h2 j b ↔ blkOf E h j b := fun j hj b => by
    obtain ⟨q1, q2, q3, q4⟩ := hoff j hj
    unfold blkOf; rw [q1, q2, q3, q4]
  have howner : ∀ j b, blkOf E' h2 j b → ∃ i, blkOf E h i b ∧ (S j → S i) ∧ (¬ S j → i = j) := fun j b hb => by
    by_cases hj : S j
    · obtain ⟨i, q1, q2⟩ := hown j b hj hb
      exact ⟨i, q2, fun _ => q1, fun q => absurd hj q⟩
    · exact ⟨j, (hbo j hj b).1 hb, fun q => absurd q hj, fun _ => rfl⟩
  have T : Trans E h (bars E h G.o) w E' h2 (bars E' h2 G.o) w := by
    refine ⟨fun j hj _ => hblk j hj, fun j _ m hv => ?_, fun j hj s n hv => ?_, fun t b _ hm => ⟨rfl, ?_⟩, Nat.le_refl _⟩
    · by_cases hj : S j
      · exact hver j m hj hv
      · obtain ⟨q1, _, q3, _⟩ := hoff j hj
        exact ⟨m, by unfold verAny; rw [q1]; exact hv, Nat.le_refl _, fun _ => q3⟩
    · by_cases hs : S j
      · exact hverR j s n hs hj hv
      · obtain ⟨q1, _⟩ := hoff j hs
        exact ⟨n, by unfold verRow at hv ⊢; rw [q1] at hv; exact hv⟩
    · rintro (⟨j, hj⟩ | ho)
      · obtain ⟨i, q, _⟩ := howner j b hj
        exact hm (.inl ⟨i, q⟩)
      · exact hm (.inr ho)
  refine ⟨C.size, C.defers, fun i => (C.frame i).move T (C.closed i) (fun j hj => hmono j (C.closed i j hj)), ⟨fun j ob hj => ?_, fun j j' b h1 h2' => ?_, fun j ob hj i hi => ?_⟩, fun i j hj => hmono j (C.closed i j hj), C.ext, fun j b hj => ?_, fun j hj hs => ?_, C.outer, C.sub⟩
  · by_cases hs : S j
    · exact hobs T j hs ob hj
    · obtain ⟨q1, q2, q3, q4⟩ := hoff j hs
      rw [q1] at hj
      exact (C.heap.obs j _ hj).move T hj q2 q3 q4 (fun _ _ => rfl) (C.heap.closed j _ hj) (fun i hi => hmono i (C.heap.closed j _ hj i hi))
  · obtain ⟨i, a1, a2, a3⟩ := howner j b h1
    obtain ⟨i', b1, b2, b3⟩ := howner j' b h2'
    have e := C.heap.apart i i' b a1 b1
    by_cases hs : S j
    · by_cases hs' : S j'
      · exact hap j j' b hs hs' h1 h2'
      · exact absurd (e ▸ a2 hs) (by rw [b3 hs']; exact hs')
    · by_cases hs' : S j'
      · exact absurd (e ▸ b2 hs') (by rw [a3 hs]; exact hs)
      · rw [← a3 hs, ← b3 hs', e]
  · by_cases hs : S j
    · exact hcl j hs ob hj i hi
    · rw [(hoff j hs).1] at hj
      exact hmono i (C.heap.closed j _ hj i hi)
  · obtain ⟨i, q, _⟩ := howner j b hj
    exact C.fresh i b q
  · have hold := hlow j hj hs
    obtain ⟨g0, g1, g2, g3⟩ := C.keep j hj hold
    refine ⟨g0, (hblk j hold).trans g1, fun m hm => ?_, fun s n hv => ?_⟩
    · obtain ⟨m1, k1, k2, k3⟩ := g2 m hm
      obtain ⟨m2, l1, l2, l3⟩ := T.ver j (hmono j hold) m1 k1
      exact ⟨m2, l1, by omega, fun e => (l3 (by omega)).trans (k3 (by omega))⟩
    · obtain ⟨m, hm⟩ := T.verR j hold s n hv
      exact g3 s m hm

/-- An object that may be a part of a row of rows, as such a part. -/
inductive IsTr : Ob → Tr → Nat → Prop
  | row {e : TypeId} {sz n : Nat} {xs : List D} (hn : xs.length = n) : IsTr (.row e sz xs) (.row e sz xs) n
  | nest {e : TypeId} {A : List Tr} {n : Nat} (hn : A.length = n) : IsTr (.nest e A [] []) (.node e A) n
theorem IsTr.ver {ob : Ob} {t : Tr} {n k : Nat} {h : Hp} (i : IsTr ob t n) (hk : hget h k = some ob) : verAny h k n := by
  cases i with
  | row hn => exact .inl ⟨_, _, _, hk, hn⟩
  | nest hn => exact .inr (.inr (.inr ⟨_, _, _, _, hk, by simpa using hn⟩))
def obFp (E : Env) (k : Nat) : Ob → List Nat
  | .row .. => (obOf (E.row k)).toList
  | .nest .. => (obOf (E.row k)).toList ++ E.fp k
  | _ => []
theorem IsTr.blk {ob : Ob} {t : Tr} {n k : Nat} (i : IsTr ob t n) (hk : hget h k = some ob) (b : Nat) : b ∈ obFp E k ob ↔ blkOf E h k b := by
  cases i <;> simp [blkOf, hk, obFp]
theorem IsTr.rep {ob : Ob} {t : Tr} {n k : Nat} {M : Bars} (i : IsTr ob t n) (hr : ObRep E h M w k ob) : Tr.Rep M w t (obFp E k ob) (E.row k) ∧ (obFp E k ob).Nodup := by
  cases i with
  | row hn =>
    simp only [ObRep] at hr
    simp only [Tr.Rep, obFp]
    exact ⟨⟨hr, trivial⟩, by cases obOf (E.row k) <;> simp⟩
  | @nest e A n hn =>
    simp only [ObRep, nes, List.map_nil, List.append_nil] at hr
    obtain ⟨us, r1, r2, r3⟩ := hr
    simp only [Tr.Rep, obFp]
    exact ⟨⟨us, E.fp k, r1, NE.Reps.trs.1 r2, rfl⟩, r3⟩
theorem verAny_dead {h : Hp} {k n : Nat} (hk : hget h k = some (.dead n)) : verAny h k n := .inr (.inr (.inl hk))
theorem verAny_nest {h : Hp} {k n : Nat} {e : TypeId} {A : List Tr} {r : List (Nat × Nat)} {B : List Tr} (hk : hget h k = some (.nest e A r B)) (hn : A.length + r.length + B.length = n) : verAny h k n := .inr (.inr (.inr ⟨e, A, r, B, hk, hn⟩))
theorem verRow_nest {h : Hp} {k n sz : Nat} {e : TypeId} {A : List Tr} {r : List (Nat × Nat)} {B : List Tr} (hk : hget h k = some (.nest e A r B)) (hv : verRow h k sz n) : sz = 1 ∧ A.length + r.length + B.length = n := by
  rcases hv with ⟨_, _, h1, _⟩ | ⟨_, _, _, _, h1, h2, h3⟩ <;> rw [hk] at h1 <;> cases h1
  exact ⟨h2, h3⟩
/-- What stands beside a row of rows becomes a part of it. -/
theorem Conc.absorb (C : Conc G E fr h a w) {K k0 n0 : Nat} {e : TypeId} {A B : List Tr} {ob : Ob} {t : Tr} (hK : hget h K = some (.nest e A [(k0, n0)] B)) (h0 : hget h k0 = some ob) (ht : IsTr ob t n0) :
    ∃ E', Conc G E' fr ((K, .nest e (A ++ t :: B) [] []) :: (k0, .dead n0) :: h) a w := by
  have hne : k0 ≠ K := by rintro rfl; rw [hK] at h0; cases h0; cases ht
  obtain ⟨us, r1, r2, r3⟩ := C.heap.obs K _ hK
  simp only [nes, List.map_cons, List.map_nil] at r2
  obtain ⟨f1, f2, u1, u2, hf, rfl, q1, q2⟩ := r2.split
  simp only [List.cons_append, List.nil_append, NE.Reps, V.Rep] at q2
  obtain ⟨u, u3, rfl, ⟨m, v1, v2, v3, v4⟩, q3⟩ := q2
  have em := verAny_one v1 (ht.ver h0)
  have hu : u = E.row k0 := v4 em.symm
  obtain ⟨t1, t2⟩ := ht.rep (C.heap.obs k0 _ h0)
  let F := f1 ++ (obFp E k0 ob ++ f2)
  let E' : Env := ⟨E.blk, E.row, fun j => if j = K then F else E.fp j⟩
  refine ⟨E', ?_⟩
  have hg1 : hget ((K, .nest e (A ++ t :: B) [] []) :: (k0, .dead n0) :: h) K = some (.nest e (A ++ t :: B) [] []) := hget_same _ _ _
  have hg2 : hget ((K, .nest e (A ++ t :: B) [] []) :: (k0, .dead n0) :: h) k0 = some (.dead n0) := by rw [hget_other _ _ hne.symm, hget_same]
  have hg3 : ∀ j, ¬ (j = K ∨ j = k0) → hget ((K, .nest e (A ++ t :: B) [] []) :: (k0, .dead n0) :: h) j = hget h j := fun j hj => by
    rw [hget_other _ _ (fun q => hj (.inl q.symm)), hget_other _ _ (fun q => hj (.inr q.symm))]
  generalize ((K, .nest e (A ++ t :: B) [] []) :: (k0, .dead n0) :: h : Hp) = h2 at hg1 hg2 hg3 ⊢
  have hmono : ∀ j, (hget h j).isSome = true → (hget h2 j).isSome = true := fun j hj => by
    by_cases e1 : j = K
    · subst e1; rw [hg1]; rfl
    · by_cases e2 : j = k0
      · subst e2; rw [hg2]; rfl
      · rw [hg3 j (by simp [e1, e2])]; exact hj
  have hKf : E'.fp K = F := by simp [E']
  refine C.regroup E' h2 (fun j => j = K ∨ j = k0) (fun j hj => ⟨hg3 j hj, rfl, rfl, by simp only [E', if_neg (fun q => hj (.inl q))]⟩) hmono (fun _ _ => rfl) (fun j m hj hv => ?_) (fun j sz n hj hs hv => ?_) (fun j b hj hb => ?_) (fun j j' b hj hj' h1 h2' => ?_) (fun T j hj ob' ho => ?_) (fun j hj ob' ho i hi => ?_) (fun j _ hj => ?_)
  · rcases hj with rfl | rfl
    · have := verAny_one hv (verAny_nest hK rfl)
      exact ⟨m, verAny_nest hg1 (by rw [this]; simp; omega), Nat.le_refl _, fun _ => rfl⟩
    · have := verAny_one hv (ht.ver h0)
      exact ⟨m, by rw [this]; exact verAny_dead hg2, Nat.le_refl _, fun _ => rfl⟩
  · rcases hj with rfl | rfl
    · obtain ⟨e1, e2⟩ := verRow_nest hg1 hv
      exact ⟨n, .inr ⟨_, _, _, _, hK, e1, by simp at e2 ⊢; omega⟩⟩
    · rcases hv with ⟨_, _, h1, _⟩ | ⟨_, _, _, _, h1, _⟩ <;> rw [hg2] at h1 <;> cases h1
  · rcases hj with rfl | rfl
    · unfold blkOf at hb
      rw [hg1] at hb
      simp only [hKf, F, List.mem_append] at hb
      rcases hb with hb | hb | hb | hb
      · exact ⟨j, .inl rfl, by simp [blkOf, hK]; exact .inl hb⟩
      · exact ⟨j, .inl rfl, by simp [blkOf, hK]; exact .inr (by rw [hf]; simp [hb])⟩
      · exact ⟨k0, .inr rfl, (ht.blk h0 b).1 hb⟩
      · exact ⟨j, .inl rfl, by simp [blkOf, hK]; exact .inr (by rw [hf]; simp [hb])⟩
    · unfold blkOf at hb; rw [hg2] at hb; cases hb
  · have nd : ∀ b, ¬ blkOf E' h2 k0 b := fun b hb => by unfold blkOf at hb; rw [hg2] at hb; cases hb
    rcases hj with rfl | rfl <;> rcases hj' with rfl | rfl
    · rfl
    · exact absurd h2' (nd b)
    · exact absurd h1 (nd b)
    · rfl
  · rcases hj with rfl | rfl
    · rw [hg1] at ho; cases ho
      simp only [ObRep]
      refine ⟨u1 ++ u :: u3, r1.move T.carry (fun _ _ => rfl), ?_, ?_⟩
      · rw [hKf]
        have hkk : ∀ l : List Tr, ∀ k ∈ (l.map NE.tr).flatMap NE.keys, (hget h k).isSome = true := fun l k hk => by rw [trs_keys] at hk; cases hk
        have hkk' : ∀ l : List Tr, ∀ k ∈ (l.map NE.tr).flatMap NE.keys, (hget h2 k).isSome = true := fun l k hk => by rw [trs_keys] at hk; cases hk
        have p1 := q1.move T (fun _ _ => rfl) (hkk A) (hkk' A)
        have p3 := q3.move T (fun _ _ => rfl) (hkk B) (hkk' B)
        have : nes (A ++ t :: B) [] [] = A.map NE.tr ++ (.tr t :: B.map .tr) := by simp [nes]
        rw [this]
        refine p1.append ?_
        simp only [NE.Reps]
        exact ⟨_, _, u, u3, rfl, rfl, by rw [hu]; exact t1.move T.carry (fun _ _ => rfl), p3⟩
      · rw [hKf]
        show ((obOf (E.row j)).toList ++ F).Nodup
        rw [hf] at r3
        have hd : ∀ b ∈ obFp E k0 ob, ∀ c ∈ (obOf (E.row j)).toList ++ (f1 ++ f2), c ≠ b := fun b hb c hc ecb => by
          subst ecb
          have q := (ht.blk h0 c).1 hb
          have q' : blkOf E h j c := by
            simp only [blkOf, hK]
            rcases List.mem_append.1 hc with hc | hc
            · exact .inl (by simpa using hc)
            · exact .inr (by rw [hf]; exact hc)
          exact hne (C.heap.apart _ _ c q q')
        have hp : ((obOf (E.row j)).toList ++ F).Perm (obFp E k0 ob ++ ((obOf (E.row j)).toList ++ (f1 ++ f2))) := by
          simp only [F]
          refine (List.Perm.append_left _ (List.perm_append_comm_assoc f1 (obFp E k0 ob) f2)).trans ?_
          exact List.perm_append_comm_assoc _ _ _
        rw [hp.nodup_iff, List.nodup_append]
        exact ⟨t2, r3, fun b hb c hc ebc => hd b hb c hc ebc.symm⟩
    · rw [hg2] at ho; cases ho; trivial
  · rcases hj with rfl | rfl
    · rw [hg1] at ho; cases ho; simp [Ob.keys] at hi
    · rw [hg2] at ho; cases ho; simp [Ob.keys] at hi
  · by_cases e1 : j = K
    · subst e1; rw [hK]; rfl
    · by_cases e2 : j = k0
      · subst e2; rw [h0]; rfl
      · rw [hg3 j (by simp [e1, e2])] at hj; exact hj
/-- A part of a row of rows stands beside it. -/
theorem Conc.focus (C : Conc G E fr h a w) {K k0 n0 i : Nat} {e : TypeId} {A : List Tr} {ob : Ob} {t : Tr} (hK : hget h K = some (.nest e A [] [])) (h0 : hget h k0 = none) (hlow : k0 < 1000) (hi : A[i]? = some t) (ht : IsTr ob t n0) :
    ∃ E', Conc G E' fr ((k0, ob) :: (K, .nest e (A.take i) [(k0, n0)] (A.drop (i + 1))) :: h) a w := by
  have hne : k0 ≠ K := by rintro rfl; rw [hK] at h0; cases h0
  obtain ⟨us, r1, r2, r3⟩ := C.heap.obs K _ hK
  have hA : A = A.take i ++ (t :: A.drop (i + 1)) := Proofs.Ytflgmalhpglklaa.split_at hi
  have hnes : nes A [] [] = (A.take i).map NE.tr ++ (.tr t :: (A.drop (i + 1)).map .tr) := by
    rw [show nes A [] [] = A.map NE.tr by simp [nes]]
    conv => lhs; rw [hA]
    simp
  rw [hnes] at r2
  obtain ⟨f1, f3, u1, u3, hf, rfl, q1, q2⟩ := r2.split
  simp only [NE.Reps] at q2
  obtain ⟨f0, f2, u, u2, rfl, rfl, q0, q2⟩ := q2
  -- what the part has as its own
  have hsub : ∃ g, f0 = (obOf u).toList ++ g ∧ (match ob with | .nest .. => True | _ => g = []) := by
    cases ht with
    | row hn => simp only [Tr.Rep] at q0; exact ⟨[], by simp [q0.2], rfl⟩
    | nest hn => simp only [Tr.Rep] at q0; obtain ⟨_, f', _, _, e1⟩ := q0; exact ⟨f', e1, trivial⟩
  obtain ⟨g, rfl, hgn⟩ := hsub
  let E' : Env := ⟨E.blk, fun j => if j = k0 then u else E.row j, fun j => if j = K then f1 ++ f2 else if j = k0 then g else E.fp j⟩
  refine ⟨E', ?_⟩
  have hg1 : hget ((k0, ob) :: (K, .nest e (A.take i) [(k0, n0)] (A.drop (i + 1))) :: h) k0 = some ob := hget_same _ _ _
  have hg2 : hget ((k0, ob) :: (K, .nest e (A.take i) [(k0, n0)] (A.drop (i + 1))) :: h) K = some (.nest e (A.take i) [(k0, n0)] (A.drop (i + 1))) := by rw [hget_other _ _ hne, hget_same]
  have hg3 : ∀ j, ¬ (j = K ∨ j = k0) → hget ((k0, ob) :: (K, .nest e (A.take i) [(k0, n0)] (A.drop (i + 1))) :: h) j = hget h j := fun j hj => by
    rw [hget_other _ _ (fun q => hj (.inr q.symm)), hget_other _ _ (fun q => hj (.inl q.symm))]
  generalize ((k0, ob) :: (K, .nest e (A.take i) [(k0, n0)] (A.drop (i + 1))) :: h : Hp) = h2 at hg1 hg2 hg3 ⊢
  have hmono : ∀ j, (hget h j).isSome = true → (hget h2 j).isSome = true := fun j hj => by
    by_cases e1 : j = K
    · subst e1; rw [hg2]; rfl
    · by_cases e2 : j = k0
      · subst e2; rw [hg1]; rfl
      · rw [hg3 j (by simp [e1, e2])]; exact hj
  have hil : i < A.length := (List.getElem?_eq_some_iff.1 hi).1
  have hlen : (A.take i).length + [(k0, n0)].length + (A.drop (i + 1)).length = A.length := by simp; omega
  have k1 : E'.fp K = f1 ++ f2 := by simp [E']
  have k2 : E'.fp k0 = g := by simp [E', hne]
  have k3 : E'.row k0 = u := by simp [E']
  have k4 : E'.row K = E.row K := by simp [E', hne.symm]
  have hmemf : ∀ b, b ∈ E.fp K ↔ b ∈ f1 ∨ (b ∈ (obOf u).toList ∨ b ∈ g) ∨ b ∈ f2 := fun b => by rw [hf]; simp only [List.mem_append]
  have hkb : ∀ b, blkOf E' h2 K b ↔ obOf (E.row K) = some b ∨ b ∈ f1 ∨ b ∈ f2 := fun b => by simp [blkOf, hg2, k1, k4]
  have h0b : ∀ b, blkOf E' h2 k0 b ↔ b ∈ (obOf u).toList ∨ b ∈ g := fun b => by
    cases ht with
    | row hn =>
      simp only at hgn
      subst hgn
      simp [blkOf, hg1, k3]
    | nest hn => simp [blkOf, hg1, k2, k3]
  have hnd := r3
  rw [hf] at hnd
  refine C.regroup E' h2 (fun j => j = K ∨ j = k0) (fun j hj => ⟨hg3 j hj, rfl, by simp only [E', if_neg (fun q => hj (.inr q))], by simp only [E', if_neg (fun q => hj (.inl q)), if_neg (fun q => hj (.inr q))]⟩) hmono (fun _ _ => rfl) (fun j m hj hv => ?_) (fun j sz n hj hs hv => ?_) (fun j b hj hb => ?_) (fun j j' b hj hj' h1 h2' => ?_) (fun T j hj ob' ho => ?_) (fun j hj ob' ho i' hi' => ?_) (fun j hj1 hj => ?_)
  · rcases hj with rfl | rfl
    · have := verAny_one hv (verAny_nest hK rfl)
      exact ⟨m, verAny_nest hg2 (by rw [hlen, this]; simp), Nat.le_refl _, fun _ => k4⟩
    · exact (noVer h0 hv).elim
  · rcases hj with rfl | rfl
    · obtain ⟨e1, e2⟩ := verRow_nest hg2 hv
      exact ⟨n, .inr ⟨_, _, _, _, hK, e1, by rw [hlen] at e2; simpa using e2⟩⟩
    · rw [h0] at hs; cases hs
  · refine ⟨K, .inl rfl, ?_⟩
    simp only [blkOf, hK]
    rcases hj with rfl | rfl
    · rcases (hkb b).1 hb with q | q | q
      · exact .inl q
      · exact .inr ((hmemf b).2 (.inl q))
      · exact .inr ((hmemf b).2 (.inr (.inr q)))
    · exact .inr ((hmemf b).2 (.inr (.inl ((h0b b).1 hb))))
  · have cross : ∀ b, blkOf E' h2 K b → blkOf E' h2 k0 b → False := fun b p q => by
      have q' := (h0b b).1 q
      have q'' : b ∈ (obOf u).toList ++ g := by simpa using q'
      rcases (hkb b).1 p with p | p | p
      · rw [List.nodup_append] at hnd
        exact hnd.2.2 b (by simp [p]) b (by simp only [List.mem_append]; exact .inr (.inl (by simpa using q'))) rfl
      · rw [List.nodup_append] at hnd
        have := hnd.2.1
        rw [List.nodup_append] at this
        exact this.2.2 b p b (by simp only [List.mem_append]; exact .inl (by simpa using q')) rfl
      · rw [List.nodup_append] at hnd
        have := hnd.2.1
        rw [List.nodup_append] at this
        have := this.2.1
        rw [List.nodup_append] at this
        exact this.2.2 b q'' b p rfl
    rcases hj with rfl | rfl <;> rcases hj' with rfl | rfl
    · rfl
    · exact (cross b h1 h2').elim
    · exact (cross b h2' h1).elim
    · rfl
  · have hkk : ∀ l : List Tr, ∀ k ∈ (l.map NE.tr).flatMap NE.keys, (hget h k).isSome = true := fun l k hk => by rw [trs_keys] at hk; cases hk
    have hkk' : ∀ l : List Tr, ∀ k ∈ (l.map NE.tr).flatMap NE.keys, (hget h2 k).isSome = true := fun l k hk => by rw [trs_keys] at hk; cases hk
    rcases hj with rfl | rfl
    · rw [hg2] at ho; cases ho
      simp only [ObRep]
      refine ⟨u1 ++ u :: u2, by rw [k4]; exact r1.move T.carry (fun _ _ => rfl), ?_, ?_⟩
      · rw [k1]
        simp only [nes, List.map_cons, List.map_nil, List.cons_append, List.nil_append]
        refine (q1.move T (fun _ _ => rfl) (hkk _) (hkk' _)).append ?_
        simp only [NE.Reps, V.Rep]
        exact ⟨u, u2, rfl, ⟨n0, ht.ver hg1, Nat.le_refl _, q0.one, fun _ => k3.symm⟩, q2.move T (fun _ _ => rfl) (hkk _) (hkk' _)⟩
      · rw [k1, k4]
        have hs : ((obOf (E.row j)).toList ++ (f1 ++ f2)).Sublist ((obOf (E.row j)).toList ++ (f1 ++ ((obOf u).toList ++ g ++ f2))) := by
          refine List.Sublist.append_left (List.Sublist.append_left ?_ _) _
          exact List.sublist_append_right _ _
        exact hs.nodup hnd
    · rw [hg1] at ho; cases ho
      have q0' := q0.move T.carry (fun _ _ => rfl)
      cases ht with
      | row hn =>
        simp only [Tr.Rep] at q0'
        simp only [ObRep]
        rw [k3]; exact q0'.1
      | @nest e' A' _ hn =>
        simp only [Tr.Rep] at q0'
        obtain ⟨us', f', p1, p2, p3⟩ := q0'
        have eg : g = f' := List.append_cancel_left p3
        simp only [ObRep]
        refine ⟨us', by rw [k3]; exact p1, ?_, ?_⟩
        · rw [k2, eg, show nes A' [] [] = A'.map NE.tr by simp [nes]]
          exact NE.Reps.trs.2 p2
        · rw [k2, k3]
          have hs : ((obOf u).toList ++ g).Sublist ((obOf (E.row K)).toList ++ (f1 ++ ((obOf u).toList ++ g ++ f2))) :=
            ((List.sublist_append_left _ _).trans (List.sublist_append_right _ _)).trans (List.sublist_append_right _ _)
          exact hs.nodup hnd
  · rcases hj with rfl | rfl
    · rw [hg2] at ho; cases ho; simp [Ob.keys] at hi'; subst hi'; rw [hg1]; rfl
    · rw [hg1] at ho; cases ho
      cases ht <;> simp [Ob.keys] at hi'
  · by_cases e1 : j = K
    · subst e1; rw [hK]; rfl
    · by_cases e2 : j = k0
      · omega
      · rw [hg3 j (by simp [e1, e2])] at hj; exact hj
end
section
variable {P : Program} {n : Nat} {Q : Exit → Fr → Hp → Prop} {fr : Fr} {h : Hp}
theorem aw_absorb {c : Code} (K : Nat) {k0 n0 : Nat} {e : TypeId} {A B : List Tr} {ob : Ob} {t : Tr} (hK : hget h K = some (.nest e A [(k0, n0)] B)) (h0 : hget h k0 = some ob) (ht : IsTr ob t n0)
    (hc : aw P n c Q fr ((K, .nest e (A ++ t :: B) [] []) :: (k0, .dead n0) :: h)) : aw P n c Q fr h := fun G E a w hn C => by
  obtain ⟨E', C'⟩ := C.absorb hK h0 ht
  exact hc G E' a w hn C'
theorem aw_focus {c : Code} (K k0 i : Nat) {n0 : Nat} {e : TypeId} {A : List Tr} {ob : Ob} {t : Tr} (hK : hget h K = some (.nest e A [] [])) (h0 : hget h k0 = none) (hlow : Nat.blt k0 1000 = true) (hi : A[i]? = some t) (ht : IsTr ob t n0)
    (hc : aw P n c Q fr ((k0, ob) :: (K, .nest e (A.take i) [(k0, n0)] (A.drop (i + 1))) :: h)) : aw P n c Q fr h := fun G E a w hn C => by
  obtain ⟨E', C'⟩ := C.focus hK h0 (by simpa [Nat.blt_eq] using hlow) hi ht
  exact hc G E' a w hn C'
/-- A row takes the number of one that is let go. -/
theorem aw_swap {c : Code} (i k k' : Nat) {m e sz : Nat} {xs : List D} (hi : fget fr i = .own k m) (hk : hget h k = some (.row e sz xs)) (hm : xs.length = m) (F : Fr) (H : Hp) (hk' : hget ((k, .row e sz xs) :: H) k' = none) (hlow : Nat.blt k' 1000 = true)
    (hI : (frIn ((k, .row e sz xs) :: H) ((i, .own k m) :: F) && hpIn ((k, .row e sz xs) :: H) ((k, .row e sz xs) :: H)) = true) (hf : FLe fr F) (hh : HLe h H)
    (hc : aw P n c Q ((i, .own k' m) :: (i, .own k m) :: F) ((k', .row e sz xs) :: (k, .dead m) :: (k, .row e sz xs) :: H)) : aw P n c Q fr h :=
  aw_weak ((i, .own k m) :: F) ((k, .row e sz xs) :: H) ⟨VLe.of hi, hf⟩ ⟨HElt.of hk, hh⟩ hI (aw_mv i k' (fget_same _ _ _) (hget_same _ _ _) hm hk' hlow hc)
end
end Go.Proofs.Ytflgmalhpglklaa
