/-
  Sim: the counter of frag.Check. Sim: frag.Check.
-/
import Derived.Test.YticnpbopelgmiaaQFrQ
import Derived.Test.YticnpbopelgmiaaQTreeB
set_option linter.unusedVariables false
set_option linter.unusedSimpArgs false
set_option linter.unusedSectionVars false
namespace Go.Proofs.Yticnpbopelgmiaa
open Go.RowKit
set_option maxRecDepth 100000
-- SimX

abbrev ctBox (t : Bool) (g : Gram) (k : Nat) (p : Int) (b : Bool) : Ob := .box 206 [.d (iD g.vars), .d (iD g.terms), .d (iD g.start), .d (rulesD t g.rules), .own 1001 k, I p, B b]
abbrev ctH (t : Bool) (g : Gram) (k : Nat) (p : Int) (b : Bool) (u : List Int) : Hp := [(1000, ctBox t g k p b), (1001, .row 3 1 (u.map iD))]
theorem CS.use_bad {s : CS} {n : Int} (h : s.bad = true ∨ n < 0 ∨ (s.u.length : Int) ≤ n) : s.use n = ⟨s.p, true, s.u⟩ := if_pos (by rcases h with h | h | h <;> simp [h])
theorem CS.use_ok {s : CS} {n : Int} (h1 : s.bad = false) (h2 : ¬ n < 0) (h3 : ¬ (s.u.length : Int) ≤ n) : s.use n = ⟨s.p, false, bump s.u n⟩ := if_neg (by rw [h1, decide_eq_false h2, decide_eq_false h3]; decide)
theorem or3_true {a : Bool} {n m : Int} (h : a = true ∨ n < 0 ∨ m ≤ n) : (a || (decide (n < 0) || decide (m ≤ n))) = true := by rcases h with h | h | h <;> simp [h]
theorem or3_false {a : Bool} {n m : Int} (h1 : a = false) (h2 : ¬ n < 0) (h3 : ¬ m ≤ n) : (a || (decide (n < 0) || decide (m ≤ n))) = false := by simp [h1]; omega
set_option maxHeartbeats 40000000 in
theorem clist_gen : ∀ (N : Nat) {t u : Bool} {l : List Frag} {g : Gram} {s : CS} {Z k m : Nat} {p : Int}, fszs l < N → g.rules.length = m → s.u.length = k → Upto Z s.u → Z + fszs l ≤ 100000000 → s.p + fszs l ≤ 100000000 → k ≤ 100000000 → m ≤ 100000000 → p = (s.p : Int) →
    ACalls Try.prog 164 [.ptr 1000 0, .d (fragsD t l)] (ctH u g k p s.bad s.u) (.tup []) (ctH u g k ((clL m l s).p : Int) (clL m l s).bad (clL m l s).u) := by
  intro N
  induction N with
  | zero => intro t u l g s Z k m p h; omega
  | succ N ih =>
  intro t u l g s Z k m p hn hgm hk hB hN hP hu hm hp
  have hl := Nat.le_trans (fszs_len l) (show fszs l ≤ 100000000 by omega)
  refine ACalls.intro (n := 109) Try.func164 rfl rfl (by simp) (by rfl) ?_
  simp only [argFr]
  repeat (first | refine wk ?_ | refine s_field (hr := ?_))
  refine t_loop (X := Nat × Int × CS) (fun x => x.1 ≤ l.length ∧ clL m l s = clL m (l.drop x.1) x.2.2 ∧ x.2.2.u.length = k ∧ Upto (Z + fszs (l.take x.1)) x.2.2.u ∧ x.2.2.p ≤ s.p + fszs (l.take x.1) ∧ x.2.1 = (x.2.2.p : Int)) (fun x => [(8, I x.1), (7, I l.length), (6, .d (fragsD t l)), (0, .ptr 1000 0)]) (fun x => ctH u g k x.2.1 x.2.2.bad x.2.2.u) (fun x => l.length - x.1) (0, p, s) ⟨Nat.zero_le _, rfl, hk, by simpa [fszs] using hB, by simp, hp⟩ ?_
  rintro ⟨i, q, v⟩ ⟨h1, h2, h3, h4, h5, h6⟩
  dsimp only at h1 h2 h3 h4 h5 h6 ⊢
  rw [h2]
  clear h2
  by_cases hlt : i < l.length
  · have e1 := fszs_take hlt
    have e2 := fsz_eq l[i]
    have e3 := fszs_mem (List.getElem_mem hlt)
    have e4 := fszs_split l i
    have e5 := fszs_drop hlt
    have s1 := clL_step (m := m) (s := v) hlt
    by_cases h60 : 60 < v.p + 1
    · rw [if_pos h60] at s1
      rw [s1]
      have e6 : ((v.p + 1 : Nat) : Int) = q + 1 := by omega
      rw [e6]
      repeat (first | refine wk ?_ | refine s_field (hr := ?_))
      exact fin
    rw [if_neg h60] at s1
    have s2 := clF_eq m l[i] ⟨v.p + 1, v.bad, v.u⟩
    have hq1 : q + 1 = ((v.p + 1 : Nat) : Int) := by omega
    by_cases o1 : l[i].op = 1
    · rw [if_pos o1] at s2
      by_cases hb : v.bad = true ∨ l[i].n < 0 ∨ (m : Int) ≤ l[i].n
      · rw [or3_true hb] at s2
        rw [s2] at s1
        have hih := ih (t := t) (u := u) (l := l[i].l) (g := g) (s := ⟨v.p + 1, true, v.u⟩) (Z := Z + fszs (l.take i)) (k := k) (m := m) (p := q + 1) (by omega) hgm h3 h4 (by omega) (by show v.p + 1 + fszs l[i].l ≤ _; omega) hu hm hq1
        have u0 := clL_len m l[i].l ⟨v.p + 1, true, v.u⟩
        have u1 := clL_upto m l[i].l ⟨v.p + 1, true, v.u⟩ _ h4
        have u2 := (clL_p m l[i].l ⟨v.p + 1, true, v.u⟩).2
        generalize clL m l[i].l ⟨v.p + 1, true, v.u⟩ = z at *
        dsimp only at u0 u1 u2 hih
        cases hvb : v.bad with
        | true =>
          repeat (first | refine wk ?_ | refine s_field (hr := ?_))
          refine s_call [] (hA := hih) (hr := ?_)
          repeat (first | refine wk ?_ | refine s_field (hr := ?_))
          exact t_next (i + 1, z.p, z) (a := ⟨by omega, s1, by rw [u0]; exact h3, u1.mono (by dsimp only; omega), by dsimp only; omega, rfl⟩) (b := by dsimp only; omega)
        | false =>
          have hb' : l[i].n < 0 ∨ (m : Int) ≤ l[i].n := hb.resolve_left (by rw [hvb]; decide)
          by_cases n1 : l[i].n < 0
          · repeat (first | refine wk ?_ | refine s_field (hr := ?_))
            rw [decide_eq_true n1]
            refine s_call [] (hA := hih) (hr := ?_)
            repeat (first | refine wk ?_ | refine s_field (hr := ?_))
            exact t_next (i + 1, z.p, z) (a := ⟨by omega, s1, by rw [u0]; exact h3, u1.mono (by dsimp only; omega), by dsimp only; omega, rfl⟩) (b := by dsimp only; omega)
          · have n2 : (m : Int) ≤ l[i].n := hb'.resolve_left n1
            repeat (first | refine wk ?_ | refine s_field (hr := ?_))
            rw [hgm, decide_eq_true n2]
            refine s_call [] (hA := hih) (hr := ?_)
            repeat (first | refine wk ?_ | refine s_field (hr := ?_))
            exact t_next (i + 1, z.p, z) (a := ⟨by omega, s1, by rw [u0]; exact h3, u1.mono (by dsimp only; omega), by dsimp only; omega, rfl⟩) (b := by dsimp only; omega)
      · have hvb : v.bad = false := by cases h : v.bad with | false => rfl | true => exact absurd (Or.inl h) hb
        have n1 : ¬ l[i].n < 0 := fun h => hb (.inr (.inl h))
        have n2 : ¬ (m : Int) ≤ l[i].n := fun h => hb (.inr (.inr h))
        rw [or3_false hvb n1 n2] at s2
        rw [s2] at s1
        have hih := ih (t := t) (u := u) (l := l[i].l) (g := g) (s := ⟨v.p + 1, false, v.u⟩) (Z := Z + fszs (l.take i)) (k := k) (m := m) (p := q + 1) (by omega) hgm h3 h4 (by omega) (by show v.p + 1 + fszs l[i].l ≤ _; omega) hu hm hq1
        have u0 := clL_len m l[i].l ⟨v.p + 1, false, v.u⟩
        have u1 := clL_upto m l[i].l ⟨v.p + 1, false, v.u⟩ _ h4
        have u2 := (clL_p m l[i].l ⟨v.p + 1, false, v.u⟩).2
        generalize clL m l[i].l ⟨v.p + 1, false, v.u⟩ = z at *
        dsimp only at u0 u1 u2 hih
        rw [hvb]
        repeat (first | refine wk ?_ | refine s_field (hr := ?_))
        rw [hgm, decide_eq_false n2]
        refine s_call [] (hA := hih) (hr := ?_)
        repeat (first | refine wk ?_ | refine s_field (hr := ?_))
        exact t_next (i + 1, z.p, z) (a := ⟨by omega, s1, by rw [u0]; exact h3, u1.mono (by dsimp only; omega), by dsimp only; omega, rfl⟩) (b := by dsimp only; omega)
    · rw [if_neg o1] at s2
      by_cases o24 : l[i].op = 2 ∨ l[i].op = 4
      · by_cases hb : v.bad = true ∨ l[i].n < 0 ∨ (k : Int) ≤ l[i].n
        · have hus : CS.use ⟨v.p + 1, v.bad, v.u⟩ l[i].n = ⟨v.p + 1, true, v.u⟩ := CS.use_bad (by rw [← h3] at hb; exact hb)
          rw [hus] at s2
          by_cases o2 : l[i].op = 2
          · rw [if_pos o2] at s2
            rw [s2] at s1
            cases hvb : v.bad with
            | true =>
              repeat (first | refine wk ?_ | refine s_field (hr := ?_))
              repeat (first | refine wk ?_ | refine s_field (hr := ?_))
              exact t_next (i + 1, q + 1, ⟨v.p + 1, true, v.u⟩) (a := ⟨by omega, s1, h3, h4.mono (by dsimp only; omega), by dsimp only; omega, by dsimp only; omega⟩) (b := by dsimp only; omega)
            | false =>
              have hb' : l[i].n < 0 ∨ (k : Int) ≤ l[i].n := hb.resolve_left (by rw [hvb]; decide)
              by_cases n1 : l[i].n < 0
              · repeat (first | refine wk ?_ | refine s_field (hr := ?_))
                rw [decide_eq_true n1]
                repeat (first | refine wk ?_ | refine s_field (hr := ?_))
                exact t_next (i + 1, q + 1, ⟨v.p + 1, true, v.u⟩) (a := ⟨by omega, s1, h3, h4.mono (by dsimp only; omega), by dsimp only; omega, by dsimp only; omega⟩) (b := by dsimp only; omega)
              · have n2 : (k : Int) ≤ l[i].n := hb'.resolve_left n1
                repeat (first | refine wk ?_ | refine s_field (hr := ?_))
                rw [h3, decide_eq_true n2]
                repeat (first | refine wk ?_ | refine s_field (hr := ?_))
                exact t_next (i + 1, q + 1, ⟨v.p + 1, true, v.u⟩) (a := ⟨by omega, s1, h3, h4.mono (by dsimp only; omega), by dsimp only; omega, by dsimp only; omega⟩) (b := by dsimp only; omega)
          · have o4 : l[i].op = 4 := by omega
            rw [if_neg o2, if_pos o4] at s2
            rw [s2] at s1
            have hih := ih (t := t) (u := u) (l := l[i].l) (g := g) (s := ⟨v.p + 1, true, v.u⟩) (Z := Z + fszs (l.take i)) (k := k) (m := m) (p := q + 1) (by omega) hgm h3 h4 (by omega) (by show v.p + 1 + fszs l[i].l ≤ _; omega) hu hm hq1
            have u0 := clL_len m l[i].l ⟨v.p + 1, true, v.u⟩
            have u1 := clL_upto m l[i].l ⟨v.p + 1, true, v.u⟩ _ h4
            have u2 := (clL_p m l[i].l ⟨v.p + 1, true, v.u⟩).2
            generalize clL m l[i].l ⟨v.p + 1, true, v.u⟩ = z at *
            dsimp only at u0 u1 u2 hih
            cases hvb : v.bad with
            | true =>
              repeat (first | refine wk ?_ | refine s_field (hr := ?_))
              repeat (first | refine wk ?_ | refine s_field (hr := ?_))
              refine s_call [] (hA := hih) (hr := ?_)
              repeat (first | refine wk ?_ | refine s_field (hr := ?_))
              exact t_next (i + 1, z.p, z) (a := ⟨by omega, s1, by rw [u0]; exact h3, u1.mono (by dsimp only; omega), by dsimp only; omega, rfl⟩) (b := by dsimp only; omega)
            | false =>
              have hb' : l[i].n < 0 ∨ (k : Int) ≤ l[i].n := hb.resolve_left (by rw [hvb]; decide)
              by_cases n1 : l[i].n < 0
              · repeat (first | refine wk ?_ | refine s_field (hr := ?_))
                rw [decide_eq_true n1]
                repeat (first | refine wk ?_ | refine s_field (hr := ?_))
                refine s_call [] (hA := hih) (hr := ?_)
                repeat (first | refine wk ?_ | refine s_field (hr := ?_))
                exact t_next (i + 1, z.p, z) (a := ⟨by omega, s1, by rw [u0]; exact h3, u1.mono (by dsimp only; omega), by dsimp only; omega, rfl⟩) (b := by dsimp only; omega)
              · have n2 : (k : Int) ≤ l[i].n := hb'.resolve_left n1
                repeat (first | refine wk ?_ | refine s_field (hr := ?_))
                rw [h3, decide_eq_true n2]
                repeat (first | refine wk ?_ | refine s_field (hr := ?_))
                refine s_call [] (hA := hih) (hr := ?_)
                repeat (first | refine wk ?_ | refine s_field (hr := ?_))
                exact t_next (i + 1, z.p, z) (a := ⟨by omega, s1, by rw [u0]; exact h3, u1.mono (by dsimp only; omega), by dsimp only; omega, rfl⟩) (b := by dsimp only; omega)
        · have hvb : v.bad = false := by cases h : v.bad with | false => rfl | true => exact absurd (Or.inl h) hb
          have n1 : ¬ l[i].n < 0 := fun h => hb (.inr (.inl h))
          have n2 : ¬ (k : Int) ≤ l[i].n := fun h => hb (.inr (.inr h))
          have hus : CS.use ⟨v.p + 1, v.bad, v.u⟩ l[i].n = ⟨v.p + 1, false, bump v.u l[i].n⟩ := CS.use_ok hvb n1 (by rw [← h3] at n2; exact n2)
          rw [hus] at s2
          have hnk : l[i].n = ((l[i].n.toNat : Nat) : Int) := by omega
          have hnl : l[i].n.toNat < v.u.length := by omega
          have hbr := bump_row hnl
          have hub := bump_upto (n := l[i].n) h4
          have hbl := bump_length v.u l[i].n
          have hvbd := h4 _ (List.getElem_mem hnl)
          rw [hvb]
          by_cases o2 : l[i].op = 2
          · rw [if_pos o2] at s2
            rw [s2] at s1
            repeat (first | refine wk ?_ | refine s_field (hr := ?_))
            rw [h3, decide_eq_false n2]
            exact t_next (i + 1, q + 1, ⟨v.p + 1, false, bump v.u l[i].n⟩) (a := ⟨by omega, s1, by rw [bump_length]; exact h3, hub.mono (by dsimp only; omega), by dsimp only; omega, by dsimp only; omega⟩) (b := by dsimp only; omega)
          · have o4 : l[i].op = 4 := by omega
            rw [if_neg o2, if_pos o4] at s2
            rw [s2] at s1
            have hih := ih (t := t) (u := u) (l := l[i].l) (g := g) (s := ⟨v.p + 1, false, bump v.u l[i].n⟩) (Z := Z + fszs (l.take i) + 1) (k := k) (m := m) (p := q + 1) (by omega) hgm (hbl.trans h3) hub (by omega) (by show v.p + 1 + fszs l[i].l ≤ _; omega) hu hm hq1
            have u0 := clL_len m l[i].l ⟨v.p + 1, false, bump v.u l[i].n⟩
            have u1 := clL_upto m l[i].l ⟨v.p + 1, false, bump v.u l[i].n⟩ _ hub
            have u2 := (clL_p m l[i].l ⟨v.p + 1, false, bump v.u l[i].n⟩).2
            generalize clL m l[i].l ⟨v.p + 1, false, bump v.u l[i].n⟩ = z at *
            dsimp only at u0 u1 u2 hih
            unfold ctH at hih
            rw [← hbr] at hih
            repeat (first | refine wk ?_ | refine s_field (hr := ?_))
            rw [h3, decide_eq_false n2]
            refine s_call [] (hA := hih) (hr := ?_)
            repeat (first | refine wk ?_ | refine s_field (hr := ?_))
            exact t_next (i + 1, z.p, z) (a := ⟨by omega, s1, by rw [u0, hbl]; exact h3, u1.mono (by dsimp only; omega), by dsimp only; omega, rfl⟩) (b := by dsimp only; omega)
      · have o2 : ¬ l[i].op = 2 := fun h => o24 (Or.inl h)
        have o4 : ¬ l[i].op = 4 := fun h => o24 (Or.inr h)
        rw [if_neg o2, if_neg o4] at s2
        by_cases o3 : l[i].op = 3
        · rw [if_pos o3] at s2
          rw [s2] at s1
          repeat (first | refine wk ?_ | refine s_field (hr := ?_))
          exact t_next (i + 1, q + 1, ⟨v.p + 1, v.bad, v.u⟩) (a := ⟨by omega, s1, h3, h4.mono (by dsimp only; omega), by dsimp only; omega, by dsimp only; omega⟩) (b := by dsimp only; omega)
        · rw [if_neg o3] at s2
          rw [s2] at s1
          repeat (first | refine wk ?_ | refine s_field (hr := ?_))
          exact t_next (i + 1, q + 1, ⟨v.p + 1, true, v.u⟩) (a := ⟨by omega, s1, h3, h4.mono (by dsimp only; omega), by dsimp only; omega, by dsimp only; omega⟩) (b := by dsimp only; omega)
  · rw [clL_end hlt, ← h6]
    repeat (first | refine wk ?_ | refine s_field (hr := ?_))
    exact fin
end Go.Proofs.Yticnpbopelgmiaa
namespace Go.Proofs.Yticnpbopelgmiaa
open Go.RowKit
set_option maxRecDepth 100000
-- SimX

theorem fragCheck1_sim {n : Int} : ACalls Try.prog 165 [I n] [] (B (!decide (n = 1))) [] := by
  refine ACalls.intro (n := 5) Try.func165 rfl rfl (by simp) (by rfl) ?_
  simp only [argFr]
  repeat (first | refine wk ?_ | refine s_field (hr := ?_))
  exact fin
set_option maxHeartbeats 4000000 in
theorem fragCheck_sim {t u : Bool} {old : Gram} {s : Step} (ho : old.fit) (hs : s.fit) : ACalls Try.prog 131 [.d (gramD t old), .d (stepD u s)] [] (.d (faultD (stepFault old s))) [] := by
  refine ACalls.intro (n := 109) Try.func131 rfl rfl (by simp) (by rfl) ?_
  simp only [argFr]
  have hf := hs.frags
  have he := hs.empty
  have hol := ho.rules
  have hgl := hs.g.rules
  have hor := ho.right
  have hgr := hs.g.right
  repeat (first | refine wk ?_ | refine s_field (hr := ?_))
  refine s_call [] (hA := gramCheck_sim) (hr := ?_)
  by_cases h0 : (gramFault old).code = 0
  rotate_left
  · rw [show stepFault old s = gramFault old by rw [stepFault, if_neg h0]]
    repeat (first | refine wk ?_ | refine s_field (hr := ?_))
    exact fin
  have hg := gram_ok h0
  repeat (first | refine wk ?_ | refine s_field (hr := ?_))
  refine s_call [] (hA := gramCheck_sim) (hr := ?_)
  by_cases h1 : (gramFault s.g).code = 0
  rotate_left
  · rw [show stepFault old s = gramFault s.g by rw [stepFault, if_pos h0, if_neg h1]]
    repeat (first | refine wk ?_ | refine s_field (hr := ?_))
    exact fin
  have hsg := gram_ok h1
  by_cases h2 : (s.empty.length : Int) > 200
  · rw [show stepFault old s = ⟨6, -1⟩ by rw [stepFault, if_pos h0, if_pos h1, if_neg (by omega)]]
    repeat (first | refine wk ?_ | refine s_field (hr := ?_))
    exact fin
  rw [show stepFault old s = if s.empty.any (badEmpty old) = true then ⟨13, -1⟩ else if s.frags.length = s.g.rules.length then sfirst old s.frags s.g.rules 0 else ⟨14, -1⟩ by rw [stepFault, if_pos h0, if_pos h1, if_pos (by omega)]]
  repeat (first | refine wk ?_ | refine s_field (hr := ?_))
  refine t_loop (X := Nat) (fun i => i ≤ s.empty.length ∧ ∀ j, j < i → ∀ (hj : j < s.empty.length), badEmpty old s.empty[j] = false) (fun i => [(35, I i), (34, I s.empty.length), (33, .d (treesD u s.empty)), (2, .ptr 2 0), (3, .ptr 3 0), (4, .ptr 4 0)]) (fun _ => [(2, gramBox t old), (3, stepBox u s), (4, .box 33 [.d (iD 0), .d (iD 0)])]) (fun i => s.empty.length - i) 0 ⟨Nat.zero_le _, fun _ h => by omega⟩ ?_
  · rintro i ⟨hi, hp⟩
    by_cases hlt : i < s.empty.length
    · have hc := hs.trees _ (List.getElem_mem hlt)
      repeat (first | refine wk ?_ | refine s_field (hr := ?_))
      refine s_call [] (hA := word_top_sim hol hor hc) (hr := ?_)
      by_cases h3 : (treeFault old s.empty[i] old.start).code = 0
      · have hw : wordR old s.empty[i] = wordT old s.empty[i] := by rw [wordR, if_pos h3]
        by_cases h4 : (0 : Int) < (wordT old s.empty[i]).length
        · rw [if_pos (any_at hlt (by rw [badEmpty, decide_eq_true h3, decide_eq_true (show 0 < _ by omega)]; rfl)), hw]
          repeat (first | refine wk ?_ | refine s_field (hr := ?_))
          exact fin
        · rw [hw]
          have hwl := wordT_le 10 hg.right s.empty[i]
          repeat (first | refine wk ?_ | refine s_field (hr := ?_))
          exact t_next (i + 1) (a := ⟨by omega, upto_succ hp (fun _ => by rw [badEmpty, decide_eq_true h3, decide_eq_false (show ¬ 0 < (wordT old s.empty[i]).length by omega)]; rfl)⟩)
      · rw [if_pos (any_at hlt (by simp [badEmpty, h3]))]
        repeat (first | refine wk ?_ | refine s_field (hr := ?_))
        exact fin
    · rw [if_neg (by rw [any_none (fun j hj => hp j (by omega) hj)]; simp)]
      by_cases h5 : s.frags.length = s.g.rules.length
      rotate_left
      · rw [if_neg h5]
        repeat (first | refine wk ?_ | refine s_field (hr := ?_))
        exact fin
      rw [if_pos h5]
      repeat (first | refine wk ?_ | refine s_field (hr := ?_))
      refine t_loop (X := Nat) (fun i => i ≤ s.g.rules.length ∧ sfirst old s.frags s.g.rules 0 = sfirst old (s.frags.drop i) (s.g.rules.drop i) i) (fun i => [(68, I i), (67, I s.g.rules.length), (66, .d (rulesD u s.g.rules)), (2, .ptr 2 0), (3, .ptr 3 0), (4, .ptr 4 0)]) (fun _ => [(2, gramBox t old), (3, stepBox u s), (4, .box 33 [.d (iD 0), .d (iD 0)])]) (fun i => s.g.rules.length - i) 0 ⟨Nat.zero_le _, rfl⟩ ?_
      rintro i ⟨hi, hp⟩
      by_cases hlr : i < s.g.rules.length
      · have hlt : i < s.frags.length := by omega
        have hfi := hs.frag _ (List.getElem_mem hlt)
        have hst := sfirst_step (old := old) hlt hlr
        have hgi := hgr _ (List.getElem_mem hlr)
        have hkl := kids_le s.g.rules[i].right
        have hcl := clist_gen _ (t := u) (u := t) (l := s.frags[i]) (g := old) (s := ⟨0, false, List.replicate (kids s.g.rules[i].right).length 0⟩) (Z := 0) (k := (kids s.g.rules[i].right).length) (m := old.rules.length) (p := 0) (Nat.lt_succ_self _) rfl (by simp) (fun x hx => by rw [(List.mem_replicate.1 hx).2]; omega) (by omega) (by simpa using hfi) (by omega) hol rfl
        have hcp := cl_part old s.frags[i] s.g.rules[i].right _ rfl
        have hcu := clL_upto old.rules.length s.frags[i] ⟨0, false, List.replicate (kids s.g.rules[i].right).length 0⟩ 0 (fun x hx => by rw [(List.mem_replicate.1 hx).2]; omega)
        have hcn := clL_len old.rules.length s.frags[i] ⟨0, false, List.replicate (kids s.g.rules[i].right).length 0⟩
        have hpp := (clL_p old.rules.length s.frags[i] ⟨0, false, List.replicate (kids s.g.rules[i].right).length 0⟩).2
        generalize clL old.rules.length s.frags[i] ⟨0, false, List.replicate (kids s.g.rules[i].right).length 0⟩ = z at *
        unfold ctH at hcl
        dsimp only at hcl hcn hpp
        rw [List.length_replicate] at hcn
        rw [List.map_replicate] at hcl
        repeat (first | refine wk ?_ | refine s_field (hr := ?_))
        refine s_call [(3, 900)] (hA := kids_sim) (hr := ?_)
        repeat (first | refine wk ?_ | refine s_field (hr := ?_))
        refine s_call [(1000, 79), (1001, 77)] (hA := hcl) (hr := ?_)
        by_cases c1 : 60 < z.p
        · rw [if_pos c1] at hcp
          rw [hcp, if_neg (by decide)] at hst
          rw [hp, hst]
          repeat (first | refine wk ?_ | refine s_field (hr := ?_))
          exact fin
        · rw [if_neg c1] at hcp
          cases hb : z.bad with
          | true =>
            rw [hb, Bool.true_or, if_pos rfl] at hcp
            rw [hcp, if_neg (by decide)] at hst
            rw [hp, hst]
            repeat (first | refine wk ?_ | refine s_field (hr := ?_))
            --@
            exact fin
          | false =>
            rw [hb, Bool.false_or] at hcp
            repeat (first | refine wk ?_ | refine s_field (hr := ?_))
            --@
            refine s_call [] (hA := containsFunc_sim (t := false) (clos := 165) (caps := []) (H := []) (p := fun n => !decide (n = 1)) Clo.nil (fun x _ => fragCheck1_sim)) (hr := ?_)
            cases hv : z.u.any (fun n => !decide (n = 1)) with
            | true =>
              rw [hv, if_pos rfl] at hcp
              rw [hcp, if_neg (by decide)] at hst
              rw [hp, hst]
              repeat (first | refine wk ?_ | refine s_field (hr := ?_))
              exact fin
            | false =>
              rw [hv, if_neg (by decide)] at hcp
              rw [hcp, if_pos rfl] at hst
              repeat (first | refine wk ?_ | refine s_field (hr := ?_))
              exact t_next (i + 1) (a := ⟨by omega, hp.trans hst⟩)
      · rw [hp, sfirst_end (by omega)]
        repeat (first | refine wk ?_ | refine s_field (hr := ?_))
        exact fin
end Go.Proofs.Yticnpbopelgmiaa
