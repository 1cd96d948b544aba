/-
  Tokens: the walk of TokenBack: it returns true.
-/
import Derived.Test.YtpaeihifcmohkaaTB1
namespace Go.Proofs.Ytpaeihifcmohkaa
open Go.RowKit
set_option maxRecDepth 100000

theorem sorted_len {α : Type} (f : α → Int) : ∀ (l : List α) (a b : Int), (∀ x ∈ l, a ≤ f x ∧ f x < b) → a ≤ b → l.Pairwise (fun x y => f x < f y) → (l.length : Int) ≤ b - a
  | [], a, b, _, hab, _ => by simp; omega
  | x :: l, a, b, h, hab, hp => by
    have h1 := h x (by simp)
    rw [List.pairwise_cons] at hp
    have := sorted_len f l (f x + 1) b (fun y hy => ⟨by have := hp.1 y hy; omega, (h y (by simp [hy])).2⟩) (by omega) hp.2
    simp; omega
theorem scanR_bad (s : ByteArray) (h : (Old.scanR s).2.1 ≠ 0) : (Old.scanR s).1 = [] := by
  unfold Old.scanR at h ⊢
  split
  · rfl
  · rename_i hs
    rw [if_neg hs] at h
    have key : ∀ (n k : Nat) (acc : List Tk), (Old.scanG n s k acc).2.1 ≠ 0 → (Old.scanG n s k acc).1 = [] := by
      intro n
      induction n with
      | zero => intro k acc _; rfl
      | succ n ih =>
        intro k acc
        by_cases hk : k < s.size
        · cases hst : Old.stp s k with
          | tok t j => rw [Old.scanG_tok hk hst]; exact ih _ _
          | bad c => rw [Old.scanG_bad hk hst]; intro _; rfl
        · rw [Old.scanG_end hk]; intro h; exact absurd rfl h
    exact key _ _ _ h
theorem pcs_step (r : List Tk) (k : Nat) (h : k < r.length) : Old.pcs (r.take (k + 1)) = Old.pcs (r.take k) ++ Old.pc r[k] ++ Old.sep := by
  rw [List.take_succ_eq_append_getElem h, Old.pcs_snoc]
set_option maxHeartbeats 4000000 in
theorem tokenBack_sim (s : ByteArray) (hs : s.size ≤ maxLen) : ACalls Try.prog 4 [Str s] [] (B true) [] := by
  refine ACalls.intro (n := 132) Try.func4 rfl rfl (by simp) (by rfl) ?_
  simp only [argFr]
  repeat (first | refine wk ?_)
  refine s_call [] (hA := tokenBegun_sim) (hr := ?_)
  by_cases hl : (s.size : Int) > 2000
  · repeat (first | refine wk ?_)
    exact fin
  · repeat (first | refine wk ?_)
    refine s_call [] (hA := scan_sim s hs) (hr := ?_)
    have hg := Old.scanR_good s
    have hb := scanR_bad s
    generalize Old.scanR s = R at *
    obtain ⟨ts, c, a⟩ := R
    simp only at hg hb
    obtain ⟨hg, hp⟩ := hg
    have hlen : ts.length ≤ s.size := by
      have := sorted_len (fun t : Tk => (t.at_ : Int)) ts 0 s.size (fun t ht => ⟨by omega, by have := (hg t ht).2; omega⟩) (by omega) (hp.imp (by intro a b h; omega))
      omega
    by_cases hc : c = 0
    rotate_left
    · have e := hb hc
      subst e
      have hd : (!decide (c = 0)) = true := by simp [hc]
      repeat (first | refine wk ?_)
      exact fin
    subst hc
    repeat (first | refine wk ?_)
    refine t_loop (X := Nat) (fun k => k ≤ ts.length) (fun k => [(6, I k), (5, Str (Old.pcs (ts.take k))), (3, .d (tksD ts)), (0, Str s)]) (fun _ => []) (fun k => ts.length - k) 0 (Nat.zero_le _) ?_
    intro k hk
    by_cases hlt : k < ts.length
    · have e := pcs_step ts k hlt
      have hgk := (hg ts[k] (List.getElem_mem hlt)).1.pc
      have hsz := Old.pcs_len (r := ts.take k) (fun t ht => (hg t (List.mem_of_mem_take ht)).1)
      have hsz' : (Old.pcs (ts.take k)).size ≤ 38000 := by
        have : (ts.take k).length ≤ ts.length := by simp; omega
        omega
      by_cases hk2 : (ts[k].kind : Int) = 2
      · repeat (first | refine wk ?_)
        replace e := e.trans (congrArg (fun z => Old.pcs (ts.take k) ++ z ++ Old.sep) (show Old.pc ts[k] = Old.quo ++ ts[k].text ++ Old.quo by simp [Old.pc, hk2]))
        exact t_next (k + 1)
      · repeat (first | refine wk ?_)
        replace e := e.trans (congrArg (fun z => Old.pcs (ts.take k) ++ z ++ Old.sep) (show Old.pc ts[k] = ts[k].text by simp [Old.pc, hk2]))
        exact t_next (k + 1)
    · obtain rfl : k = ts.length := by omega
      simp only [List.take_length]
      have hgood : ∀ t ∈ ts, Old.GoodTk t := fun t ht => (hg t ht).1
      have hsz := Old.pcs_len hgood
      by_cases h6 : ((Old.pcs ts).size : Int) > 6000
      · repeat (first | refine wk ?_)
        exact fin
      · obtain ⟨rs, hr1, hr2⟩ := Old.scanR_pcs hgood (by omega)
        have hs2 := scan_sim (Old.pcs ts) (by unfold maxLen; omega)
        rw [hr1] at hs2
        have hrl : rs.length = ts.length := by simpa using congrArg List.length hr2
        repeat (first | refine wk ?_)
        refine s_call [] (hA := hs2) (hr := ?_)
        repeat (first | refine wk ?_)
        refine t_loop (X := Nat) (fun k => k ≤ ts.length) (fun k => [(9, I k), (7, .d (tksD rs)), (3, .d (tksD ts)), (0, Str s)]) (fun _ => []) (fun k => ts.length - k) 0 (Nat.zero_le _) ?_
        intro k hk
        by_cases hlt : k < ts.length
        · have hlt' : k < rs.length := by omega
          have hkt : Old.kt rs[k] = Old.kt ts[k] := by
            have := congrArg (fun l => l[k]?) hr2
            simpa [hlt, hlt'] using this
          simp only [Old.kt, Prod.mk.injEq] at hkt
          obtain ⟨h1, h2⟩ := hkt
          have h3 : (ts[k].at_ : Int) < s.size := by have := (hg ts[k] (List.getElem_mem hlt)).2; omega
          by_cases h0 : k = 0
          · subst h0
            repeat (first | refine wk ?_)
            exact t_next (0 + 1)
          · have hk1 : k - 1 < ts.length := by omega
            have h4 : (ts[k - 1].at_ : Int) < ts[k].at_ := by have := List.pairwise_iff_getElem.1 hp (k - 1) k hk1 hlt (by omega); omega
            have hj : ((k : Int) - 1) = ((k - 1 : Nat) : Int) := by omega
            repeat (first | refine wk ?_)
            exact t_next (k + 1)
        · repeat (first | refine wk ?_)
          exact fin
end Go.Proofs.Ytpaeihifcmohkaa
