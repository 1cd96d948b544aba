/-
  Chart: New, where there is a chart.
-/
import Derived.Test.YticnpbopelgmiaaChartK
set_option linter.unusedVariables false
set_option linter.unusedSimpArgs false
set_option linter.unusedSectionVars false
namespace Go.Proofs.Yticnpbopelgmiaa
open Go.RowKit
set_option maxRecDepth 100000
-- SimX

theorem listB_memC {is : List Bool} {x : Int} : x ∈ listB is ↔ has is x = true := by
  unfold listB has
  simp only [List.mem_map, List.mem_filter, List.mem_range, Bool.and_eq_true, decide_eq_true_eq]
  constructor
  · rintro ⟨k, ⟨h1, h2⟩, rfl⟩; exact ⟨by omega, by simpa using h2⟩
  · rintro ⟨h1, h2⟩
    refine ⟨x.toNat, ⟨?_, h2⟩, by omega⟩
    refine Classical.byContradiction fun h => ?_
    rw [List.getD_eq_getElem?_getD, List.getElem?_eq_none (by omega)] at h2
    cases h2
/-- What the list's first ones tell. -/
def flg (V : Nat) (l : List Int) (k : Nat) : List Bool := (List.range V).map fun (x : Nat) => decide ((x : Int) ∈ l.take k)
theorem flg_zero (V : Nat) (l : List Int) : flg V l 0 = List.replicate V false := by
  refine List.ext_getElem (by simp [flg]) fun k h1 h2 => ?_
  simp [flg]
theorem flg_step {V : Nat} {l : List Int} {k : Nat} {v : Nat} (hk : k < l.length) (hv : l[k] = (v : Int)) : (flg V l k).set v true = flg V l (k + 1) := by
  refine List.ext_getElem (by simp [flg]) fun x h1 h2 => ?_
  rw [List.getElem_set]
  simp only [flg, List.getElem_map, List.getElem_range]
  rw [List.take_succ_eq_append_getElem hk, hv]
  by_cases e : v = x
  · subst e; simp
  · rw [if_neg e]
    congr 1
    simp only [List.mem_append, List.mem_singleton, eq_iff_iff]
    exact ⟨.inl, fun h => h.elim id (fun h => by omega)⟩
theorem flg_end {is : List Bool} : flg is.length (listB is) (listB is).length = is := by
  refine List.ext_getElem (by simp [flg]) fun x h1 h2 => ?_
  simp only [flg, List.getElem_map, List.getElem_range, List.take_length]
  have : (x : Int) ∈ listB is ↔ is[x] = true := by
    rw [listB_memC, has_nat, List.getD_eq_getElem?_getD, List.getElem?_eq_getElem h2, Option.getD_some]
  cases hb : is[x] with
  | true => exact decide_eq_true (this.2 hb)
  | false => exact decide_eq_false (fun h => by rw [this.1 h] at hb; cases hb)
abbrev cxH2 (g : Gram) (w : List Int) (nl : List Bool) (N : Cube) : Hp := [(62, cxBx g w nl 60), (60, .mp (goodM N))]
theorem goodM_nil (N : Cube) : goodM N [] := fun x hx => by cases hx
set_option maxHeartbeats 8000000 in
theorem new_some {t u : Bool} {g : Gram} {w : List Int} (hC : ChOk g w) : ACalls Try.prog 84 [.d (gramD t g), .d (ints u w)] [] (.tup [.ptr 62 0, .d (faultD ⟨0, 0⟩)]) (cxH2 g w (nulB g) (wcns g w manyC)) := by
  have hg := hC.ok
  have hf := hg.fit
  have hgf := gramCheck_sim (t := t) (g := g) hf.rules hf.right
  rw [hg.fault] at hgf
  have hcy := cyclic_sim (t := t) hf
  rw [hg.fault, hC.cyc] at hcy
  have hnu := nullable_sim (t := t) hf
  rw [hg.fault, show nullL g = listB (nulB g) by unfold nullL; rw [if_pos (by rw [hg.fault])]] at hnu
  have hv := hg.vars
  have hv1 := hg.vars1
  have hrl := hg.rules
  have hnl : (nulB g).length = g.vars.toNat := leftsOf_len hg
  have hll := listB_le (nulB g)
  have hlin : ∀ k (h : k < (listB (nulB g)).length), ∃ v : Nat, (listB (nulB g))[k] = (v : Int) ∧ v < g.vars.toNat := fun k h => by
    have h1 := listB_memC.1 (List.getElem_mem h)
    have h2 := has_lt h1
    exact ⟨((listB (nulB g))[k]).toNat, by omega, by omega⟩
  have hown := gown_sim (t := t) hf
  have hcl := clone_sim (t := u) (xs := w) (by have := hC.len; omega)
  have hlen := hC.len
  have hsy := hC.syms
  have hend := flg_end (is := nulB g)
  rw [hnl] at hend hll
  have hst := fun k v => flg_step (V := g.vars.toNat) (l := listB (nulB g)) (k := k) (v := v)
  have hz := flg_zero g.vars.toNat (listB (nulB g))
  have hgd := goodM_nil (wcns g w manyC)
  have hfl : ∀ k, (flg g.vars.toNat (listB (nulB g)) k).length = g.vars.toNat := fun k => by simp [flg]
  obtain ⟨V, hVe⟩ : ∃ V : Nat, g.vars.toNat = V := ⟨_, rfl⟩
  have hVi : g.vars = (V : Int) := by omega
  generalize wcns g w manyC = N at *
  generalize listB (nulB g) = NL at *
  generalize nulB g = NB at *
  rw [hVe] at *
  refine ACalls.intro (n := 83) Try.func84 rfl rfl (by simp) (by rfl) ?_
  simp only [argFr]
  repeat (first | refine wk ?_ | refine s_field (hr := ?_))
  refine s_call [] (hA := hgf) (hr := ?_)
  repeat (first | refine wk ?_ | refine s_field (hr := ?_))
  --@
  refine t_loop (X := Nat) (fun k => k ≤ w.length) (fun k => [(28, I k), (27, I w.length), (26, .d (ints u w)), (5, .ptr 5 0), (2, .ptr 2 0), (1, .d (ints u w))]) (fun k => [(2, gramBox t g), (5, .box 33 [.d (iD 0), .d (iD 0)])]) (fun k => w.length - k) 0 (Nat.zero_le _) ?_
  intro k hk
  by_cases hlt : k < w.length
  · have h1 := hsy _ (List.getElem_mem hlt)
    have h2 : ¬ w[k] < 0 := by omega
    have h3 : ¬ g.terms ≤ w[k] := by omega
    repeat (first | refine wk ?_ | refine s_field (hr := ?_))
    exact t_next (k + 1)
  · repeat (first | refine wk ?_ | refine s_field (hr := ?_))
    refine s_call [] (hA := hcy) (hr := ?_)
    repeat (first | refine wk ?_ | refine s_field (hr := ?_))
    --@
    refine s_call [(900, 954)] (hA := hown) (hr := ?_)
    repeat (first | refine wk ?_ | refine s_field (hr := ?_))
    refine s_call [(5, 956)] (hA := hcl) (hr := ?_)
    repeat (first | refine wk ?_ | refine s_field (hr := ?_))
    --@
    refine d_makeMap rfl rfl gOk_none rfl ?_
    repeat (first | refine wk ?_ | refine s_field (hr := ?_))
    --@
    refine s_call [] (hA := hnu) (hr := ?_)
    repeat (first | refine wk ?_ | refine s_field (hr := ?_))
    refine aw_frozRow 62 3 954 rfl rfl rfl (by simp) ?_
    refine aw_frozRow 62 4 956 rfl rfl rfl (by simp) ?_
    refine aw_close 60 [] (goodM N) rfl hgd ?_
    --@
    have e : List.replicate V (bD false) = (flg V NL 0).map bD := by rw [hz, List.map_replicate]
    refine t_loop (X := Nat) (fun k => k ≤ NL.length) (fun k => [(70, I k), (69, I NL.length), (68, .d (ints false NL)), (11, .ptr 62 0), (5, .ptr 5 0)]) (fun k => [(5, .box 33 [.d (iD 0), .d (iD 0)]), (62, .box 168 [.d (iD g.vars), .d (iD g.terms), .d (iD g.start), .d (rulesD false g.rules), .d (ints false w), .own 59 V, .mapv 60]), (59, .row 4 1 ((flg V NL k).map bD)), (60, .mp (goodM N))]) (fun k => NL.length - k) 0 (Nat.zero_le _) ?_
    clear e
    intro k hk
    have hfk := hfl k
    by_cases hlt2 : k < NL.length
    · obtain ⟨v, hv1, hv2⟩ := hlin k hlt2
      have e : ((flg V NL k).map bD).set v (bD true) = (flg V NL (k + 1)).map bD := by rw [← List.map_set, hst k v hlt2 hv1]
      generalize flg V NL k = F1 at *
      repeat (first | refine wk ?_ | refine s_field (hr := ?_))
      --@
      exact t_next (k + 1)
    · obtain rfl : k = NL.length := by omega
      rw [hend]
      rw [hend] at hfk
      repeat (first | refine aw_frozRow 62 5 59 rfl rfl rfl (by simp [hfk]) ?_ | refine wk1 ?_)
      --@
      exact fin
end Go.Proofs.Yticnpbopelgmiaa
