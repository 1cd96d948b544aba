/-
  Forest, the reference: the rules of a nonterminal, one behind the other (plain). Forest, the reference: building.tree, given building.row.
-/
import Derived.Test.YtflgmalhpglklaaFoD
set_option linter.unusedVariables false
set_option linter.unusedSimpArgs false
set_option linter.unusedSectionVars false
namespace Go.Proofs.Ytflgmalhpglklaa
open Go.RowKit
set_option maxRecDepth 100000

/-- The rule where a number falls, in a list of rules. -/
def pickB (F : Nat → Nat) : List Int → Nat → Option (Nat × Nat)
  | [], _ => none
  | b :: l, k => if k < F b.toNat then some (b.toNat, k) else pickB F l (k - F b.toNat)
theorem pickB_byR {g : Gram} {N : Cube} {w : List Int} {v i j : Nat} : ∀ (rs : List Rule) (m k : Nat), g.rules.drop m = rs → pickB (fR g N w v i j) (byR rs (v : Int) m) k = pickF (fR g N w v i j) rs.length m k
  | [], m, k, h => rfl
  | r :: rs, m, k, h => by
    have hm : m < g.rules.length := Classical.byContradiction fun hn => by
      rw [List.drop_of_length_le (by omega)] at h; cases h
    rw [List.drop_eq_getElem_cons hm] at h
    obtain ⟨h1, h2⟩ := List.cons.inj h
    have ih := fun k => pickB_byR (g := g) (N := N) (w := w) (v := v) (i := i) (j := j) rs (m + 1) k h2
    simp only [byR, List.length_cons]
    by_cases e : r.left = (v : Int)
    · rw [if_pos e, pickB, pickF, Int.toNat_natCast, ih]
    · rw [if_neg e, ih, pickF_zero (fR_no hm (by rw [h1]; exact e))]
theorem pickB_by {g : Gram} {N : Cube} {w : List Int} {v i j k : Nat} : pickB (fR g N w v i j) (by_ g v) k = pickF (fR g N w v i j) g.rules.length 0 k := pickB_byR g.rules 0 k rfl
theorem pickB_spec {F : Nat → Nat} : ∀ {l : List Int} {k r a : Nat}, pickB F l k = some (r, a) → ∃ x, ∃ h : x < l.length, l[x].toNat = r ∧ a < F r ∧ k = ((l.take x).map fun b => F b.toNat).sum + a
  | [], _, _, _, h => by cases h
  | b :: l, k, r, a, h => by
    rw [pickB] at h
    split at h
    · rename_i hk
      cases h
      exact ⟨0, by simp, rfl, hk, by simp⟩
    · obtain ⟨x, hx, h1, h2, h3⟩ := pickB_spec h
      refine ⟨x + 1, by simp; omega, by simpa using h1, h2, ?_⟩
      simp only [List.take_succ_cons, List.map_cons, List.sum_cons]
      omega
end Go.Proofs.Ytflgmalhpglklaa
namespace Go.Proofs.Ytflgmalhpglklaa
open Go.RowKit
set_option maxRecDepth 100000
-- SimX

abbrev buBx (k L : Nat) : Ob := .box 198 [.ptr k 0, I L]
abbrev buH (t u : Bool) (g : Gram) (w : List Int) (L : Nat) : Hp := [(1000, buBx 1001 L), (1001, ctBx t u g w manyC (wcns g w manyC))]
/-- What the reference's functions do: a value and true, or something and false, and no node left. -/
def outP {α : Type} (R : Option (α × Nat)) (x : α) (b : Bool) (L' : Nat) : Prop := (R = some (x, L') ∧ b = true) ∨ (R = none ∧ b = false ∧ L' = 0)
def DoesT (H : Nat → Hp) (f : FuncId) (args : List V) (L : Nat) (R : Option (Tree × Nat)) : Prop :=
  ∃ x b L', outP R x b L' ∧ ACalls Try.prog f args (H L) (.tup [.d (treeA false x), B b]) (H L')
def DoesR (H : Nat → Hp) (f : FuncId) (args : List V) (L n : Nat) (R : Option (List Tree × Nat)) : Prop :=
  ∃ l b L', outP R l b L' ∧ l.length ≤ n ∧ ACalls Try.prog f args (H L) (.tup [.d (treesD false l), B b]) (H L')
section
variable {t u : Bool} {g : Gram} {w : List Int}
theorem btree_gone {v i j k : Int} : ACalls Try.prog 132 [.ptr 1000 0, I v, I i, I j, I k] (buH t u g w 0) (.tup [.d (treeA false (.mk 0 [])), B false]) (buH t u g w 0) := by
  simp only [buH]
  generalize wcns g w manyC = N at *
  refine ACalls.intro (n := 93) Try.func132 rfl rfl (by simp) (by rfl) ?_
  simp only [argFr]
  repeat (first | refine wk ?_ | refine s_field (hr := ?_))
  --@
  exact Fin.r2 rfl (.aggT TY rfl rfl rfl rfl rfl) (.of_tmp rfl) (Co.tup ⟨Co.agg ⟨Co.refl _, Co.nil false 2, trivial⟩, Co.refl _, trivial⟩) ⟨HElt.of rfl, HElt.of rfl, trivial⟩ rfl
def sB (F : Nat → Nat) (l : List Int) (x : Nat) : Nat := ((l.take x).map fun b => F b.toNat).sum
theorem sB_succ {F : Nat → Nat} {l : List Int} {x : Nat} (h : x < l.length) : sB F l (x + 1) = sB F l x + F l[x].toNat := by
  unfold sB
  rw [List.take_succ_eq_append_getElem h, List.map_append, List.sum_append]; simp
theorem sB_up {F : Nat → Nat} {l : List Int} {x : Nat} : ∀ {y : Nat}, x ≤ y → sB F l x ≤ sB F l y
  | 0, h => by obtain rfl : x = 0 := by omega
               exact Nat.le_refl _
  | y + 1, h => by
    by_cases e : x = y + 1
    · rw [e]; exact Nat.le_refl _
    · have := sB_up (F := F) (l := l) (x := x) (y := y) (by omega)
      by_cases hy : y < l.length
      · rw [sB_succ hy]; omega
      · unfold sB at this ⊢
        rw [List.take_of_length_le (l := l) (i := y) (by omega)] at this
        rw [List.take_of_length_le (l := l) (i := y + 1) (by omega)]; exact this
abbrev buHN (t u : Bool) (g : Gram) (w : List Int) (N : Cube) (L : Nat) : Hp := [(1000, buBx 1001 L), (1001, ctBx t u g w manyC N)]
set_option maxHeartbeats 4000000 in
theorem btree_step (hC : ChOk g w) {d : Nat} (hK : ∀ r i j k L, ∀ h : r < g.rules.length, i ≤ j → j ≤ w.length → L ≤ d → k < wcn (wcns g w manyC) w g.rules[r].right i j → wcn (wcns g w manyC) w g.rules[r].right i j < manyC → DoesR (buHN t u g w (wcns g w manyC)) 177 [.ptr 1000 0, .d (ints t g.rules[r].right), I (i : Nat), I (j : Nat), I (k : Nat)] L g.rules[r].right.length (rowF (wcns g w manyC) w (treeF g (wcns g w manyC) w d) j g.rules[r].right i k L))
    {v i j k L : Nat} (hv : ((v : Nat) : Int) < g.vars) (hij : i ≤ j) (hj : j ≤ w.length) (hL : L ≤ d + 1) (hd : d ≤ 1000) (hk : k < wcns g w manyC v i j) (hM : wcns g w manyC v i j < manyC) :
    DoesT (buHN t u g w (wcns g w manyC)) 132 [.ptr 1000 0, I (v : Nat), I (i : Nat), I (j : Nat), I (k : Nat)] L (treeF g (wcns g w manyC) w (d + 1) v i j k L) := by
  obtain ⟨s1, s2⟩ := hC.small
  have hg := hC.ok
  have hlen := hC.len
  rw [treeF]
  by_cases hz : L = 0
  · subst hz
    rw [if_pos rfl]
    exact ⟨_, false, 0, .inr ⟨rfl, rfl, rfl⟩, btree_gone⟩
  rw [if_neg hz]
  obtain ⟨r0, a, hr0, e1, e2, e3, e4, e5⟩ := pick_rule (wcns_fixN g w manyC) hv hij hj hk hM
  have e1b := e1
  rw [← pickB_by] at e1b
  obtain ⟨x0, hx0, p1, p2, p3⟩ := pickB_spec e1b
  rw [e1]
  dsimp only
  rw [rightR_nat hr0]
  have hk0 := hK r0 i j a (L - 1) hr0 hij hj (by omega) e3 (by omega)
  obtain ⟨L0, rfl⟩ : ∃ L0, L = L0 + 1 := ⟨L - 1, by omega⟩
  rw [Nat.add_sub_cancel] at hk0 ⊢
  have hrl := hg.rules
  have hL1 : ((L0 + 1 : Nat) : Int) - 1 = (L0 : Int) := by omega
  have hLz : 1 ≤ ((L0 + 1 : Nat) : Int) := by omega
  have hLm : ((L0 + 1 : Nat) : Int) ≤ 100000 := by omega
  have hby := rulesOf_sim (t := t) (g := g) (v := (v : Int)) (by omega)
  have hru := fun (r : Nat) => cRule_sim (t := t) (u := u) hg s1 s2 (by decide) (Nat.le_refl _) (fun v i j => wcns_le g w manyC v i j) (r : Int) (i : Int) (j : Int)
  have hkM : k < manyC := by omega
  obtain ⟨Q, hQ⟩ : ∃ Q : Int, Q = 4611686018427387904 := ⟨_, rfl⟩
  have hkM : ((k : Nat) : Int) < Q := by unfold manyC at hkM; omega
  have hS0 : k = sB (fR g (wcns g w manyC) w v i j) (by_ g v) x0 + a := p3
  have hat := fun x (h : x < (by_ g (v : Int)).length) => by_mem.1 (List.getElem_mem h)
  have hrN : ∀ r, ∀ h : r < g.rules.length, g.rules[r].left = (v : Int) → ruC g w manyC (wcns g w manyC) r i j = fR g (wcns g w manyC) w v i j r := fun r h e => by
    unfold ruC
    rw [if_pos (by omega), rightAt_nat h]
    simp only [Int.toNat_natCast]
    have q1 := fR_yes (N := wcns g w manyC) (w := w) (v := v) (i := i) (j := j) h e
    have q2 := le_sumN (f := fR g (wcns g w manyC) w v i j) (n := g.rules.length) (k := r) h
    have q3 := wcns_fixN g w manyC v i j hv hij hj
    omega
  have hbl : (by_ g (v : Int)).length ≤ g.rules.length := byR_le (v : Int) g.rules 0
  obtain ⟨l, b, L2, hout, hl, hk0⟩ := hk0
  refine ⟨.mk (r0 : Nat) l, b, L2, ?_, ?_⟩
  · rcases hout with ⟨h, hb⟩ | ⟨h, hb, hL2⟩
    · exact .inl ⟨by rw [h], hb⟩
    · exact .inr ⟨by rw [h], hb, hL2⟩
  clear hout
  simp only [buHN, buBx] at hk0 ⊢
  generalize wcns g w manyC = N at *
  refine ACalls.intro (n := 93) Try.func132 rfl rfl (by simp) (by rfl) ?_
  simp only [argFr]
  repeat (first | refine wk ?_ | refine s_field (hr := ?_))
  rw [hL1]
  repeat (first | refine wk ?_ | refine s_field (hr := ?_))
  --@
  refine s_call [(5, 902)] (hA := hby) (hr := ?_)
  repeat (first | refine wk ?_ | refine s_field (hr := ?_))
  --@
  refine t_loop (X := Nat) (fun x => x ≤ x0) (fun x => [(13, I x), (12, .own 902 (by_ g v).length), (10, .ptr 10 0), (11, B false), (0, .ptr 1000 0), (1, I v), (2, I i), (3, I j), (4, I ((k - sB (fR g N w v i j) (by_ g v) x : Nat) : Int))]) (fun _ => [(902, .row 3 1 ((by_ g (v : Int)).map iD)), (10, .box 84 [.d (iD 0), .d (.raw (.slice none 0 0))]), (1000, buBx 1001 L0), (1001, ctBx t u g w manyC N)]) (fun x => x0 - x) 0 (Nat.zero_le _) ?_
  clear hLz hLm hL1
  intro x hx
  have hxl : x < (by_ g (v : Int)).length := by omega
  obtain ⟨m, hm, hb1, hb2⟩ := hat x hxl
  have hs := sB_succ (F := fR g N w v i j) hxl
  rw [hb1, Int.toNat_natCast] at hs
  have h1 := hru m
  rw [hrN m hm hb2] at h1
  by_cases he : x < x0
  · have hu := sB_up (F := fR g N w v i j) (l := by_ g v) (show x + 1 ≤ x0 from he)
    have ea : ((k - sB (fR g N w v i j) (by_ g v) x : Nat) : Int) - (fR g N w v i j m : Nat) = ((k - sB (fR g N w v i j) (by_ g v) (x + 1) : Nat) : Int) := by omega
    have hac : ¬ ((k - sB (fR g N w v i j) (by_ g v) x : Nat) : Int) < (fR g N w v i j m : Nat) := by omega
    have hb : ((k - sB (fR g N w v i j) (by_ g v) x : Nat) : Int) < Q := by omega
    clear hs hu hat
    generalize k - sB (fR g N w v i j) (by_ g v) x = c1 at *
    generalize hc2 : k - sB (fR g N w v i j) (by_ g v) (x + 1) = c2 at *
    generalize fR g N w v i j m = c at *
    repeat (first | refine wk ?_ | refine s_field (hr := ?_))
    --@
    rw [hb1]
    refine s_callU [(1000, 1001)] (hA := h1) (hr := ?_)
    repeat (first | refine wk ?_ | refine s_field (hr := ?_))
    --@
    rw [ea]
    subst hc2
    exact t_next (x + 1)
  · obtain rfl : x = x0 := by omega
    have em : m = r0 := by rw [hb1] at p1; simpa using p1
    subst em
    have ea : k - sB (fR g N w v i j) (by_ g v) x = a := by omega
    have hac : (a : Int) < (fR g N w v i j m : Nat) := by omega
    rw [ea]
    clear hs hat hS0 p3 e5
    generalize fR g N w v i j m = c at *
    repeat (first | refine wk ?_ | refine s_field (hr := ?_))
    rw [hb1]
    refine s_callU [(1000, 1001)] (hA := h1) (hr := ?_)
    repeat (first | refine wk ?_ | refine s_field (hr := ?_))
    --@
    rw [hb1]
    repeat (first | refine wk ?_ | refine s_field (hr := ?_))
    refine s_call [(1000, 1000), (1001, 1001)] (hA := hk0) (hr := ?_)
    repeat (first | refine wk ?_ | refine s_field (hr := ?_))
    --@
    repeat (first | rw [hb1] | refine wk ?_ | refine s_field (hr := ?_))
    exact Fin.r2 rfl (.aggT TY rfl rfl rfl rfl rfl) (.of_tmp rfl) (Co.tup ⟨Co.agg (Cos.refl _), Co.refl _, trivial⟩) ⟨HElt.of rfl, HElt.of rfl, trivial⟩ rfl
end
end Go.Proofs.Ytflgmalhpglklaa
