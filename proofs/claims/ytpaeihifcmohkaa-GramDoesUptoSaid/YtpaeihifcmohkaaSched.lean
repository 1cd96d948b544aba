/-
  A region that draws its order, walked by takes: an operation that yields the same value in every world that may come up before it is taken first. S0 is asked of the worlds up to operation L alone, which waits for all that are taken so.
-/
import Derived.Test.YtpaeihifcmohkaaBase
import Derived.OrdersHeld
import Derived.StillTactics
namespace Go.Proofs.Ytpaeihifcmohkaa
open Go.RowKit

section
variable {P : Program} {ops : Array Oper} {Q : Exit → Act → World → Prop} {md : Region.Mode} {L : Nat} {S0 : World → Prop}

/-- In whatever order the rest comes up; as long as operation L has not come up, S0 holds behind each. -/
def wpL (P : Program) (md : Region.Mode) (ops : Array Oper) (Q : Exit → Act → World → Prop) (L : Nat) (S0 : World → Prop) : Nat → Array Bool → Act → World → Prop
  | 0, listed, a, w => Region.ready md ops listed = [] ∧ Q .normal a w
  | fuel + 1, listed, a, w =>
    (Region.ready md ops listed = [] → Q .normal a w) ∧
    ∀ i ∈ Region.ready md ops listed, wpOp P ops Q i (fun a' w' => ((listed.setIfInBounds i true).getD L false = false → S0 w') ∧ wpL P md ops Q L S0 fuel (listed.setIfInBounds i true) a' w') a w

theorem wpL_any : ∀ (fuel : Nat) (listed : Array Bool) (a : Act) (w : World), wpL P md ops Q L S0 fuel listed a w → wpAny P md ops Q fuel listed a w
  | 0, _, _, _, h => h
  | fuel + 1, _, _, _, h => ⟨h.1, fun i hi => wpOp_mono (fun a' w' h' => wpL_any fuel _ a' w' h'.2) (h.2 i hi)⟩

theorem wp_region_L {id : Nat} {a : Act} {w : World} (n L : Nat) (S0 : World → Prop) (hm : P.follows .mixedOrders = true) (hn : ops.size = n)
    (h : wpL P .any ops Q L S0 n (Array.replicate n false) a w.drew) : (Code.region id ops true).wp P Q a w := by
  subst hn
  exact wp_region_any hm (wpL_any _ _ _ _ h)

/-- L waits for i. -/
def waits (md : Region.Mode) (ops : Array Oper) (L i : Nat) : Bool :=
  L != i && ((ops[L]?).map (fun o => o.after.any fun e => Region.binds md e && e.on == i)).getD false

theorem getD_ne {listed : Array Bool} {i j : Nat} (h : i ≠ j) (b : Bool) : (listed.setIfInBounds i true).getD j b = listed.getD j b := by
  simp only [Array.getD_eq_getD_getElem?]
  rw [Array.getElem?_setIfInBounds_ne h]

theorem wpL_first {i : Nat} {oi : Oper} {v : Value} (hi : ops[i]? = some oi) (hsel : ∀ (j : Nat) (o : Oper) cs b, ops[j]? = some o → o.op ≠ .select cs b)
    (hQ : ∀ c a w, Q (.panic c) (a.put oi.dst v) w → Q (.panic c) a w) (hL : waits md ops L i = true) :
    ∀ (fuel : Nat) (listed : Array Bool) (a : Act) (w : World),
      (∀ j oj, ops[j]? = some oj → j ≠ i → listed.getD j true = false → (∀ e ∈ oj.after, Region.binds md e = true → e.on ≠ i) → oi.apart ops oj = true) →
      i ∈ Region.ready md ops listed → listed.getD L false = false → YieldsIf P ops S0 oi v a → S0 w →
      wpL P md ops Q L S0 fuel (listed.setIfInBounds i true) (a.put oi.dst v) w → wpL P md ops Q L S0 (fuel + 1) listed a w := by
  simp only [waits, Bool.and_eq_true, bne_iff_ne] at hL
  obtain ⟨hLi, hLe⟩ := hL
  intro fuel
  induction fuel with
  | zero =>
    intro listed a w _ hr hl hy hS H
    refine ⟨fun h => (by rw [h] at hr; cases hr), fun j hj => ?_⟩
    by_cases hji : j = i
    · subst hji; exact hy.wpOp hi hS ⟨fun _ => hS, H⟩
    · have h1 := ready_mono hj hji
      rw [H.1] at h1
      cases h1
  | succ fuel ih =>
    intro listed a w hfree hr hl hy hS H
    refine ⟨fun h => (by rw [h] at hr; cases hr), fun j hj => ?_⟩
    by_cases hji : j = i
    · subst hji; exact hy.wpOp hi hS ⟨fun _ => hS, H⟩
    · have h1 := H.2 j (ready_mono hj hji)
      obtain ⟨hjun, oj, hoj, hall⟩ := mem_ready.1 hj
      have hnot : ∀ e ∈ oj.after, Region.binds md e = true → e.on ≠ i := fun e he hb heq => by
        have g1 := hall e he hb
        have g0 := (mem_ready.1 hr).1
        rw [heq] at g1
        rcases Nat.lt_or_ge i listed.size with h' | h'
        · simp [h'] at g0 g1; rw [g0] at g1; cases g1
        · simp [Array.getElem?_eq_none h'] at g1
      have hjL : j ≠ L := by
        rintro rfl
        rw [hoj] at hLe
        simp only [Option.map_some, Option.getD_some] at hLe
        obtain ⟨e, he, hb⟩ := Array.any_eq_true'.1 hLe
        simp only [Bool.and_eq_true, beq_iff_eq] at hb
        exact hnot e he hb.1 hb.2
      have h2 := wpOp_putIf hoj (hfree j oj hoj hji hjun hnot) (fun cs b => hsel i oi cs b hi) (fun cs b => hsel j oj cs b hoj) hQ hy h1
      have hfree' : ∀ k ok, ops[k]? = some ok → k ≠ i → (listed.setIfInBounds j true).getD k true = false →
          (∀ e ∈ ok.after, Region.binds md e = true → e.on ≠ i) → oi.apart ops ok = true := fun k ok hk hki hun hno => by
        refine hfree k ok hk hki ?_ hno
        by_cases hjk : j = k
        · subst hjk; exact hjun
        · rw [getD_ne hjk] at hun; exact hun
      have hl' : (listed.setIfInBounds j true).getD L false = false := by rw [getD_ne hjL]; exact hl
      have hl'' : ((listed.setIfInBounds i true).setIfInBounds j true).getD L false = false := by rw [getD_ne hjL, getD_ne (Ne.symm hLi)]; exact hl
      refine wpOp_mono (fun a' w' h3 => ⟨fun _ => h3.2.1 hl'', ih (listed.setIfInBounds j true) a' w' hfree' (ready_mono hr (Ne.symm hji)) hl' h3.1 (h3.2.1 hl'') ?_⟩) h2
      rw [Array.setIfInBounds_comm _ _ hji]
      exact h3.2.2

theorem wpL_take {i : Nat} {dst : Option Tmp} {op : Op} {ty : TypeId} {pos : String} {after : Array Edge} {gd : Option (Nat × Bool)} {v : Value} {fuel : Nat} {listed : Array Bool} {a : Act} {w : World} (hi : ops[i]? = some ⟨dst, op, ty, pos, after, gd⟩)
    (hk : (Region.noSelect ops && Region.free md ops listed i && (Region.ready md ops listed).contains i && waits md ops L i && !(listed.getD L false)) = true)
    (hQ : ∀ c a w, Q (.panic c) (a.put dst v) w → Q (.panic c) a w) (hy : YieldsIf P ops S0 ⟨dst, op, ty, pos, after, gd⟩ v a) (hS : S0 w)
    (h : wpL P md ops Q L S0 fuel (listed.setIfInBounds i true) (a.put dst v) w) : wpL P md ops Q L S0 (fuel + 1) listed a w := by
  simp only [Bool.and_eq_true, Bool.not_eq_true'] at hk
  obtain ⟨⟨⟨⟨k1, k2⟩, k3⟩, k4⟩, k5⟩ := hk
  exact wpL_first hi (Region.noSelect_spec k1) hQ k4 fuel listed a w (Region.free_spec hi k2) (by simpa using k3) k5 hy hS h

/-- Only one may come up. -/
theorem wpL_one {i : Nat} {dst : Option Tmp} {op : Op} {ty : TypeId} {pos : String} {after : Array Edge} {fuel : Nat} {listed : Array Bool} {a : Act} {w : World} (hr : Region.ready md ops listed = [i]) (hi : ops[i]? = some ⟨dst, op, ty, pos, after, none⟩)
    (h : (Oper.mk dst op ty pos after none).wp P a w (fun a' w' => ((listed.setIfInBounds i true).getD L false = false → S0 w') ∧ wpL P md ops Q L S0 fuel (listed.setIfInBounds i true) a' w') Q) : wpL P md ops Q L S0 (fuel + 1) listed a w := by
  refine ⟨fun h0 => (by rw [hr] at h0; cases h0), fun j hj => ?_⟩
  rw [hr, List.mem_singleton] at hj
  subst hj
  unfold wpOp
  rw [hi]
  simp only [Region.wanted, if_true]
  exact .inl h

theorem wpL_done {fuel : Nat} {listed : Array Bool} {a : Act} {w : World} (hr : Region.ready md ops listed = []) (h : Q .normal a w) : wpL P md ops Q L S0 fuel listed a w := by
  cases fuel with
  | zero => exact ⟨hr, h⟩
  | succ n => exact ⟨fun _ => h, by rw [hr]; simp⟩
end
end Go.Proofs.Ytpaeihifcmohkaa
