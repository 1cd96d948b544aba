/-
  Sim: texts (sum, compared), bools compared, and contracts that were come by otherwise.
-/
import Derived.Test.YtpaeihifcmohkaaSimO
set_option linter.unusedVariables false
set_option linter.unusedSimpArgs false
namespace Go.Proofs.Ytpaeihifcmohkaa
open Go.RowKit

theorem tl_loop (s : ByteArray) : ∀ (n i : Nat) (acc : List UInt8), n = s.size - i → ByteArray.toList.loop s i acc = acc.reverse ++ s.data.toList.drop i := by
  intro n
  induction n with
  | zero =>
    intro i acc hn
    rw [ByteArray.toList.loop.eq_1, if_neg (by omega)]
    rw [List.drop_of_length_le (by simp; show s.data.size ≤ i; have : s.size = s.data.size := rfl; omega)]
    simp
  | succ n ih =>
    intro i acc hn
    have h : i < s.size := by omega
    rw [ByteArray.toList.loop.eq_1, if_pos h, ih _ _ (by omega)]
    have h' : i < s.data.toList.length := by simpa using h
    rw [List.drop_eq_getElem_cons h']
    have : s.get! i = s.data.toList[i] := by
      simp only [ByteArray.get!, Array.getElem_toList]
      exact getElem!_pos s.data i h
    simp [this]
theorem tl_eq (s : ByteArray) : s.toList = s.data.toList := by
  unfold ByteArray.toList; rw [tl_loop s s.size 0 [] rfl]; simp
theorem tl_beq (a b : ByteArray) : (a.toList == b.toList) = decide (a = b) := by
  rw [tl_eq, tl_eq]
  by_cases h : a = b
  · subst h; simp
  · have : a.data ≠ b.data := fun e => h (ByteArray.ext e)
    simp [h, this]

section
variable {P : Program} {n : Nat} {dr : Bool} {ops : Array Oper} {rest : List Oper} {log : List Rec} {K : Fr → Hp → Prop} {fr : Fr} {h : Hp}
variable {d : Nat} {ty : TypeId} {pos : String} {after : Array Edge} {g : Option (Nat × Bool)}
theorem bsz (a : Array UInt8) : ByteArray.size ⟨a⟩ = a.size := rfl
theorem d_str2 {x y : Operand} {yt xt : TypeId} {bop : BinOp} {a c : ByteArray} {u : Value} (hu : u.oneCell' = true) (hrun : ∀ w, (binOp bop xt (.string a) (.string c)).run P w = .ok u w)
    (hdn : Nat.blt d n = true) (hg : gOk ops fr g) (hx : oev fr x = Str a) (hy : oev fr y = Str c)
    (hr : dops P n dr ops rest (⟨(gIns ops g ++ insAll [x, y] (raws [.string a, .string c])).map Prod.fst, [d], [], []⟩ :: log) K ((d, .d (.raw u)) :: fr) h) : dops P n dr ops (⟨some d, .binOp bop xt x y yt, ty, pos, after, g⟩ :: rest) log K fr h := by
  refine d_raw [x, y] [.string a, .string c] u (fun ρ w hρ => ?_) hu hdn hg ⟨hx, hy, trivial⟩ ?_ hr
  · simp only [List.map_cons, List.map_nil, List.cons.injEq, and_true] at hρ
    have e1 : (eqGuard bop xt x y (ρ x) (ρ y)).run P w = .ok () w := by
      rw [hρ.1, hρ.2]; unfold eqGuard; cases bop <;> rfl
    simp only [execOp, Sem.run_bind, e1, Result.andThen_ok]
    rw [hρ.1, hρ.2, hrun]
    simp
  · simp [oneOpd_of hx rfl, oneOpd_of hy rfl]
/-- Two texts, one behind the other. -/
theorem d_cat {x y : Operand} {yt xt : TypeId} {a c : ByteArray} (hdn : Nat.blt d n = true) (hg : gOk ops fr g) (hx : oev fr x = Str a) (hy : oev fr y = Str c) (hm : a.size + c.size ≤ 9223372036854775807)
    (hr : dops P n dr ops rest (⟨(gIns ops g ++ insAll [x, y] (raws [.string a, .string c])).map Prod.fst, [d], [], []⟩ :: log) K ((d, Str (a ++ c)) :: fr) h) : dops P n dr ops (⟨some d, .binOp .add xt x y yt, ty, pos, after, g⟩ :: rest) log K fr h := by
  refine d_str2 (a := a) (c := c) (u := .string (a ++ c)) rfl (fun w => ?_) hdn hg hx hy hr
  have : ¬ ((a.size + c.size : Nat) : Int) > IntKind.i64.max := by
    have e : IntKind.i64.max = 9223372036854775807 := by decide
    rw [e]; omega
  simp only [binOp, Op.stringOp, if_neg this, Sem.run_pure]
theorem d_eqS {x y : Operand} {yt xt : TypeId} {a c : ByteArray} (hdn : Nat.blt d n = true) (hg : gOk ops fr g) (hx : oev fr x = Str a) (hy : oev fr y = Str c)
    (hr : dops P n dr ops rest (⟨(gIns ops g ++ insAll [x, y] (raws [.string a, .string c])).map Prod.fst, [d], [], []⟩ :: log) K ((d, B (decide (a = c))) :: fr) h) : dops P n dr ops (⟨some d, .binOp .eql xt x y yt, ty, pos, after, g⟩ :: rest) log K fr h :=
  d_str2 (a := a) (c := c) (u := .bool (decide (a = c))) rfl (fun w => by simp only [binOp, Op.stringOp, tl_beq, Sem.run_pure]) hdn hg hx hy hr
theorem d_neS {x y : Operand} {yt xt : TypeId} {a c : ByteArray} (hdn : Nat.blt d n = true) (hg : gOk ops fr g) (hx : oev fr x = Str a) (hy : oev fr y = Str c)
    (hr : dops P n dr ops rest (⟨(gIns ops g ++ insAll [x, y] (raws [.string a, .string c])).map Prod.fst, [d], [], []⟩ :: log) K ((d, B (!decide (a = c))) :: fr) h) : dops P n dr ops (⟨some d, .binOp .neq xt x y yt, ty, pos, after, g⟩ :: rest) log K fr h :=
  d_str2 (a := a) (c := c) (u := .bool (!decide (a = c))) rfl (fun w => by simp only [binOp, Op.stringOp, tl_beq, Sem.run_pure]) hdn hg hx hy hr
/-- Two bools. -/
theorem d_bool2 {x y : Operand} {yt xt : TypeId} {bop : BinOp} {a c : Bool} {u : Value} (hu : u.oneCell' = true) (hrun : ∀ w, (binOp bop xt (.bool a) (.bool c)).run P w = .ok u w) (he : ∀ w, (eqGuard bop xt x y (.bool a) (.bool c)).run P w = .ok () w)
    (hdn : Nat.blt d n = true) (hg : gOk ops fr g) (hx : oev fr x = B a) (hy : oev fr y = B c)
    (hr : dops P n dr ops rest (⟨(gIns ops g ++ insAll [x, y] (raws [.bool a, .bool c])).map Prod.fst, [d], [], []⟩ :: log) K ((d, .d (.raw u)) :: fr) h) : dops P n dr ops (⟨some d, .binOp bop xt x y yt, ty, pos, after, g⟩ :: rest) log K fr h := by
  refine d_raw [x, y] [.bool a, .bool c] u (fun ρ w hρ => ?_) hu hdn hg ⟨hx, hy, trivial⟩ ?_ hr
  · simp only [List.map_cons, List.map_nil, List.cons.injEq, and_true] at hρ
    have e1 : (eqGuard bop xt x y (ρ x) (ρ y)).run P w = .ok () w := by
      rw [hρ.1, hρ.2]; exact he w
    simp only [execOp, Sem.run_bind, e1, Result.andThen_ok]
    rw [hρ.1, hρ.2, hrun]
    simp
  · simp [oneOpd_of hx rfl, oneOpd_of hy rfl]
end

/-! ### Contracts that were come by otherwise -/
theorem raws_of {E : Env} {h : Hp} {M : Bars} {w : World} : ∀ {xs us : List Value}, V.Reps E h M w (raws xs) us → us = xs
  | [], us, hr => by simpa [raws, V.Reps] using hr
  | x :: xs, us, hr => by
    simp only [raws, List.map_cons, V.Reps, V.Rep, D.RepV, D.Rep, List.cons.injEq, and_true] at hr
    obtain ⟨a, b, rfl, h1, h2⟩ := hr
    rw [h1.1, raws_of h2]
/-- Plain arguments, no object that is handed in: what is read of new blocks is data. -/
theorem ACalls.of {P : Program} {f : FuncId} {xs : List Value} {r : V} (hok : FnOk P f) (hk : r.keys = [])
    (hc : ∀ w, Calls P f xs.toArray w fun e w' => ∃ u, e = .returned u ∧ (∀ (E : Env) (o : Bars), (∀ t b, o t b → b < w.heap.size) → V.Rep E [] (bars E [] o) w' r u) ∧ Ext NoB w w') : ACalls P f (raws xs) [] r [] := by
  refine ⟨hok, fun E w us o H hr _ ho hs => ?_⟩
  obtain rfl := raws_of hr
  refine (hc w).mono fun e w' ⟨u, h1, h2, h3⟩ => ⟨E, u, h1, ⟨by simp [hget], by simp [blkOf, hget], by simp [hget]⟩, h2 E o (fun t b hb => (ho t b hb).1), by simp [hk], h3.mono (fun x hx => hx.elim), fun k _ hsm => by simp [hget] at hsm, fun k b hb => by simp [blkOf, hget] at hb⟩
theorem ACalls.ofPure {P : Program} {f : FuncId} {xs : List Value} {u : Value} (hok : FnOk P f) (hu : u.oneCell' = true) (hc : ∀ w, Calls P f xs.toArray w fun e w' => e = .returned u ∧ w = w') : ACalls P f (raws xs) [] (.d (.raw u)) [] :=
  ACalls.of hok rfl fun w => (hc w).mono fun e w' ⟨h1, h2⟩ => ⟨u, h1, fun E o _ => by simp [V.Rep, D.RepV, D.Rep, hu], h2 ▸ Ext.refl _ _⟩
end Go.Proofs.Ytpaeihifcmohkaa
