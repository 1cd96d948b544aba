/-
  Sim: a closure that came in is called: its captured variables H are not known one by one.
-/
import Derived.Test.YtpaeihifcmohkaaSimP
set_option linter.unusedVariables false
set_option linter.unusedSimpArgs false
namespace Go.Proofs.Ytpaeihifcmohkaa
open Go.RowKit

mutual
theorem V.ren_nil : ∀ (v : V), v.ren [] = v
  | .d _ => rfl
  | .full .. => rfl
  | .own .. => rfl
  | .ptr .. => rfl
  | .eptr .. => rfl
  | .optr .. => rfl
  | .fn f a c => by simp only [V.ren, V.rens_nil a, V.rens_nil c]
  | .agg cs => by simp only [V.ren, V.rens_nil cs]
  | .tup vs => by simp only [V.ren, V.rens_nil vs]
  | .junk => rfl
theorem V.rens_nil : ∀ (vs : List V), V.rens [] vs = vs
  | [] => rfl
  | v :: r => by simp only [V.rens, V.ren_nil v, V.rens_nil r]
end
theorem Ob.ren_nil (o : Ob) : o.ren [] = o := by cases o <;> simp [Ob.ren, V.rens_nil]
theorem Hp.ren_nil : ∀ (h : Hp), Hp.ren [] h = h
  | [] => rfl
  | (k, o) :: r => by simp only [Hp.ren, Ob.ren_nil, Hp.ren_nil r, renK]
theorem HSub.mem {h : Hp} : ∀ {g : Hp}, HSub h g → ∀ p ∈ g, hget h p.1 = some p.2
  | [], _, p, hp => by cases hp
  | (k, o) :: r, hs, p, hp => by
    simp only [HSub] at hs
    rcases List.mem_cons.1 hp with rfl | hp
    · exact hs.1
    · exact HSub.mem hs.2 p hp
theorem HSub.of_mem {h : Hp} : ∀ {g : Hp}, (∀ p ∈ g, hget h p.1 = some p.2) → HSub h g
  | [], _ => trivial
  | (k, o) :: r, hs => ⟨hs (k, o) (by simp), HSub.of_mem (fun p hp => hs p (by simp [hp]))⟩
theorem newKeys_self {H : Hp} : ∀ {l : Hp}, (∀ p ∈ l, hget H p.1 = some p.2) → newKeys [] H l = []
  | [], _ => rfl
  | (k, o) :: r, hs => by
    simp only [newKeys]
    rw [hs (k, o) (by simp)]
    exact newKeys_self (fun p hp => hs p (by simp [hp]))
theorem LinkH_self {h : Hp} : ∀ {l : Hp}, (∀ p ∈ l, hget h p.1 = some p.2) → LinkH h [] l
  | [], _ => trivial
  | (k, o) :: r, hs => by
    simp only [LinkH, renK, Ob.ren_nil]
    exact ⟨hs (k, o) (by simp), LinkH_self (fun p hp => hs p (by simp [hp]))⟩
theorem callOk_self {H : Hp} (hh : allHigh H = true) (hs : HSub H H) : callOk [] H H [] [] = true := by
  unfold callOk
  rw [newKeys_self (HSub.mem hs)]
  have h1 : injB [] (H.map Prod.fst) = true := by
    unfold injB
    simp only [renK, List.all_eq_true]
    intro a _ b _
    split
    · assumption
    · rfl
  have h2 : H.all (fun q => hasKey H q.1) = true := by
    rw [List.all_eq_true]; intro p hp
    rw [hasKey_spec, HSub.mem hs p hp]; rfl
  simp [hh, h1, h2]
theorem hget_append_left {h g : Hp} {k : Nat} {o : Ob} (hk : hget h k = some o) : hget (h ++ g) k = some o := by
  rw [hget_append, hk]
theorem HSub.append_left {h g : Hp} {H : Hp} (hs : HSub h H) : HSub (h ++ g) H := HSub.of_mem (fun p hp => hget_append_left (HSub.mem hs p hp))

theorem HLe.append_left {h g : Hp} : ∀ {H : Hp}, HSub h H → HLe (h ++ g) H
  | [], _ => trivial
  | (k, o) :: r, hs => ⟨.of (hget_append_left hs.1), HLe.append_left hs.2⟩
theorem HLe.of_self {h : Hp} : ∀ {H : Hp}, HSub h H → HLe h H
  | [], _ => trivial
  | (k, o) :: r, hs => ⟨.of hs.1, HLe.of_self hs.2⟩
/-- Captured variables that stay as they are. -/
structure Clo (H : Hp) (caps : List V) : Prop where
  high : allHigh H = true
  inn : hpIn H H = true
  caps : V.insides H caps = true
  self : HSub H H
theorem Clo.bare {H : Hp} {caps : List V} (h : Clo H caps) : Clo H [] := ⟨h.high, h.inn, rfl, h.self⟩
theorem Clo.nil : Clo [] [] := ⟨rfl, rfl, rfl, trivial⟩
theorem cargs_self {h : Hp} : ∀ (vs : List V), CArgs [] h vs vs [] [] []
  | [] => .nil
  | v :: vs => .cons (.same (V.ren_nil v)) (cargs_self vs)
theorem insides_append {H : Hp} : ∀ {a b : List V}, V.insides H a = true → V.insides H b = true → V.insides H (a ++ b) = true
  | [], _, _, hb => hb
  | v :: a, b, ha, hb => by
    simp only [V.insides, Bool.and_eq_true, List.cons_append] at ha ⊢
    exact ⟨ha.1, insides_append ha.2 hb⟩
section
variable {P : Program} {n : Nat} {dr : Bool} {ops : Array Oper} {rest : List Oper} {log : List Rec} {K : Fr → Hp → Prop} {fr : Fr} {h : Hp}
variable {ty : TypeId} {pos : String} {after : Array Edge} {g : Option (Nat × Bool)}
theorem d_clos {dst : Option Tmp} {fop : Operand} {xs : List Operand} {args : Array Operand} {ats : Array TypeId} {vs caps : List V} {f : FuncId} {H : Hp} {r : V} (hC : Clo H caps)
    (hg : gOk ops fr g) (hd : dstOk n dst = true) (hxs : args.toList = xs) (hf : oev fr fop = .fn (.func f) [] caps) (hx : oevs fr xs vs) (h1 : xs.all oneOpd = true) (hA : ACalls P f (vs ++ caps) H r H) (hin : V.insides H vs = true) (hs : HSub h H)
    (hr : dops P n dr ops rest (⟨(gIns ops g ++ (insOf fop (.fn (.func f) [] caps) ++ insAll xs vs)).map Prod.fst, dst.toList, (callObjs [] H H []).map Prod.fst, H.map Prod.fst⟩ :: log) K (dput dst r fr) (H ++ h)) :
    dops P n dr ops (⟨dst, .call { callee := .value fop, args := args, argTypes := ats }, ty, pos, after, g⟩ :: rest) log K fr h := by
  refine d_call [] hg hd hxs hf hx h1 hA (cargs_self _) (LinkH_self (HSub.mem hs)) ?_ (callOk_self hC.high hC.self) ?_ (.inl rfl) (fr' := dput dst r fr) (h' := H ++ h) (by rw [V.ren_nil]) (by rw [Hp.ren_nil, List.append_nil]) (by rw [Hp.ren_nil, List.append_nil]; exact hr)
  · rw [newKeys_self (HSub.mem hC.self)]; trivial
  · rw [hC.inn, insides_append hin hC.caps]; rfl
end
end Go.Proofs.Ytpaeihifcmohkaa
