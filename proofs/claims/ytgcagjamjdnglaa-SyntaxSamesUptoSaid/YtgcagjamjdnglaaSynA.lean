/-
  Sim: the parser: sign, next, want, part, fail.
-/
import Derived.Test.YtgcagjamjdnglaaSynP
import Derived.Test.YtgcagjamjdnglaaS6
set_option linter.unusedVariables false
set_option linter.unusedSimpArgs false
set_option linter.unusedSectionVars false
namespace Go.Proofs.Ytgcagjamjdnglaa
open Go.RowKit
set_option maxRecDepth 100000
-- SimX

abbrev prB (en : Int) (l : List Tk) (o p : Int) : Ob := .box 153 [.d (tksD l), I en, I o, I p]
abbrev prG (en : Int) (l : List Tk) (o p : Int) : Hp := [(1000, prB en l o p)]
abbrev jkB : Ob := .box 153 [.junk, .junk, .junk, .junk]
abbrev jkH : Hp := [(1000, jkB)]
def goneV (f : Fault) : Value := .iface 149 (.agg #[.int .i64 f.code, .int .i64 f.at_])
theorem jk_le {en : Int} {l : List Tk} {o p : Int} {h : Hp} {k : Nat} (hk : hget h k = some (prB en l o p)) : HElt h k jkB := ⟨_, hk, .box ⟨VLe.junkD _, VLe.junkD _, VLe.junkD _, VLe.junkD _, trivial⟩⟩
theorem fail_pan {en : Int} {s : PS} {code : Int} (hl : s.l.length ≤ 100000000) : APan Try.prog 115 [.ptr 1000 0, I code] (prG en s.l s.opn s.parts) (goneV (s.gone en code)) jkH := by
  refine APan.intro (n := 28) Try.func115 rfl rfl (by simp) (by rfl) rfl ?_
  simp only [argFr]
  obtain ⟨l, opn, parts⟩ := s
  dsimp only at hl ⊢
  cases l with
  | nil =>
    by_cases h3 : code = 3
    · subst h3
      repeat (first | refine wk ?_ | refine s_field (hr := ?_))
      (refine d_iface rfl gOk_none rfl rfl rfl Try.underlying149 rfl ?_; refine d_panic [(1000, some (prB en _ opn parts))] 999 gOk_none rfl (fun p hp => by rw [List.mem_singleton.1 hp]; rfl) (fun fr' h' ho => ⟨rfl, ⟨jk_le (ho _ (List.mem_singleton.2 rfl)), trivial⟩, rfl⟩) ?_; exact dops_end (Nev.obj 999 rfl))
    · rw [show PS.gone en code ⟨[], opn, parts⟩ = ⟨code, en⟩ by simp [PS.gone, h3]]
      repeat (first | refine wk ?_ | refine s_field (hr := ?_))
      (refine d_iface rfl gOk_none rfl rfl rfl Try.underlying149 rfl ?_; refine d_panic [(1000, some (prB en _ opn parts))] 999 gOk_none rfl (fun p hp => by rw [List.mem_singleton.1 hp]; rfl) (fun fr' h' ho => ⟨rfl, ⟨jk_le (ho _ (List.mem_singleton.2 rfl)), trivial⟩, rfl⟩) ?_; exact dops_end (Nev.obj 999 rfl))
  | cons t r =>
    repeat (first | refine wk ?_ | refine s_field (hr := ?_))
    (refine d_iface rfl gOk_none rfl rfl rfl Try.underlying149 rfl ?_; refine d_panic [(1000, some (prB en _ opn parts))] 999 gOk_none rfl (fun p hp => by rw [List.mem_singleton.1 hp]; rfl) (fun fr' h' ho => ⟨rfl, ⟨jk_le (ho _ (List.mem_singleton.2 rfl)), trivial⟩, rfl⟩) ?_; exact dops_end (Nev.obj 999 rfl))
theorem sign_sim {en : Int} {s : PS} {x : ByteArray} (hl : s.l.length ≤ 100000000) : ACalls Try.prog 222 [.ptr 1000 0, Str x] (prG en s.l s.opn s.parts) (B (s.sign x)) (prG en s.l s.opn s.parts) := by
  refine ACalls.intro (n := 32) Try.func222 rfl rfl (by simp) (by rfl) ?_
  simp only [argFr]
  obtain ⟨l, opn, parts⟩ := s
  dsimp only at hl ⊢
  cases l with
  | nil =>
    rw [show PS.sign ⟨[], opn, parts⟩ x = false from rfl]
    repeat (first | refine wk ?_ | refine s_field (hr := ?_))
    exact fin
  | cons t r =>
    by_cases h3 : t.kind = 3
    · rw [show PS.sign ⟨t :: r, opn, parts⟩ x = decide (t.text = x) by simp [PS.sign, h3]]
      repeat (first | refine wk ?_ | refine s_field (hr := ?_))
      exact fin
    · rw [show PS.sign ⟨t :: r, opn, parts⟩ x = false by simp [PS.sign, h3]]
      repeat (first | refine wk ?_ | refine s_field (hr := ?_))
      exact fin
theorem next_sim {en : Int} {s : PS} {t : Tk} {r : List Tk} (he : s.l = t :: r) (hl : s.l.length ≤ 100000000) : ACalls Try.prog 175 [.ptr 1000 0] (prG en s.l s.opn s.parts) (.d (tkD t)) (prG en s.next.l s.next.opn s.next.parts) := by
  refine ACalls.intro (n := 19) Try.func175 rfl rfl (by simp) (by rfl) ?_
  simp only [argFr]
  obtain ⟨l, opn, parts⟩ := s
  dsimp only at he hl
  subst he
  simp only [PS.next, List.tail_cons]
  have e : List.drop 1 (List.take ((t :: r).map tkD).length ((t :: r).map tkD)) = r.map tkD := by rw [List.take_length]; rfl
  repeat (first | refine wk ?_ | refine s_field (hr := ?_))
  --@
  rw [e, List.take_length]
  exact fin
end Go.Proofs.Ytgcagjamjdnglaa
