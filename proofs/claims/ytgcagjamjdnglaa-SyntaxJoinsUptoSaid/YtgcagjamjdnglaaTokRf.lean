/-
  Tokens: the contract of the reference's Scan, said as Sim says it.
-/
import Derived.Test.YtgcagjamjdnglaaTok6
import Derived.Test.YtgcagjamjdnglaaTokBr
set_option linter.unusedVariables false
set_option linter.unusedSimpArgs false
set_option linter.unusedSectionVars false
namespace Go.Proofs.Ytgcagjamjdnglaa
open Go.RowKit

theorem scanRef_sim (s : ByteArray) (hs : s.size ≤ maxLen) : ACalls Try.prog 117 [Str s] [] (.tup [.d (tksD (Old.scanR s).1), .d (.agg [iD (Old.scanR s).2.1, iD (Old.scanR s).2.2])]) [] := by
  refine ACalls.of (xs := [.string s]) ⟨_, Try.func117, rfl, rfl⟩ rfl fun w => (Old.scanRef_any s w hs).mono fun e w' ⟨v, h1, h2, h3⟩ => ⟨_, h1, fun E o ho => ?_, ext_new h3⟩
  simp only [V.Rep, V.Reps]
  refine ⟨[v, .agg #[.int .i64 (Old.scanR s).2.1, .int .i64 (Old.scanR s).2.2]], rfl, _, _, rfl, ?_, _, _, rfl, ?_, rfl⟩
  · exact tks_own h2 (fun b hb => by
      rcases hb with ⟨k, hk⟩ | hb
      · simp [blkOf, hget] at hk
      · exact ho _ _ hb)
  · exact ⟨_, rfl, by simp [D.Reps, D.Rep, iD, Value.oneCell']⟩
end Go.Proofs.Ytgcagjamjdnglaa
