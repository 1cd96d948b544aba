/-
  Faults compared.
-/
import Derived.Test.YtpaeihifcmohkaaSimX
set_option linter.unusedVariables false
set_option linter.unusedSimpArgs false
namespace Go.Proofs.Ytpaeihifcmohkaa
open Go.RowKit
set_option maxRecDepth 100000
theorem run_eqFault (w : World) (a b c d : Int) : (Op.equal 25 (.agg #[.int .i64 a, .int .i64 b]) (.agg #[.int .i64 c, .int .i64 d])).run Try.prog w = .ok (decide ((⟨a, b⟩ : Fault) = ⟨c, d⟩)) w := by
  unfold Op.equal
  rw [show Op.maxDepth = 9998 + 1 + 1 from rfl]
  unfold Op.equalIn
  simp only [Sem.run_bind, run_underlying Try.underlying25, Result.andThen_ok]
  simp [Sem.run_bind, go_sem]
  by_cases h1 : a = c <;> by_cases h2 : b = d <;> simp [h1, h2]
theorem eqGuardFault : Try.prog.eqGuardType Try.prog.depth 25 = false := by kernel_rfl
theorem eqFault (a b c d : Int) : EqRun Try.prog 25 (.agg #[.int .i64 a, .int .i64 b]) (.agg #[.int .i64 c, .int .i64 d]) (decide ((⟨a, b⟩ : Fault) = ⟨c, d⟩)) := fun w => ⟨run_eqFault w a b c d, eqGuardFault⟩
end Go.Proofs.Ytpaeihifcmohkaa
