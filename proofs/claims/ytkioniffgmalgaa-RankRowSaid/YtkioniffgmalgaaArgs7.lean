/-
  Bounds of rank's numbers.
-/
import Derived.Test.YtkioniffgmalgaaArgs
namespace Go.Proofs.Ytkioniffgmalgaa
set_option linter.unusedVariables false
theorem wf_i64_bd {n : Int} (h : (Lit.int .i64 n).wf = true) : -9223372036854775808 ≤ n ∧ n ≤ 9223372036854775807 := by
  simpa [Lit.wf, IntKind.min, IntKind.max, IntKind.signed, IntKind.bits] using h
end Go.Proofs.Ytkioniffgmalgaa
