/- Small laws for the rows. -/
import Derived.WalkKit
import Derived.ProofKit
namespace Go.Proofs.Ytkhggpopohkjfaa
theorem wf_i64 {a : Int} (h : (Lit.int .i64 a).wf = true) : -9223372036854775808 ≤ a ∧ a ≤ 9223372036854775807 := by
  simpa [Lit.wf, IntKind.min, IntKind.max, IntKind.signed, IntKind.bits] using h
end Go.Proofs.Ytkhggpopohkjfaa
