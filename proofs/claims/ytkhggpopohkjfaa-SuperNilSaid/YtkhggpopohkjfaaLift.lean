/- Small laws for the rows. -/
import Derived.WalkKit
import Derived.ProofKit
import Derived.SliceStrings
import Derived.ChangeSlices
namespace Go.Proofs.Ytkhggpopohkjfaa
open Go.RowKit
theorem wf_i64 {a : Int} (h : (Lit.int .i64 a).wf = true) : -9223372036854775808 ≤ a ∧ a ≤ 9223372036854775807 := by
  simpa [Lit.wf, IntKind.min, IntKind.max, IntKind.signed, IntKind.bits] using h

/-- An address at which a cell lies is a plain one. -/
theorem addr_plain {w : World} {x : Addr} {v : Value} (h : w.cell? (x.add 0) = some v) : x = ⟨x.block, x.off, none⟩ := by
  have h1 : x.spot = none := by
    have := World.cell?_spot h
    simpa [Addr.add] using this
  cases x
  simp_all
theorem addr_add (b off i : Nat) : (⟨b, off, none⟩ : Addr).add i = ⟨b, off + i, none⟩ := by unfold Addr.add; split <;> simp_all
end Go.Proofs.Ytkhggpopohkjfaa
