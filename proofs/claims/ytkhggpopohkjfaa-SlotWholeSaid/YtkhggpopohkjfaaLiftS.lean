/- A slice of strings that came in, as the walks are told of it. -/
import Derived.Test.YtkhggpopohkjfaaLawWhole
import Derived.Test.YtkhggpopohkjfaaLift
namespace Go.Proofs.Ytkhggpopohkjfaa
open Go.RowKit
theorem strs_at {w : World} {x : Addr} {ss : List ByteArray} {n : Nat} (_ : n ≤ ss.length) (hc : ∀ i, i < ss.length → w.cell? (x.add i) = some (.string (ss.getD i ByteArray.empty))) (hs : ∀ s ∈ ss, s.size ≤ maxLen) : StrsAt w (some x) (ss.take n) := by
  refine ⟨fun s h => by have := hs s (List.mem_of_mem_take h); unfold maxLen at this; omega, ?_⟩
  by_cases h0 : ss.take n = []
  · exact .inl h0
  · right
    have hp : 0 < ss.length := by
      rcases Nat.eq_zero_or_pos ss.length with h | h
      · exact absurd (by rw [List.eq_nil_of_length_eq_zero h]; simp) h0
      · exact h
    have hx := addr_plain (hc 0 hp)
    refine ⟨x.block, x.off, by rw [← hx], fun i hi => ?_⟩
    rw [List.length_take] at hi
    have := hc i (by omega)
    rw [hx, addr_add] at this
    rw [this, List.getElem_take, List.getD_eq_getElem?_getD, List.getElem?_eq_getElem (by omega)]
    rfl
end Go.Proofs.Ytkhggpopohkjfaa
