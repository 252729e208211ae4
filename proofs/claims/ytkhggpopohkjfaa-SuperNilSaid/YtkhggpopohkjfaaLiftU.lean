/- A super that came in by value. -/
import Derived.Test.YtkhggpopohkjfaaLiftT
import Derived.Test.YtkhggpopohkjfaaSup
namespace Go.Proofs.Ytkhggpopohkjfaa
open Go.ChangeShapes Go.WideShapes Go.ChangeAt Go.RowKit
theorem cells100 : Try.prog.cellsOf 100 = 6 := by kernel_rfl
set_option maxRecDepth 10000 in
theorem open100 {H : Type} {enc : TypeId × Value → H} {W : World} {b0 : Nat} {r : Reach} {base : Nat} {sp : Nat → Bool} {held : Bool} {v : Value} {d : DataW H} {ps : List MemPlace}
    (hval : Value.okWide Try.prog W r b0 100 v) (h : DataW.Trod enc Try.prog W base sp held 100 v d ps) : ∃ s : SupV, v = s.val := by
  obtain ⟨cs, rfl, hsz⟩ := okWide_struct Try.underlying100 hval
  rw [cells100] at hsz
  obtain ⟨l0⟩ := cs
  match l0, hsz with
  | [c0, c1, c2, c3, c4, c5], _ =>
  obtain ⟨fuel, hf⟩ := h
  obtain ⟨ys, m, _, _, _, hl, hfs⟩ := DataW.trod_struct Try.underlying100 hf
  match ys, hl with
  | [y0, y1, y2, y3, y4, y5], _ =>
  have h0 := hfs 0 _ rfl
  have h1 := hfs 1 _ rfl
  have h2 := hfs 2 _ rfl
  have h3 := hfs 3 _ rfl
  have h4 := hfs 4 _ rfl
  have h5 := hfs 5 _ rfl
  simp [Value.cells, cells3] at h0 h1 h2 h3 h4 h5
  obtain ⟨a0, e0, _, _⟩ := DataW.trod_int Try.underlying3 h0
  obtain ⟨a1, e1, _, _⟩ := DataW.trod_int Try.underlying3 h1
  obtain ⟨a2, e2, _, _⟩ := DataW.trod_int Try.underlying3 h2
  obtain ⟨a3, e3, _, _⟩ := DataW.trod_int Try.underlying3 h3
  obtain ⟨a4, e4, _, _⟩ := DataW.trod_int Try.underlying3 h4
  obtain ⟨a5, e5, _, _⟩ := DataW.trod_int Try.underlying3 h5
  simp only [List.cons.injEq, and_true] at e0 e1 e2 e3 e4 e5
  subst e0 e1 e2 e3 e4 e5
  exact ⟨⟨a0, a1, a2, a3, a4, a5⟩, rfl⟩
end Go.Proofs.Ytkhggpopohkjfaa
