/- A slot that came in by value. -/
import Derived.Test.YtkhggpopohkjfaaLift
import Derived.Test.YtkhggpopohkjfaaInfo
import Derived.ChangeShapes
import Derived.WideShapes
import Derived.ChangeArms
namespace Go.Proofs.Ytkhggpopohkjfaa
open Go.ChangeShapes Go.WideShapes Go.ChangeAt Go.RowKit
theorem cells41 : Try.prog.cellsOf 41 = 5 := by kernel_rfl
theorem cells3 : Try.prog.cellsOf 3 = 1 := by kernel_rfl
theorem cells4 : Try.prog.cellsOf 4 = 1 := by kernel_rfl
theorem cells9 : Try.prog.cellsOf 9 = 1 := by kernel_rfl

set_option maxRecDepth 10000 in
theorem open41 {H : Type} {enc : TypeId × Value → H} {W : World} {b0 : Nat} {r : Reach} {base : Nat} {sp : Nat → Bool} {held : Bool} {v : Value} {d : DataW H} {ps : List MemPlace}
    (hval : Value.okWide Try.prog W r b0 41 v) (h : DataW.Trod enc Try.prog W base sp held 41 v d ps) :
    ∃ (ep sq : Int) (f l : Bool) (s : ByteArray), v = .agg #[.int .i64 ep, .int .i64 sq, .bool f, .bool l, .string s] ∧ (Lit.int .i64 ep).wf = true ∧ (Lit.int .i64 sq).wf = true ∧ s.size ≤ maxLen := by
  obtain ⟨cs, rfl, hsz⟩ := okWide_struct Try.underlying41 hval
  rw [cells41] at hsz
  obtain ⟨l0⟩ := cs
  match l0, hsz with
  | [c0, c1, c2, c3, c4], _ =>
  obtain ⟨fuel, hf⟩ := h
  obtain ⟨ys, m, _, _, _, hl, hfs⟩ := DataW.trod_struct Try.underlying41 hf
  match ys, hl with
  | [y0, y1, y2, y3, y4], _ =>
  have h0 := hfs 0 _ rfl
  have h1 := hfs 1 _ rfl
  have h2 := hfs 2 _ rfl
  have h3 := hfs 3 _ rfl
  have h4 := hfs 4 _ rfl
  simp [Value.cells, cells3, cells4, cells9] at h0 h1 h2 h3 h4
  obtain ⟨ep, e0, _, w0⟩ := DataW.trod_int Try.underlying3 h0
  obtain ⟨sq, e1, _, w1⟩ := DataW.trod_int Try.underlying3 h1
  obtain ⟨f, e2, _⟩ := DataW.trod_bool Try.underlying4 h2
  obtain ⟨l, e3, _⟩ := DataW.trod_bool Try.underlying4 h3
  obtain ⟨s, e4, _, w4⟩ := DataW.trod_string Try.underlying9 h4
  simp only [List.cons.injEq, and_true] at e0 e1 e2 e3 e4
  subst e0 e1 e2 e3 e4
  exact ⟨ep, sq, f, l, s, rfl, w0, w1, w4⟩
end Go.Proofs.Ytkhggpopohkjfaa
