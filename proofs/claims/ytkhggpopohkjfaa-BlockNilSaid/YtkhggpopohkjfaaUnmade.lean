/- The calls of a disk that nothing made, and of none. Premise: it is one that nothing made. -/
import Derived.Test.YtkhggpopohkjfaaLives4
namespace Go.Proofs.Ytkhggpopohkjfaa
open Go.RowKit Go.Proofs Go.Lib
set_option linter.unusedVariables false
set_option linter.unusedSimpArgs false

/-- No disk, or one that nothing made. -/
def Unmade (p : Option Addr) (w : World) : Prop := p = none ∨ ∃ g, p = some ⟨g, 0, none⟩ ∧ w.heap[g]? = some (.cells zeroHd 90)
theorem Unmade.keep {p : Option Addr} {w w' : World} (h : Unmade p w) (hk : Keep [] w w') : Unmade p w' := by
  rcases h with h | ⟨g, h1, h2⟩
  · exact .inl h
  · exact .inr ⟨g, h1, hk.heap h2 (by simp)⟩
theorem un_made {p : Option Addr} {w : World} (h : Unmade p w) : Calls Try.prog 86 #[.pointer p] w fun e w' => e = .returned (.bool false) ∧ w = w' := by
  rcases h with rfl | ⟨g, rfl, h⟩
  · exact made_nil w
  · exact made_zero h

variable {p : Option Addr} {w : World}
theorem un_may (h : Unmade p w) : Calls Try.prog 92 #[.pointer p] w fun e w' => e = .returned (.int .i64 1) ∧ w = w' := by
  have HM := Lib.hid (un_made h)
  clear h
  go_enter Try.func92, Try.ntmps92
  go_wp2_with fail
  refine HM.out.mono ?_
  rintro e w1 ⟨rfl, rfl⟩
  go_wp2
  go_ret
  exact ⟨rfl, rfl⟩
theorem un_within (h : Unmade p w) (i : Int) : Calls Try.prog 90 #[.pointer p, .int .i64 i] w fun e w' => e = .returned (.int .i64 1) ∧ w = w' := by
  have HM := Lib.hid (un_may h)
  clear h
  go_enter Try.func90, Try.ntmps90
  go_wp2_with fail
  refine HM.out.mono ?_
  rintro e w1 ⟨rfl, rfl⟩
  go_wp2
  go_ret
  exact ⟨rfl, rfl⟩
theorem un_read (h : Unmade p w) (i : Int) : Calls Try.prog 39 #[.pointer p, .int .i64 i] w fun e w' => e = .returned (.tuple #[.slice none 0 0, .int .i64 1]) ∧ Keep [] w w' := by
  have hk : Keep [] w (w.alloc (.cells #[.int .i64 i] 3)) := (Keep.refl _ _).alloc _
  have HM := Lib.hid (un_within (h.keep hk) i)
  have HK := Lib.hid hk
  clear h hk
  go_enter Try.func39, Try.ntmps39
  go_wp2_with fail
  refine HM.out.mono ?_
  rintro e w1 ⟨rfl, rfl⟩
  go_wp2
  go_ret2
  exact ⟨rfl, HK.out⟩
theorem un_write (h : Unmade p w) (i : Int) (A : Option Addr) (n c : Nat) : Calls Try.prog 35 #[.pointer p, .int .i64 i, .slice A n c] w fun e w' => e = .returned (.int .i64 1) ∧ w = w' := by
  have HM := Lib.hid (un_within h i)
  clear h
  go_enter Try.func35, Try.ntmps35
  go_wp2_with fail
  refine HM.out.mono ?_
  rintro e w1 ⟨rfl, rfl⟩
  go_wp2
  go_ret
  exact ⟨rfl, rfl⟩
theorem un_flush (h : Unmade p w) : Calls Try.prog 36 #[.pointer p] w fun e w' => e = .returned (.int .i64 1) ∧ w = w' := by
  have HM := Lib.hid (un_may h)
  clear h
  go_enter Try.func36, Try.ntmps36
  go_wp2_with fail
  refine HM.out.mono ?_
  rintro e w1 ⟨rfl, rfl⟩
  go_wp2
  go_ret
  exact ⟨rfl, rfl⟩
theorem un_arm (h : Unmade p w) (i : Int) : Calls Try.prog 38 #[.pointer p, .int .i64 i] w fun e w' => e = .returned (.int .i64 1) ∧ w = w' := by
  have HM := Lib.hid (un_may h)
  clear h
  go_enter Try.func38, Try.ntmps38
  go_wp2_with fail
  refine HM.out.mono ?_
  rintro e w1 ⟨rfl, rfl⟩
  go_wp2
  go_ret
  exact ⟨rfl, rfl⟩
theorem un_crash (h : Unmade p w) (A : Option Addr) (n c : Nat) : Calls Try.prog 34 #[.pointer p, .slice A n c] w fun e w' => e = .returned (.int .i64 1) ∧ Keep [] w w' := by
  have hk : Keep [] w (w.alloc (.cells #[.slice A n c] 32)) := (Keep.refl _ _).alloc _
  have HM := Lib.hid (un_made (h.keep hk))
  have HK := Lib.hid hk
  clear h hk
  go_enter Try.func34, Try.ntmps34
  go_wp2_with fail
  refine HM.out.mono ?_
  rintro e w1 ⟨rfl, rfl⟩
  go_wp2
  go_ret
  exact ⟨rfl, HK.out⟩
theorem un_size (h : Unmade p w) : Calls Try.prog 56 #[.pointer p] w fun e w' => e = .returned (.int .i64 0) ∧ w = w' := by
  have HM := Lib.hid (un_made h)
  clear h
  go_enter Try.func56, Try.ntmps56
  go_wp2_with fail
  refine HM.out.mono ?_
  rintro e w1 ⟨rfl, rfl⟩
  go_wp2
  go_ret
  exact ⟨rfl, rfl⟩
theorem un_pending (h : Unmade p w) : Calls Try.prog 49 #[.pointer p] w fun e w' => e = .returned (.int .i64 0) ∧ w = w' := by
  have HM := Lib.hid (un_made h)
  clear h
  go_enter Try.func49, Try.ntmps49
  go_wp2_with fail
  refine HM.out.mono ?_
  rintro e w1 ⟨rfl, rfl⟩
  go_wp2
  go_ret
  exact ⟨rfl, rfl⟩
theorem un_dead (h : Unmade p w) : Calls Try.prog 52 #[.pointer p] w fun e w' => e = .returned (.bool false) ∧ w = w' := by
  have HM := Lib.hid (un_made h)
  clear h
  go_enter Try.func52, Try.ntmps52
  go_wp2_with fail
  refine HM.out.mono ?_
  rintro e w1 ⟨rfl, rfl⟩
  go_wp2
  go_ret
  exact ⟨rfl, rfl⟩
theorem un_copy (h : Unmade p w) : Calls Try.prog 58 #[.pointer p] w fun e w' => e = .returned (.pointer none) ∧ w = w' := by
  have HM := Lib.hid (un_made h)
  clear h
  go_enter Try.func58, Try.ntmps58
  go_wp2_with fail
  refine HM.out.mono ?_
  rintro e w1 ⟨rfl, rfl⟩
  go_wp2
  go_ret
  exact ⟨rfl, rfl⟩

end Go.Proofs.Ytkhggpopohkjfaa
