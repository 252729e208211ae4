/- A super as plain data; super.Check. No condition. -/
import Derived.Test.YtkhggpopohkjfaaPutFull
import Derived.Test.YtkhggpopohkjfaaEnc
namespace Go.Proofs.Ytkhggpopohkjfaa
open Go.RowKit Go.Proofs Go.Lib
set_option linter.unusedVariables false
set_option linter.unusedSimpArgs false

/-- A super. -/
structure SupV where
  gen : Int
  root : Int
  start : Int
  epoch : Int
  last : Int
  mark : Int
instance : Inhabited SupV := ⟨⟨0, 0, 0, 0, 0, 0⟩⟩
def SupV.val (s : SupV) : Value := .agg #[.int .i64 s.gen, .int .i64 s.root, .int .i64 s.start, .int .i64 s.epoch, .int .i64 s.last, .int .i64 s.mark]
def SupV.obj (s : SupV) : Obj := .cells #[.int .i64 s.gen, .int .i64 s.root, .int .i64 s.start, .int .i64 s.epoch, .int .i64 s.last, .int .i64 s.mark] 100
def sup0 : SupV := ⟨0, 0, 0, 0, 0, 0⟩
/-- Lies a number between two? -/
def upto (n a b : Int) : Bool := decide (a ≤ n) && decide (n ≤ b)
def okSup (s : SupV) : Bool := upto s.gen 0 1152921504606846976 && upto s.start 0 1152921504606846976 && upto s.root (-1) 16383 && upto s.epoch 0 2147483647 && upto s.last 0 1152921504606846976 && upto s.mark 0 s.last
theorem okSup_iff (s : SupV) : okSup s = true ↔ (0 ≤ s.gen ∧ s.gen ≤ 1152921504606846976) ∧ (0 ≤ s.start ∧ s.start ≤ 1152921504606846976) ∧ (-1 ≤ s.root ∧ s.root ≤ 16383) ∧ (0 ≤ s.epoch ∧ s.epoch ≤ 2147483647) ∧ (0 ≤ s.last ∧ s.last ≤ 1152921504606846976) ∧ (0 ≤ s.mark ∧ s.mark ≤ s.last) := by
  simp only [okSup, upto, Bool.and_eq_true, decide_eq_true_eq, and_assoc]

def markB : ByteArray := ⟨#[65, 77, 66, 82]⟩
/-- A super's bytes. -/
def supHead (s : SupV) : ByteArray := markB ++ beB 8 s.gen.toNat ++ beB 4 (s.root + 1).toNat ++ beB 8 s.start.toNat ++ beB 4 s.epoch.toNat ++ beB 8 s.last.toNat ++ beB 8 s.mark.toNat
def supPut (s : SupV) : ByteArray := supHead s ++ beB 4 (crcOf (supHead s))
def supB (s : SupV) : ByteArray := supPut s ++ zerosB 80

theorem upto_any (n a b : Int) (w : World) : Calls Try.prog 116 #[.int .i64 n, .int .i64 a, .int .i64 b] w fun e w' => e = .returned (.bool (upto n a b)) ∧ w = w' := by
  unfold upto
  by_cases h1 : a ≤ n
  · by_cases h2 : n ≤ b
    · go_enter Try.func116, Try.ntmps116
      go_wp2
      go_ret
      exact ⟨by simp [h1, h2], rfl⟩
    · go_enter Try.func116, Try.ntmps116
      go_wp2
      go_ret
      exact ⟨by simp [h1, h2], rfl⟩
  · go_enter Try.func116, Try.ntmps116
    go_wp2
    go_ret
    exact ⟨by simp; omega, rfl⟩

set_option maxRecDepth 100000 in
theorem supcheck_any (s : SupV) (w : World) : Calls Try.prog 63 #[s.val] w fun e w' => e = .returned (.int .i64 (if okSup s then 0 else 2)) ∧ w.alloc s.obj = w' := by
  obtain ⟨g, r, st, ep, la, ma⟩ := s
  have hok : okSup ⟨g, r, st, ep, la, ma⟩ = (upto g 0 1152921504606846976 && upto st 0 1152921504606846976 && upto r (-1) 16383 && upto ep 0 2147483647 && upto la 0 1152921504606846976 && upto ma 0 la) := rfl
  rw [hok]
  have h1 := fun w => upto_any g 0 1152921504606846976 w
  have h2 := fun w => upto_any st 0 1152921504606846976 w
  have h3 := fun w => upto_any r (-1) 16383 w
  have h4 := fun w => upto_any ep 0 2147483647 w
  have h5 := fun w => upto_any la 0 1152921504606846976 w
  have h6 := fun w => upto_any ma 0 la w
  generalize upto g 0 1152921504606846976 = b1 at *
  generalize upto st 0 1152921504606846976 = b2 at *
  generalize upto r (-1) 16383 = b3 at *
  generalize upto ep 0 2147483647 = b4 at *
  generalize upto la 0 1152921504606846976 = b5 at *
  generalize upto ma 0 la = b6 at *
  have H1 := Lib.hid h1
  have H2 := Lib.hid h2
  have H3 := Lib.hid h3
  have H4 := Lib.hid h4
  have H5 := Lib.hid h5
  have H6 := Lib.hid h6
  clear h1 h2 h3 h4 h5 h6 hok
  unfold SupV.val SupV.obj
  dsimp only
  go_enter Try.func63, Try.ntmps63
  go_wp2_with fail
  refine (H1.out _).mono ?_
  rintro e w1 ⟨rfl, rfl⟩
  cases b1
  · go_wp2
    go_ret
    exact ⟨rfl, rfl⟩
  go_wp2_with fail
  refine (H2.out _).mono ?_
  rintro e w1 ⟨rfl, rfl⟩
  cases b2
  · go_wp2
    go_ret
    exact ⟨rfl, rfl⟩
  go_wp2_with fail
  refine (H3.out _).mono ?_
  rintro e w1 ⟨rfl, rfl⟩
  cases b3
  · go_wp2
    go_ret
    exact ⟨rfl, rfl⟩
  go_wp2_with fail
  refine (H4.out _).mono ?_
  rintro e w1 ⟨rfl, rfl⟩
  cases b4
  · go_wp2
    go_ret
    exact ⟨rfl, rfl⟩
  go_wp2_with fail
  refine (H5.out _).mono ?_
  rintro e w1 ⟨rfl, rfl⟩
  cases b5
  · go_wp2
    go_ret
    exact ⟨rfl, rfl⟩
  go_wp2_with fail
  refine (H6.out _).mono ?_
  rintro e w1 ⟨rfl, rfl⟩
  cases b6
  · go_wp2
    go_ret
    exact ⟨rfl, rfl⟩
  go_wp2
  go_ret
  exact ⟨rfl, rfl⟩
end Go.Proofs.Ytkhggpopohkjfaa
