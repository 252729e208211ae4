/- '!=' of arrays of 128 bytes; an array's address in a slice. No condition but what each names. -/
import Derived.Test.YtkhggpopohkjfaaArr
import Derived.Test.YtkhggpopohkjfaaEq
import Derived.ChangeKeysEq
namespace Go.Proofs.Ytkhggpopohkjfaa
open Go.RowKit Go.Proofs Go.Lib
set_option linter.unusedVariables false
set_option linter.unusedSimpArgs false

theorem underlying144 : Try.prog.underlying 144 = some (.array 128 5) := by kernel_rfl
theorem cellsOf5 : Try.prog.cellsOf 5 = 1 := by kernel_rfl
theorem size144 : (Try.prog.info? 144).map (·.size) = some 128 := by kernel_rfl
theorem arrayAt144 (a : Option Addr) (c : Nat) (w : World) : (Instr.arrayAt 144 (.slice a 128 c)).run Try.prog w = .ok (.pointer a) w := by
  simp [Instr.arrayAt, run_underlying underlying144]
theorem part5 (xs : Array Value) (i : Nat) (v : Value) (w : World) (h : xs[i]? = some v) : (part 5 xs i).run Try.prog w = .ok v w := by
  simp [part, isAgg, run_underlying Try.underlying5, h, Sem.run_bind, Result.andThen]
theorem strA_get (s : ByteArray) (i : Nat) (h : i < s.size) : (strCells s).toArray[i]? = some (.int .u8 ((s[i]'h).toNat : Int)) := by
  simp only [List.getElem?_toArray, strCells, List.getElem?_map]
  rw [List.getElem?_eq_getElem (by exact h)]
  rfl
set_option maxRecDepth 100000 in
theorem eqItems_bytes (d : Nat) (s t : ByteArray) (w : World) : ∀ is : List Nat, (hs : ∀ i ∈ is, i < s.size ∧ i < t.size) →
    ∃ b, (Op.eqItems (d + 1) 5 1 (strCells s).toArray (strCells t).toArray is).run Try.prog w = .ok b w ∧ (b = true ↔ ∀ i ∈ is, s.data[i]? = t.data[i]?)
  | [], _ => ⟨true, by simp [Op.eqItems], by simp⟩
  | i :: is, hs => by
    obtain ⟨b, hb1, hb2⟩ := eqItems_bytes d s t w is (fun j hj => hs j (List.mem_cons_of_mem _ hj))
    obtain ⟨h1, h2⟩ := hs i List.mem_cons_self
    have e1 := part5 _ _ _ w (strA_get s i h1)
    have e2 := part5 _ _ _ w (strA_get t i h2)
    have e3 : (Op.equalIn (d + 1) 5 (.int .u8 ((s[i]'h1).toNat : Int)) (.int .u8 ((t[i]'h2).toNat : Int))).run Try.prog w = .ok (((s[i]'h1).toNat : Int) == ((t[i]'h2).toNat : Int)) w := run_equalIn_int w d 5 .u8 .u8 _ _ Try.underlying5
    have g1 : s.data[i]? = some (s[i]'h1) := Array.getElem?_eq_getElem h1
    have g2 : t.data[i]? = some (t[i]'h2) := Array.getElem?_eq_getElem h2
    by_cases he : (s[i]'h1) = (t[i]'h2)
    · refine ⟨b, ?_, ?_⟩
      · unfold Op.eqItems
        have : ((((s[i]'h1).toNat : Int)) == ((t[i]'h2).toNat : Int)) = true := by rw [beq_iff_eq, he]
        simp only [Nat.mul_one, Sem.run_bind, e1, e2, e3, Result.andThen_ok, this, Bool.not_true, Bool.false_eq_true, if_false]
        exact hb1
      · rw [hb2]
        simp [g1, g2, he]
    · have hne : ¬ ((s[i]'h1).toNat = (t[i]'h2).toNat) := fun e => he (UInt8.toNat_inj.1 e)
      refine ⟨false, ?_, ?_⟩
      · unfold Op.eqItems
        have : ((((s[i]'h1).toNat : Int)) == ((t[i]'h2).toNat : Int)) = false := by rw [beq_eq_false_iff_ne]; omega
        simp only [Nat.mul_one, Sem.run_bind, e1, e2, e3, Result.andThen_ok, this, Bool.not_false, if_true, Sem.run_pure]
      · simp [g1, g2, he]
set_option maxRecDepth 100000 in
theorem neq144 (s t : ByteArray) (w : World) (hs : s.size = 128) (ht : t.size = 128) :
    (binOp .neq 144 (.agg (strCells s).toArray) (.agg (strCells t).toArray)).run Try.prog w = .ok (.bool (!decide (s = t))) w := by
  obtain ⟨i5, hi5, _, _, _⟩ := info_parts info5
  obtain ⟨b, hb1, hb2⟩ := eqItems_bytes 9998 s t w (List.range 128) (fun i hi => by have := List.mem_range.1 hi; omega)
  rw [run_neq_struct, show (10000 : Nat) = 9999 + 1 from rfl, run_equalIn_array w 9999 _ _ underlying144 hi5, cellsOf5, hb1, Result.andThen_ok]
  have : b = decide (s = t) := by
    rw [Bool.eq_iff_iff, hb2, decide_eq_true_eq]
    constructor
    · intro h
      apply ByteArray.ext
      apply Array.ext
      · exact hs.trans ht.symm
      · intro i h1 h2
        have := h i (List.mem_range.2 (by have : i < s.size := h1; omega))
        rw [Array.getElem?_eq_getElem h1, Array.getElem?_eq_getElem h2] at this
        exact Option.some.inj this
    · rintro rfl _ _
      rfl
  rw [this]
end Go.Proofs.Ytkhggpopohkjfaa
