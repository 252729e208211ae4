/- Rows of bytes as texts. No condition. -/
import Derived.Test.YtkhggpopohkjfaaBase
import Derived.Test.YtkhggpopohkjfaaInfo
import Derived.Lib.AppendStr
import Derived.Laws.BytesArg
namespace Go.Proofs.Ytkhggpopohkjfaa
open Go.RowKit Go.Proofs Go.Lib

theorem strCells_append (a b : ByteArray) : strCells (a ++ b) = strCells a ++ strCells b := by
  simp [strCells, ByteArray.data_append]
theorem strCells_empty : strCells ByteArray.empty = [] := rfl
theorem strCells_get (s : ByteArray) (j : Nat) (h : j < s.size) : (strCells s)[j]? = some (.int .u8 (s[j]'h).toNat) := by
  unfold strCells
  rw [List.getElem?_map]
  have h2 : j < s.data.toList.length := by rw [Array.length_toList]; exact h
  rw [List.getElem?_eq_getElem h2]
  rfl

/-- The numbers of a text. -/
def nums8 (s : ByteArray) : List Int := s.data.toList.map fun b => (b.toNat : Int)
theorem nums8_length (s : ByteArray) : (nums8 s).length = s.size := by
  rw [nums8, List.length_map, Array.length_toList]; rfl
theorem strOf_nums8 (s : ByteArray) : strOfNums (nums8 s) = s := by
  apply ByteArray.ext
  apply Array.ext'
  rw [strOfNums_data]
  simp [nums8, List.map_map, Function.comp_def]
theorem strCells_nums8 (s : ByteArray) : strCells s = (nums8 s).map (Value.int .u8) := by simp [strCells, nums8, List.map_map, Function.comp_def]

/-- 'string(b)' of a row of one's own. -/
theorem own_str {w : World} {base : Nat} {v : Value} {s : ByteArray} {n : Nat} (h : w.ownsRow base 5 1 v n (strCells s)) : (convert 42 9 v).run Try.prog w = .ok (.string s) w := by
  have hl : s.size = n := by have := h.1; rw [strCells_length] at this; omega
  rcases h.2 with ⟨rfl, rfl⟩ | ⟨g, cap, cur, rfl, _⟩
  · have hs : s = ByteArray.empty := ByteArray.ext (Array.eq_empty_of_size_eq_zero hl)
    subst hs
    exact run_convert_bytes_nil w 42 5 Try.underlying42 Try.underlying5 0 0 9 Try.underlying9
  · have hr := run_convert_bytes_arg (P := Try.prog) w 42 5 Try.underlying42 Try.underlying5 g 0 n cap (nums8 s) (by rw [nums8_length, hl]) (fun i hi => by
      have hc := h.cellAt i (by omega)
      rw [Nat.zero_add, hc, strCells_nums8, List.getElem?_map, List.getD_eq_getElem?_getD, List.getElem?_eq_getElem (by rw [nums8_length]; omega)]
      rfl) 9 Try.underlying9
    rw [strOf_nums8] at hr
    exact hr
/-- n noughts; the block that a make of so many bytes lays. -/
def zerosB (n : Nat) : ByteArray := ⟨(List.replicate n 0).toArray⟩
def zeroObj (n : Nat) : Obj := .cells (madeCells #[.int .u8 0] n) 5
theorem zerosB_size (n : Nat) : (zerosB n).size = n := by simp [zerosB, ByteArray.size]
theorem strCells_zerosB (n : Nat) : strCells (zerosB n) = List.replicate n (.int .u8 0) := by simp [strCells, zerosB]
theorem make8 (w : World) (n : Nat) (h : n ≤ 281474976710656) :
    (Instr.makeSlice 42 (.int .i64 (n : Int)) (.int .i64 (n : Int))).run Try.prog w = .ok (.slice (some ⟨w.heap.size, 0, none⟩) n n) (w.alloc (zeroObj n)) := by
  obtain ⟨i, hi, hz0, hz1, hz2⟩ := info_parts info5
  have hr := run_make (P := Try.prog) w 42 5 i (.int .u8 0) Try.underlying42 hi hz0 .i64 .i64 (n : Int) (n : Int) (by omega) (Int.le_refl _) (by rw [hz2]; omega) (by omega)
  rw [hz1, Int.toNat_natCast, Nat.mul_one] at hr
  exact hr
theorem make8_own (w : World) (n base : Nat) (h : n ≤ maxLen) (hb : base ≤ w.heap.size) : (w.alloc (zeroObj n)).ownsRow base 5 1 (.slice (some ⟨w.heap.size, 0, none⟩) n n) n (strCells (zerosB n)) := by
  have := World.ownsRow_lit (base := base) (size := 1) (e := 5) w (madeCells #[.int .u8 0] n) n hb h (by simp [madeCells])
  rw [toList_madeCells_one] at this
  rw [strCells_zerosB]
  exact this

end Go.Proofs.Ytkhggpopohkjfaa
