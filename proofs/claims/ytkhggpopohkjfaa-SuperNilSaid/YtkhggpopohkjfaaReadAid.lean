/- slot.Read: bytes read as a slot. Premise: no more than 10^9 bytes. -/
import Derived.Test.YtkhggpopohkjfaaNewRd
import Derived.Test.YtkhggpopohkjfaaSum
import Derived.Test.YtkhggpopohkjfaaCheck
import Derived.Laws.ResultCell
namespace Go.Proofs.Ytkhggpopohkjfaa
open Go.RowKit Go.Proofs Go.Lib

/-- What bytes say of a slot: how many bytes of data, the flags, the slot, the sum. -/
def numAt (s : ByteArray) (p k : Nat) : Nat := beNum (bytesAt s p k)
def decS (s : ByteArray) : SlotV := ⟨numAt s 2 4, wrap64 (numAt s 6 8), decide (numAt s 1 1 % 2 = 1), decide (numAt s 1 1 / 2 % 2 = 1), s.extract 16 (16 + numAt s 14 2)⟩
def zero0 : SlotV := ⟨0, 0, false, false, ByteArray.empty⟩
/-- The bytes behind the data, up to the sum, are noughts. -/
def noughts (s : ByteArray) (p q : Nat) : Bool := (List.range (q - p)).all fun i => numAt s (p + i) 1 == 0
def readOk (s : ByteArray) : Bool :=
  decide (s.size = 128) && decide (numAt s 0 1 = 83) && decide (numAt s 14 2 ≤ 108) && decide (numAt s 1 1 ≤ 3) && noughts s (16 + numAt s 14 2) 124 &&
  okSlot (decS s) && decide (numAt s 124 4 = crcOf (s.extract 0 124))
def readS (s : ByteArray) : SlotV := if readOk s then decS s else zero0
def readE (s : ByteArray) : Int := if readOk s then 0 else 4

set_option maxRecDepth 100000 in
theorem read_short (p : Option Addr) (n cap : Nat) (w : World) (h : n ≠ 128) :
    Calls Try.prog 59 #[.slice p n cap] w fun e w' => e = .returned (.tuple #[zero0.val, .int .i64 4]) ∧ Keep [] w w' := by
  have h2 : ¬ ((n : Int) = 128) := by omega
  unfold zero0 SlotV.val
  go_enter Try.func59, Try.ntmps59
  go_wp2
  refine bodyPost_ret (v := .tuple #[.agg #[.int .i64 0, .int .i64 0, .bool false, .bool false, .string ByteArray.empty], .int .i64 4]) ?_ rfl ⟨rfl, (Keep.refl _ _).alloc _⟩
  rw [results_cell_tmp rfl]
  go_simp
  rfl

theorem bytesAt_extract (s : ByteArray) (a b p k : Nat) (h : a + p + k ≤ b) (_ : b ≤ s.size) : bytesAt (s.extract a b) p k = bytesAt s (a + p) k := by
  unfold bytesAt
  have e : (s.extract a b).data.toList = (s.data.toList.drop a).take (b - a) := by simp
  rw [e, List.drop_take, List.drop_drop, List.take_take]
  congr 1
  omega
theorem numAt_extract (s : ByteArray) (a b p k : Nat) (h : a + p + k ≤ b) (hb : b ≤ s.size) : numAt (s.extract a b) p k = numAt s (a + p) k := by
  unfold numAt
  rw [bytesAt_extract s a b p k h hb]
theorem numAt_one (s : ByteArray) (p : Nat) (h : p < s.size) : numAt s p 1 = (s[p]'h).toNat := by
  have e : bytesAt s p 1 = [s[p]'h] := by
    have := bytesAt_succ (s := s) (p := p) (k := 0) (by omega)
    simpa [bytesAt] using this
  unfold numAt
  rw [e]
  simp [beNum]
theorem numAt_lt (s : ByteArray) (p k : Nat) (h : p + k ≤ s.size) : numAt s p k < 256 ^ k := by
  have := beNum_lt (bytesAt s p k)
  rw [bytesAt_length h] at this
  exact this
theorem Str8.extract {w : World} {r o : Nat} {s : ByteArray} (h : Str8 w r o s) (a b : Nat) (hb : b ≤ s.size) : Str8 w r (o + a) (s.extract a b) := by
  intro i hi
  have hi2 : i < b - a := by simpa [Nat.min_eq_left hb] using hi
  have := h (a + i) (by omega)
  rw [Nat.add_assoc, this]
  congr 2
  simp [ByteArray.getElem_eq_getElem_data]
theorem Str8.conv {w : World} {r o n cap : Nat} {s : ByteArray} (h : Str8 w r o s) (hn : s.size = n) : (convert 42 9 (.slice (some ⟨r, o, none⟩) n cap)).run Try.prog w = .ok (.string s) w := by
  have hr := run_convert_bytes_arg (P := Try.prog) w 42 5 Try.underlying42 Try.underlying5 r o n cap (nums8 s) (by rw [nums8_length, hn]) (fun i hi => by
    have hc := h i (by omega)
    rw [hc, List.getD_eq_getElem?_getD, List.getElem?_eq_getElem (by rw [nums8_length]; omega)]
    simp [nums8]
    rfl) 9 Try.underlying9
  rw [strOf_nums8] at hr
  exact hr
end Go.Proofs.Ytkhggpopohkjfaa
