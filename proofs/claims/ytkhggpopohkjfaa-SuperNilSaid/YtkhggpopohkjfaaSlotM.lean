/- Slots and records as plain data, and what cutting a record gives. Nothing of the program is in this text. -/
import Derived.WalkKit
namespace Go.Proofs.Ytkhggpopohkjfaa

/-- What is left of a record behind k pieces; the k-th piece; how many there are. -/
def dropB (s : ByteArray) (k : Nat) : ByteArray := s.extract (108 * k) s.size
def pieceB (s : ByteArray) (k : Nat) : ByteArray := s.extract (108 * k) (min (108 * k + 108) s.size)
def npc (s : ByteArray) : Nat := max 1 ((s.size + 107) / 108)

theorem dropB_zero (s : ByteArray) : dropB s 0 = s := by simp [dropB]
theorem dropB_size (s : ByteArray) (k : Nat) : (dropB s k).size = s.size - 108 * k := by simp [dropB]
theorem dropB_last {s : ByteArray} {k : Nat} (h : (dropB s k).size ≤ 108) : dropB s k = pieceB s k := by
  rw [dropB_size] at h
  unfold dropB pieceB
  rw [Nat.min_eq_right (by omega)]
theorem dropB_head (s : ByteArray) (k : Nat) : (dropB s k).extract 0 108 = pieceB s k := by
  simp [dropB, pieceB, ByteArray.extract_extract]
theorem dropB_tail {s : ByteArray} {k : Nat} (h : 108 * k ≤ s.size) : (dropB s k).extract 108 (dropB s k).size = dropB s (k + 1) := by
  rw [dropB_size]
  unfold dropB
  rw [ByteArray.extract_extract]
  congr 1 <;> omega
theorem npc_pos (s : ByteArray) : 1 ≤ npc s := by unfold npc; omega
theorem npc_le {s : ByteArray} (h : s.size ≤ 16384) : npc s ≤ 152 := by unfold npc; omega
theorem pieceB_size (s : ByteArray) (k : Nat) : (pieceB s k).size = min (108 * k + 108) s.size - 108 * k := by simp [pieceB]

/-- A slot. -/
structure SlotV where
  epoch : Int
  seq : Int
  first : Bool
  last : Bool
  data : ByteArray

/-- A record. -/
structure RecV where
  seq : Int
  next : Int
  data : ByteArray

def SlotV.cells (s : SlotV) : List Value := [.int .i64 s.epoch, .int .i64 s.seq, .bool s.first, .bool s.last, .string s.data]
def RecV.cells (s : RecV) : List Value := [.int .i64 s.seq, .int .i64 s.next, .string s.data]
def slotCells (l : List SlotV) : List Value := l.flatMap SlotV.cells
def recCells (l : List RecV) : List Value := l.flatMap RecV.cells

/-- The k-th slot of a record, the last one told as last, or none told so yet. -/
def cutAt (s : ByteArray) (e q : Int) (b : Bool) (k : Nat) : SlotV := ⟨e, q + k, k == 0, b && k + 1 == npc s, pieceB s k⟩
def cutTo (s : ByteArray) (e q : Int) (b : Bool) (k : Nat) : List SlotV := (List.range k).map (cutAt s e q b)
/-- A record, cut. -/
def cutL (s : ByteArray) (e q : Int) : List SlotV := cutTo s e q true (npc s)
def cutErr (s : ByteArray) (e q : Int) : Int :=
  if 16384 < s.size then 5 else if e < 0 ∨ 2147483647 < e ∨ q < 0 ∨ 1152921504606846976 < q + npc s - 1 then 2 else 0

theorem cutTo_succ (s : ByteArray) (e q : Int) (b : Bool) (k : Nat) : cutTo s e q b (k + 1) = cutTo s e q b k ++ [cutAt s e q b k] := by
  simp [cutTo, List.range_succ]
theorem slotCells_append (a b : List SlotV) : slotCells (a ++ b) = slotCells a ++ slotCells b := by simp [slotCells]
theorem recCells_append (a b : List RecV) : recCells (a ++ b) = recCells a ++ recCells b := by simp [recCells]
theorem slotCells_one (a : SlotV) : slotCells [a] = a.cells := by simp [slotCells]
theorem recCells_one (a : RecV) : recCells [a] = a.cells := by simp [recCells]
theorem slotCells_length (l : List SlotV) : (slotCells l).length = l.length * 5 := by
  induction l with
  | nil => rfl
  | cons a l ih => simp only [slotCells, List.flatMap_cons, List.length_append, List.length_cons] at ih ⊢; rw [ih]; simp [SlotV.cells]; omega
theorem recCells_length (l : List RecV) : (recCells l).length = l.length * 3 := by
  induction l with
  | nil => rfl
  | cons a l ih => simp only [recCells, List.flatMap_cons, List.length_append, List.length_cons] at ih ⊢; rw [ih]; simp [RecV.cells]; omega
theorem slotCells_get : ∀ (l : List SlotV) (k j : Nat) (h : k < l.length), j < 5 → (slotCells l)[k * 5 + j]? = (l[k].cells)[j]?
  | [], _, _, h, _ => by simp at h
  | a :: l, 0, j, _, hj => by
    simp only [slotCells, List.flatMap_cons, Nat.zero_mul, Nat.zero_add]
    rw [List.getElem?_append_left (by simp [SlotV.cells]; omega)]
    rfl
  | a :: l, k + 1, j, h, hj => by
    have ih := slotCells_get l k j (by simpa using h) hj
    simp only [slotCells, List.flatMap_cons] at ih ⊢
    rw [List.getElem?_append_right (by simp [SlotV.cells]; omega)]
    have e : (k + 1) * 5 + j - a.cells.length = k * 5 + j := by simp [SlotV.cells]; omega
    rw [e, ih]
    rfl
theorem recCells_get : ∀ (l : List RecV) (k j : Nat) (h : k < l.length), j < 3 → (recCells l)[k * 3 + j]? = (l[k].cells)[j]?
  | [], _, _, h, _ => by simp at h
  | a :: l, 0, j, _, hj => by
    simp only [recCells, List.flatMap_cons, Nat.zero_mul, Nat.zero_add]
    rw [List.getElem?_append_left (by simp [RecV.cells]; omega)]
    rfl
  | a :: l, k + 1, j, h, hj => by
    have ih := recCells_get l k j (by simpa using h) hj
    simp only [recCells, List.flatMap_cons] at ih ⊢
    rw [List.getElem?_append_right (by simp [RecV.cells]; omega)]
    have e : (k + 1) * 3 + j - a.cells.length = k * 3 + j := by simp [RecV.cells]; omega
    rw [e, ih]
    rfl
theorem cutTo_get (s : ByteArray) (e q : Int) (b : Bool) (n k : Nat) (h : k < (cutTo s e q b n).length) : (cutTo s e q b n)[k] = cutAt s e q b k := by simp [cutTo]
theorem cutTo_length (s : ByteArray) (e q : Int) (b : Bool) (k : Nat) : (cutTo s e q b k).length = k := by simp [cutTo]

/-- The row behind 'the last one is told as last'. -/
theorem cutL_of_part (s : ByteArray) (e q : Int) :
    slotCells (cutL s e q) = (slotCells (cutTo s e q false (npc s))).set (5 * (npc s - 1) + 3) (.bool true) := by
  obtain ⟨m, hm⟩ : ∃ m, npc s = m + 1 := ⟨npc s - 1, by have := npc_pos s; omega⟩
  have h1 : cutTo s e q true m = cutTo s e q false m := by
    unfold cutTo
    refine List.map_congr_left fun k hk => ?_
    have hk := List.mem_range.1 hk
    have : (k + 1 == npc s) = false := by rw [hm]; simp; omega
    simp [cutAt, this]
  unfold cutL
  rw [hm, cutTo_succ, cutTo_succ, slotCells_append, slotCells_append, h1, slotCells_one, slotCells_one]
  have hl : (slotCells (cutTo s e q false m)).length = 5 * m := by rw [slotCells_length, cutTo_length]; omega
  rw [Nat.add_sub_cancel, List.set_append_right _ _ (by omega), hl]
  congr 1
  rw [show 5 * m + 3 - 5 * m = 3 by omega]
  simp [SlotV.cells, cutAt, hm]
end Go.Proofs.Ytkhggpopohkjfaa
