/- Numbers as bytes, the checksum, a slot's bytes: plain definitions and laws. No condition but what each names. -/
import Derived.Test.YtkhggpopohkjfaaBytes
import Derived.Test.YtkhggpopohkjfaaSlotM
namespace Go.Proofs.Ytkhggpopohkjfaa
open Go.Lib

/-- The byte of a number that counts 256 to the i. -/
def byteAt (n i : Nat) : Nat := n / 256 ^ i % 256
/-- The first j of a number's k bytes, the greatest one first. -/
def beTo (k n j : Nat) : List UInt8 := (List.range j).map fun m => UInt8.ofNat (byteAt n (k - 1 - m))
def beB (k n : Nat) : ByteArray := ⟨(beTo k n k).toArray⟩
theorem beTo_succ (k n j : Nat) : beTo k n (j + 1) = beTo k n j ++ [UInt8.ofNat (byteAt n (k - 1 - j))] := by simp [beTo, List.range_succ]
theorem beTo_length (k n j : Nat) : (beTo k n j).length = j := by simp [beTo]
theorem beB_size (k n : Nat) : (beB k n).size = k := by simp [beB, ByteArray.size, beTo_length]
/-- Bytes as cells. -/
def cells8 (l : List UInt8) : List Value := l.map fun b => .int .u8 b.toNat
theorem cells8_append (a b : List UInt8) : cells8 (a ++ b) = cells8 a ++ cells8 b := by simp [cells8]
theorem strCells_beB (k n : Nat) : strCells (beB k n) = cells8 (beTo k n k) := by simp [strCells, beB, cells8]
theorem ofNat_byte (n i : Nat) : ((UInt8.ofNat (byteAt n i)).toNat : Int) = ((n : Int) / 256 ^ i) % 256 := by
  have h : (UInt8.ofNat (byteAt n i)).toNat = byteAt n i := by
    unfold byteAt
    simp
  rw [h]
  unfold byteAt
  simp

/-- The checksum: one bit, one byte, all. -/
def crcBit (c : Nat) : Nat := if c % 2 = 1 then (c / 2) ^^^ 2197175160 else c / 2
def crcBits : Nat → Nat → Nat
  | 0, c => c
  | k + 1, c => crcBit (crcBits k c)
def crcByte (c b : Nat) : Nat := crcBits 8 (c ^^^ b)
def crcGo (c : Nat) (l : List UInt8) : Nat := l.foldl (fun c b => crcByte c b.toNat) c
def crcOf (s : ByteArray) : Nat := crcGo 4294967295 s.data.toList ^^^ 4294967295
theorem crcBit_lt {c : Nat} (h : c < 4294967296) : crcBit c < 4294967296 := by
  unfold crcBit
  split
  · exact Nat.xor_lt_two_pow (n := 32) (by omega) (by omega)
  · omega
theorem crcBits_lt {c : Nat} (h : c < 4294967296) (k : Nat) : crcBits k c < 4294967296 := by
  induction k with
  | zero => exact h
  | succ k ih => exact crcBit_lt ih
theorem crcByte_lt {c b : Nat} (h : c < 4294967296) (hb : b < 256) : crcByte c b < 4294967296 :=
  crcBits_lt (Nat.xor_lt_two_pow (n := 32) h (by omega)) 8
theorem crcGo_lt {c : Nat} (h : c < 4294967296) (l : List UInt8) : crcGo c l < 4294967296 := by
  induction l generalizing c with
  | nil => exact h
  | cons b l ih => exact ih (crcByte_lt h (by have := b.toNat_lt; omega))
theorem crcOf_lt (s : ByteArray) : crcOf s < 4294967296 := Nat.xor_lt_two_pow (n := 32) (crcGo_lt (by decide) _) (by decide)
theorem crcGo_snoc (c : Nat) (l : List UInt8) (b : UInt8) : crcGo c (l ++ [b]) = crcByte (crcGo c l) b.toNat := by simp [crcGo]

/-- A slot's bytes. -/
def flagsN (s : SlotV) : Nat := (if s.first then 1 else 0) + (if s.last then 2 else 0)
def oneB (n : Nat) : ByteArray := ⟨#[UInt8.ofNat n]⟩
def slotHead (s : SlotV) : ByteArray :=
  oneB 83 ++ beB 1 (flagsN s) ++ beB 4 s.epoch.toNat ++ beB 8 s.seq.toNat ++ beB 2 s.data.size ++ s.data ++ zerosB (108 - s.data.size)
def slotB (s : SlotV) : ByteArray := slotHead s ++ beB 4 (crcOf (slotHead s))
theorem slotHead_size {s : SlotV} (h : s.data.size ≤ 108) : (slotHead s).size = 124 := by
  simp only [slotHead, ByteArray.size_append, beB_size, zerosB_size]
  have : (oneB 83).size = 1 := rfl
  omega
theorem slotB_size {s : SlotV} (h : s.data.size ≤ 108) : (slotB s).size = 128 := by
  simp only [slotB, ByteArray.size_append, beB_size, slotHead_size h]
end Go.Proofs.Ytkhggpopohkjfaa
