/- The reference's Number: bytes of a text as a number. Premises: they are there, no more than eight. -/
import Derived.Test.YtkhggpopohkjfaaNum
import Derived.Laws.BitsAllLaws
import Derived.WalkLawsBesides
import Derived.OwnWalk
namespace Go.Proofs.Ytkhggpopohkjfaa
open Go.RowKit Go.Proofs Go.Lib

theorem or_byte (x b : Nat) (hx : x < 72057594037927936) (hb : b < 256) : bits .or .u64 ((x : Int) * 256) (b : Int) = ((x * 256 + b : Nat) : Int) := by
  have h := u64_or_nat (x * 256) b (by omega) (by omega)
  rw [show ((x * 256 : Nat) : Int) = (x : Int) * 256 from Int.natCast_mul x 256] at h
  rw [h]
  congr 1
  have := Nat.shiftLeft_add_eq_or_of_lt (i := 8) (b := b) (by omega) x
  rw [Nat.shiftLeft_eq, show 2 ^ 8 = 256 from rfl] at this
  omega

/-- k bytes of a text from the p-th on. -/
def bytesAt (s : ByteArray) (p k : Nat) : List UInt8 := (s.data.toList.drop p).take k
theorem bytesAt_succ {s : ByteArray} {p k : Nat} (h : p + k < s.size) : bytesAt s p (k + 1) = bytesAt s p k ++ [s[p + k]'h] := by
  unfold bytesAt
  have hl : s.data.toList.length = s.size := rfl
  rw [List.take_add_one, List.getElem?_drop, List.getElem?_eq_getElem (by omega)]
  rfl
theorem bytesAt_length {s : ByteArray} {p k : Nat} (h : p + k ≤ s.size) : (bytesAt s p k).length = k := by
  unfold bytesAt
  have hl : s.data.toList.length = s.size := rfl
  rw [List.length_take, List.length_drop]
  omega

set_option maxRecDepth 100000 in
set_option maxHeartbeats 2000000 in
theorem number_same (s : ByteArray) (p k : Nat) (w : World) (hk : k ≤ 8) (hp : p + k ≤ s.size) (hs : s.size ≤ 1000000000) :
    Calls Try.prog 112 #[.string s, .int .i64 p, .int .i64 k] w fun e w' => e = .returned (.int .i64 (wrap64 (beNum (bytesAt s p k) : Nat))) ∧ w = w' := by
  go_enter Try.func112, Try.ntmps112
  go_wp2
  go_loopw [7, 8] (fun c i wr => ∃ j : Nat, j ≤ k ∧ i = .int .i64 j ∧ c = .int .u64 (beNum (bytesAt s p j) : Nat) ∧ wr = w) (fun _ i => fun _ => ((k : Int) - intOf i).toNat)
  case atStart => exact ⟨0, by omega, rfl, by simp [bytesAt, beNum], rfl⟩
  case round =>
    obtain ⟨j, hj, rfl, rfl, rfl⟩ := hrel
    by_cases hlt : j < k
    · obtain ⟨x, hx⟩ : ∃ x, beNum (bytesAt s p j) = x := ⟨_, rfl⟩
      rw [hx]
      have hpj : p + j < s.size := by omega
      obtain ⟨b, hb⟩ : ∃ b, (s[p + j]'hpj).toNat = b := ⟨_, rfl⟩
      have hb2 : b < 256 := by have := (s[p + j]'hpj).toNat_lt; omega
      have hnext : beNum (bytesAt s p (j + 1)) = x * 256 + b := by rw [bytesAt_succ hpj, beNum_snoc, hx, hb]
      have hx2 : x < 72057594037927936 := by
        have h := beNum_lt (bytesAt s p j)
        rw [bytesAt_length (by omega), hx] at h
        have : 256 ^ j ≤ 256 ^ 7 := Nat.pow_le_pow_right (by decide) (by omega)
        have h7 : 256 ^ 7 = 72057594037927936 := rfl
        omega
      have hor := or_byte x b hx2 hb2
      have HN := Lib.hid hnext
      clear hnext hx
      go_wp2
      exact ⟨⟨j + 1, by omega, by go_num, by rw [HN.out, Int.natCast_add, Int.natCast_mul]; rfl, trivial⟩, by simp [intOf]; omega⟩
    · obtain rfl : j = k := by omega
      obtain ⟨x, hx⟩ : ∃ x, beNum (bytesAt s p j) = x := ⟨_, rfl⟩
      have hx2 : x < 18446744073709551616 := by
        have h := beNum_lt (bytesAt s p j)
        rw [bytesAt_length (by omega), hx] at h
        have : 256 ^ j ≤ 256 ^ 8 := Nat.pow_le_pow_right (by decide) (by omega)
        have h7 : 256 ^ 8 = 18446744073709551616 := rfl
        omega
      rw [hx]
      have HX := Lib.hid hx
      clear hx
      go_wp2
      go_ret
      exact ⟨by rw [HX.out]; rfl, rfl⟩

theorem number_any (s : ByteArray) (p k : Nat) (w : World) (hk : k ≤ 8) (hp : p + k ≤ s.size) (hs : s.size ≤ 1000000000) :
    Calls Try.prog 112 #[.string s, .int .i64 p, .int .i64 k] w fun e w' => e = .returned (.int .i64 (wrap64 (beNum (bytesAt s p k) : Nat))) ∧ Keep [] w w' :=
  (number_same s p k w hk hp hs).mono fun _ _ ⟨he, hw⟩ => ⟨he, hw ▸ Keep.refl _ _⟩
end Go.Proofs.Ytkhggpopohkjfaa
