/- The reference's Sum: the checksum of a text. Premise: no more than 10^9 bytes. -/
import Derived.Test.YtkhggpopohkjfaaEnc
import Derived.Laws.BitsAllLaws
import Derived.WalkLawsBesides
import Derived.OwnWalk
namespace Go.Proofs.Ytkhggpopohkjfaa
open Go.RowKit Go.Proofs Go.Lib

set_option maxRecDepth 100000 in
set_option maxHeartbeats 2000000 in
theorem refsum_any (s : ByteArray) (w : World) (hn : s.size ≤ 1000000000) :
    Calls Try.prog 126 #[.string s] w fun e w' => e = .returned (.int .i64 (crcOf s)) ∧ Keep [] w w' := by
  have hlen : s.data.toList.length = s.size := rfl
  unfold crcOf
  go_enter Try.func126, Try.ntmps126
  go_wp2
  go_loopw [3, 4] (fun c i wr => ∃ j : Nat, j ≤ s.size ∧ i = .int .i64 j ∧ c = .int .u32 (crcGo 4294967295 (s.data.toList.take j) : Nat) ∧ wr = w) (fun _ i _ => ((s.size : Int) - intOf i).toNat)
  case atStart => exact ⟨0, by omega, rfl, rfl, rfl⟩
  case round =>
    obtain ⟨j, hj, rfl, rfl, rfl⟩ := hrel
    by_cases hlt : j < s.size
    · obtain ⟨c, hcd⟩ : ∃ c, crcGo 4294967295 (s.data.toList.take j) = c := ⟨_, rfl⟩
      rw [hcd]
      have hsj : s.data.toList[j]'(by omega) = s[j]'hlt := rfl
      obtain ⟨b, hb⟩ : ∃ b, (s[j]'hlt).toNat = b := ⟨_, rfl⟩
      have hb2 : b < 256 := by have := (s[j]'hlt).toNat_lt; omega
      have hc3 : c < 4294967296 := by have := crcGo_lt (c := 4294967295) (by decide) (s.data.toList.take j); omega
      have hxor : bits .xor .u32 (c : Int) (b : Int) = ((c ^^^ b : Nat) : Int) := u32_xor_nat c b hc3 (by omega)
      have hbyte : crcGo 4294967295 (s.data.toList.take (j + 1)) = crcByte c b := by rw [List.take_add_one, List.getElem?_eq_getElem (by omega), Option.toList_some, crcGo_snoc, hcd, hsj, hb]
      have hx3 : c ^^^ b < 4294967296 := Nat.xor_lt_two_pow (n := 32) hc3 (by omega)
      have HB := Lib.hid hbyte
      clear hbyte
      unfold crcByte at HB
      clear hsj
      generalize c ^^^ b = c0 at *
      go_wp2
      clear hxor hcd hb
      go_loopw [3, 5, 6] (fun c i _ wr' => ∃ k : Nat, k ≤ 8 ∧ i = .int .i64 k ∧ c = .int .u32 (crcBits k c0 : Nat) ∧ wr' = wr) (fun _ i _ _ => ((8 : Int) - intOf i).toNat)
      case atStart => exact ⟨0, by omega, rfl, rfl, rfl⟩
      case round =>
        obtain ⟨k, hk, rfl, rfl, rfl⟩ := hrel
        by_cases hk8 : k < 8
        · obtain ⟨d, hd⟩ : ∃ d, crcBits k c0 = d := ⟨_, rfl⟩
          rw [hd]
          have hd2 : d < 4294967296 := hd ▸ crcBits_lt hx3 k
          have hd4 : crcBits (k + 1) c0 = crcBit d := by rw [← hd]; rfl
          have HD := Lib.hid hd4
          clear hd4 hd
          have hand : bits .and .u32 (d : Int) 1 = ((d &&& 1 : Nat) : Int) := u32_and_nat d 1 hd2 (by decide)
          rw [Nat.and_one_is_mod] at hand
          rcases Nat.mod_two_eq_zero_or_one d with h | h
          · rw [h] at hand
            have hand2 : bits .and .u32 (d : Int) 1 = 0 := hand
            clear hand
            have e2 : crcBit d = d / 2 := by unfold crcBit; rw [if_neg (by omega)]
            have E2 := Lib.hid e2
            clear h e2
            go_wp2
            exact ⟨⟨k + 1, by omega, by go_num, by rw [HD.out, E2.out]; rfl, trivial⟩, by simp [intOf]; omega⟩
          · rw [h] at hand
            have hand2 : bits .and .u32 (d : Int) 1 = 1 := hand
            clear hand
            have hx : bits .xor .u32 ((d : Int) / 2) 2197175160 = ((crcBit d : Nat) : Int) := by
              have e := u32_xor_nat (d / 2) 2197175160 (by omega) (by decide)
              have e2 : crcBit d = d / 2 ^^^ 2197175160 := by unfold crcBit; rw [if_pos (by omega)]
              rw [e2]
              simpa using e
            clear h
            go_wp2
            exact ⟨⟨k + 1, by omega, by go_num, by rw [HD.out], trivial⟩, by simp [intOf]; omega⟩
        · obtain rfl : k = 8 := by omega
          go_wp2
          exact ⟨⟨j + 1, by omega, by go_num, by rw [HB.out], trivial⟩, by simp [intOf]; omega⟩
    · obtain rfl : j = s.size := by omega
      have ht : s.data.toList.take s.size = s.data.toList := List.take_of_length_le (by omega)
      rw [ht]
      have hx1 : crcGo 4294967295 s.data.toList < 4294967296 := crcGo_lt (by decide) _
      have hx2 : crcGo 4294967295 s.data.toList ^^^ 4294967295 < 4294967296 := Nat.xor_lt_two_pow (n := 32) hx1 (by decide)
      have hmax : bits .xor .u32 ((crcGo 4294967295 s.data.toList : Nat) : Int) 4294967295 = ((crcGo 4294967295 s.data.toList ^^^ 4294967295 : Nat) : Int) := by
        exact u32_xor_nat (crcGo 4294967295 s.data.toList) 4294967295 hx1 (by decide)
      generalize hr : crcGo 4294967295 s.data.toList ^^^ 4294967295 = r at hx2 hmax
      have HR := Lib.hid hr
      clear hr
      generalize crcGo 4294967295 s.data.toList = c at hmax ⊢
      go_wp2
      go_ret
      exact ⟨congrArg (fun x => Ending.returned (.int .i64 x)) (by rw [HR.out]), Keep.refl _ _⟩
end Go.Proofs.Ytkhggpopohkjfaa
