/- tag.Sum: the checksum of a row's bytes. Premise: the row's cells are the text's bytes. -/
import Derived.Test.YtkhggpopohkjfaaEnc
import Derived.Laws.BitsAllLaws
import Derived.WalkLawsBesides
import Derived.OwnWalk
namespace Go.Proofs.Ytkhggpopohkjfaa
open Go.RowKit Go.Proofs Go.Lib

theorem crcBits_comm (k c : Nat) : crcBits (k + 1) c = crcBit (crcBits k c) := rfl

set_option maxRecDepth 100000 in
set_option maxHeartbeats 2000000 in
theorem sum_any (a : Addr) (n cap : Nat) (l : List UInt8) (w : World) (hl : l.length = n) (hn : n ≤ 1000000000)
    (hc : ∀ i (h : i < l.length), w.cell? (a.add i) = some (.int .u8 (l[i]).toNat)) :
    Calls Try.prog 83 #[.slice (some a) n cap] w fun e w' => e = .returned (.int .i64 (crcGo 4294967295 l ^^^ 4294967295 : Nat)) ∧ Keep [] w w' := by
  have HC := Lib.hid hc
  clear hc
  go_enter Try.func83, Try.ntmps83
  go_wp2
  go_loopw [3, 8] (fun c i wr => ∃ j : Nat, j ≤ n ∧ i = .int .i64 j ∧ c = .int .u32 (crcGo 4294967295 (l.take j) : Nat) ∧ wr = w) (fun _ i _ => ((n : Int) - intOf i).toNat)
  case atStart => exact ⟨0, by omega, rfl, rfl, rfl⟩
  case round =>
    obtain ⟨j, hj, rfl, rfl, rfl⟩ := hrel
    by_cases hlt : j < n
    · obtain ⟨c, hcd⟩ : ∃ c, crcGo 4294967295 (l.take j) = c := ⟨_, rfl⟩
      rw [hcd]
      obtain ⟨b, hb⟩ : ∃ b, (l[j]'(by omega)).toNat = b := ⟨_, rfl⟩
      have hb2 : b < 256 := by have := (l[j]'(by omega)).toNat_lt; omega
      have hcell := HC.out j (by omega)
      rw [hb] at hcell
      have hc3 : c < 4294967296 := by have := crcGo_lt (c := 4294967295) (by decide) (l.take j); omega
      have hxor : bits .xor .u32 (c : Int) (b : Int) = ((c ^^^ b : Nat) : Int) := u32_xor_nat c b hc3 (by omega)
      have hbyte : crcGo 4294967295 (l.take (j + 1)) = crcByte c b := by rw [List.take_add_one, List.getElem?_eq_getElem (by omega), Option.toList_some, crcGo_snoc, hcd, hb]
      have hx3 : c ^^^ b < 4294967296 := Nat.xor_lt_two_pow (n := 32) hc3 (by omega)
      have HB := Lib.hid hbyte
      clear hbyte
      unfold crcByte at HB
      generalize c ^^^ b = c0 at *
      go_wp2
      clear hxor hcd hcell hb
      go_loopw [3, 16] (fun c i wr' => ∃ k : Nat, k ≤ 8 ∧ i = .int .i64 k ∧ c = .int .u32 (crcBits k c0 : Nat) ∧ wr' = wr) (fun _ i _ => ((8 : Int) - intOf i).toNat)
      case atStart => exact ⟨0, by omega, rfl, rfl, rfl⟩
      case round =>
        obtain ⟨k, hk, rfl, rfl, rfl⟩ := hrel
        by_cases hk8 : k < 8
        · obtain ⟨d, hd⟩ : ∃ d, crcBits k c0 = d := ⟨_, rfl⟩
          rw [hd]
          have hd2 : d < 4294967296 := hd ▸ crcBits_lt hx3 k
          have hd4 : crcBits (k + 1) c0 = crcBit d := by rw [← hd]; rfl
          have HD := Lib.hid hd4
          clear hd4 hd
          have hand : bits .and .u32 (d : Int) 1 = ((d &&& 1 : Nat) : Int) := u32_and_nat d 1 hd2 (by decide)
          rw [Nat.and_one_is_mod] at hand
          rcases Nat.mod_two_eq_zero_or_one d with h | h
          · rw [h] at hand
            have hand2 : bits .and .u32 (d : Int) 1 = 0 := hand
            clear hand
            have hA : bits .and .u32 2197175160 0 = 0 := u32_and_nat 2197175160 0 (by decide) (by decide)
            have hx : bits .xor .u32 ((d : Int) / 2) 0 = ((crcBit d : Nat) : Int) := by
              have e := u32_xor_nat (d / 2) 0 (by omega) (by decide)
              have e2 : crcBit d = d / 2 := by unfold crcBit; rw [if_neg (by omega)]
              rw [e2]
              simpa using e
            clear h
            go_wp2
            exact ⟨⟨k + 1, by omega, by go_num, by rw [HD.out], trivial⟩, by simp [intOf]; omega⟩
          · rw [h] at hand
            have hand2 : bits .and .u32 (d : Int) 1 = 1 := hand
            clear hand
            have hA : bits .and .u32 2197175160 4294967295 = 2197175160 := u32_and_nat 2197175160 4294967295 (by decide) (by decide)
            have hx : bits .xor .u32 ((d : Int) / 2) 2197175160 = ((crcBit d : Nat) : Int) := by
              have e := u32_xor_nat (d / 2) 2197175160 (by omega) (by decide)
              have e2 : crcBit d = d / 2 ^^^ 2197175160 := by unfold crcBit; rw [if_pos (by omega)]
              rw [e2]
              simpa using e
            clear h
            go_wp2
            exact ⟨⟨k + 1, by omega, by go_num, by rw [HD.out], trivial⟩, by simp [intOf]; omega⟩
        · obtain rfl : k = 8 := by omega
          go_wp2
          exact ⟨⟨j + 1, by omega, by go_num, by rw [HB.out], trivial⟩, by simp [intOf]; omega⟩
    · obtain rfl : j = n := by omega
      have ht : l.take j = l := List.take_of_length_le (by omega)
      rw [ht]
      have hx1 : crcGo 4294967295 l < 4294967296 := crcGo_lt (by decide) l
      have hx2 : crcGo 4294967295 l ^^^ 4294967295 < 4294967296 := Nat.xor_lt_two_pow (n := 32) hx1 (by decide)
      have hmax : bits .xor .u32 IntKind.u32.max ((crcGo 4294967295 l : Nat) : Int) = ((crcGo 4294967295 l ^^^ 4294967295 : Nat) : Int) := by
        have e := u32_xor_nat 4294967295 (crcGo 4294967295 l) (by decide) hx1
        rw [Nat.xor_comm]
        exact e
      generalize hr : crcGo 4294967295 l ^^^ 4294967295 = r at hx2 hmax
      have HR := Lib.hid hr
      clear hr
      generalize crcGo 4294967295 l = c at hmax ⊢
      go_wp2
      go_ret
      exact ⟨congrArg (fun x => Ending.returned (.int .i64 x)) ((IntWalk.wrap64_in r (by omega)).trans (by rw [HR.out])), Keep.refl _ _⟩

/-- .. of a row of one's own. -/
theorem sum_own {w : World} {base n : Nat} {v : Value} {s : ByteArray} (h : w.ownsRow base 5 1 v n (strCells s)) (hn : n ≤ 1000000000) (hpos : 0 < n) :
    Calls Try.prog 83 #[v] w fun e w' => e = .returned (.int .i64 (crcOf s)) ∧ Keep [] w w' := by
  have hl : s.size = n := by have := h.1; rw [strCells_length] at this; omega
  have hl2 : s.data.toList.length = n := by rw [← hl]; rfl
  rcases h.2 with ⟨rfl, rfl⟩ | ⟨g, cap, cur, rfl, _⟩
  · omega
  · refine sum_any ⟨g, 0, none⟩ n cap s.data.toList w hl2 hn ?_
    intro i hi
    refine h.cells rfl i _ ?_
    simp only [strCells, List.getElem?_map]
    rw [List.getElem?_eq_getElem hi]
    rfl
end Go.Proofs.Ytkhggpopohkjfaa
