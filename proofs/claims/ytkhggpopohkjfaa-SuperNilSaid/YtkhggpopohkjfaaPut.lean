/- field.put at its four kinds: a number's bytes behind a row of one's own. Premises: the number is of its kind's range, the row is short. Printed by wip/genput.py. -/
import Derived.Test.YtkhggpopohkjfaaEnc
import Derived.Laws.BitsAllLaws
import Derived.WalkLawsBesides
import Derived.OwnWalk
import Derived.RangeFuncBox
import Derived.Maps.AppendAt
namespace Go.Proofs.Ytkhggpopohkjfaa
open Go.RowKit Go.Proofs Go.Lib

theorem cells8_byte (n i : Nat) (V : Int) (h : (n : Int) / 256 ^ i % 256 = V) : cells8 [UInt8.ofNat (byteAt n i)] = [.int .u8 V] := by
  simp only [cells8, List.map]
  rw [ofNat_byte, h]

set_option maxRecDepth 100000 in
set_option maxHeartbeats 2000000 in
theorem put32_any (v : Value) (n0 : Nat) (xs : List Value) (base : Nat) (x : Nat) (w : World) (h : w.ownsRow base 5 1 v n0 xs) (hb : base ≤ w.heap.size) (hn : n0 ≤ 1000000) (hx : x < 4294967296) :
    Calls Try.prog 123 #[v, .int .u32 x, .int .i64 4] w fun e w' => ∃ v', e = .returned v' ∧ w'.ownsRow base 5 1 v' (n0 + 4) (xs ++ cells8 (beTo 4 x 4)) ∧ Below base w w' := by
  obtain ⟨i5, hi5, hz50, hz51, hz52⟩ := info_parts info5
  have hx2 : (x : Int) < 4294967296 := by omega
  have hst : w.ownsRow base 5 1 v (n0 + 0) (xs ++ cells8 (beTo 4 x 0)) := by simpa [beTo, cells8] using h
  have HST := Lib.hid hst
  have hb0 : 0 ≤ (x : Int) := by omega
  clear hst h
  go_enter Try.func123, Try.ntmps123
  go_wp2
  go_loopw [0, 7] (fun va i wr => ∃ (j : Nat) (i0 : Int), i = .int .i64 i0 ∧ i0 = 3 - (j : Int) ∧ j ≤ 4 ∧ wr.ownsRow base 5 1 va (n0 + j) (xs ++ cells8 (beTo 4 x j)) ∧ Below base w wr ∧ base ≤ wr.heap.size) (fun _ i _ => (intOf i + 1).toNat)
  case atStart => exact ⟨0, 3, rfl, by omega, by omega, HST.out, Below.refl _ _, hb⟩
  case round =>
    obtain ⟨j, i0, rfl, hi, hj, hr, hbl, hbs⟩ := hrel
    have HR := Lib.hid hr
    clear hr
    have hcs : (j = 0 ∧ i0 = 3) ∨ (j = 1 ∧ i0 = 2) ∨ (j = 2 ∧ i0 = 1) ∨ (j = 3 ∧ i0 = 0) ∨ (j = 4 ∧ i0 = -1) := by omega
    clear hi hj
    obtain ⟨rfl, rfl⟩ | ⟨rfl, rfl⟩ | ⟨rfl, rfl⟩ | ⟨rfl, rfl⟩ | ⟨rfl, rfl⟩ := hcs
    · obtain ⟨q, hq⟩ : ∃ q : Int, (x : Int) / 16777216 = q := ⟨_, rfl⟩
      have hq0 : 0 ≤ q := by omega
      have hq1 : q < 256 := by omega
      have hv : cells8 [UInt8.ofNat (byteAt x 3)] = [.int .u8 (q)] := cells8_byte x 3 _ (by have : (256 : Int) ^ 3 = 16777216 := rfl; rw [this]; omega)
      go_wp2_with (at_builtin; refine wpList_append_own _ rfl _ _ 42 rfl base 5 i5 (.int .u8 0) 1 1 Try.underlying42 hi5 hz50 hz51 hz52 rfl (by decide) u0 (n0 + 0) (xs ++ cells8 (beTo 4 x 0)) rfl (HR.out.alloc _) ⟨wr.heap.size, 0, none⟩ 1 1 [.int .u8 (q)] rfl rfl (news_alloc wr [.int .u8 (q)] 5) (by simp [Value.oneCell']) (by unfold maxLen; omega) (by omega) (by simp; omega) ?_; intro v1 w1 hown1 hgrow1 _)
      have hs1 := hgrow1.size
      simp only [World.alloc, Array.size_push] at hs1
      exact ⟨⟨1, 2, by go_num, by omega, by omega, (by rw [beTo_succ, cells8_append, ← List.append_assoc]; exact (show 4 - 1 - 0 = 3 from rfl) ▸ hv ▸ hown1), (hbl.alloc hbs _).grown hgrow1 (by simp; omega) (fun j e => (HR.out.lt j e).1), by omega⟩, by simp [intOf]⟩
    · obtain ⟨q, hq⟩ : ∃ q : Int, (x : Int) / 65536 = q := ⟨_, rfl⟩
      have hq0 : 0 ≤ q := by omega
      have hq1 : q < 65536 := by omega
      have hv : cells8 [UInt8.ofNat (byteAt x 2)] = [.int .u8 (q % 256)] := cells8_byte x 2 _ (by have : (256 : Int) ^ 2 = 65536 := rfl; rw [this]; omega)
      go_wp2_with (at_builtin; refine wpList_append_own _ rfl _ _ 42 rfl base 5 i5 (.int .u8 0) 1 1 Try.underlying42 hi5 hz50 hz51 hz52 rfl (by decide) u0 (n0 + 1) (xs ++ cells8 (beTo 4 x 1)) rfl (HR.out.alloc _) ⟨wr.heap.size, 0, none⟩ 1 1 [.int .u8 (q % 256)] rfl rfl (news_alloc wr [.int .u8 (q % 256)] 5) (by simp [Value.oneCell']) (by unfold maxLen; omega) (by omega) (by simp; omega) ?_; intro v1 w1 hown1 hgrow1 _)
      have hs1 := hgrow1.size
      simp only [World.alloc, Array.size_push] at hs1
      exact ⟨⟨2, 1, by go_num, by omega, by omega, (by rw [beTo_succ, cells8_append, ← List.append_assoc]; exact (show 4 - 1 - 1 = 2 from rfl) ▸ hv ▸ hown1), (hbl.alloc hbs _).grown hgrow1 (by simp; omega) (fun j e => (HR.out.lt j e).1), by omega⟩, by simp [intOf]⟩
    · obtain ⟨q, hq⟩ : ∃ q : Int, (x : Int) / 256 = q := ⟨_, rfl⟩
      have hq0 : 0 ≤ q := by omega
      have hq1 : q < 16777216 := by omega
      have hv : cells8 [UInt8.ofNat (byteAt x 1)] = [.int .u8 (q % 256)] := cells8_byte x 1 _ (by have : (256 : Int) ^ 1 = 256 := rfl; rw [this]; omega)
      go_wp2_with (at_builtin; refine wpList_append_own _ rfl _ _ 42 rfl base 5 i5 (.int .u8 0) 1 1 Try.underlying42 hi5 hz50 hz51 hz52 rfl (by decide) u0 (n0 + 2) (xs ++ cells8 (beTo 4 x 2)) rfl (HR.out.alloc _) ⟨wr.heap.size, 0, none⟩ 1 1 [.int .u8 (q % 256)] rfl rfl (news_alloc wr [.int .u8 (q % 256)] 5) (by simp [Value.oneCell']) (by unfold maxLen; omega) (by omega) (by simp; omega) ?_; intro v1 w1 hown1 hgrow1 _)
      have hs1 := hgrow1.size
      simp only [World.alloc, Array.size_push] at hs1
      exact ⟨⟨3, 0, by go_num, by omega, by omega, (by rw [beTo_succ, cells8_append, ← List.append_assoc]; exact (show 4 - 1 - 2 = 1 from rfl) ▸ hv ▸ hown1), (hbl.alloc hbs _).grown hgrow1 (by simp; omega) (fun j e => (HR.out.lt j e).1), by omega⟩, by simp [intOf]⟩
    · have hv : cells8 [UInt8.ofNat (byteAt x 0)] = [.int .u8 ((x : Int) % 256)] := cells8_byte x 0 _ (by have : (256 : Int) ^ 0 = 1 := rfl; rw [this]; omega)
      go_wp2_with (at_builtin; refine wpList_append_own _ rfl _ _ 42 rfl base 5 i5 (.int .u8 0) 1 1 Try.underlying42 hi5 hz50 hz51 hz52 rfl (by decide) u0 (n0 + 3) (xs ++ cells8 (beTo 4 x 3)) rfl (HR.out.alloc _) ⟨wr.heap.size, 0, none⟩ 1 1 [.int .u8 ((x : Int) % 256)] rfl rfl (news_alloc wr [.int .u8 ((x : Int) % 256)] 5) (by simp [Value.oneCell']) (by unfold maxLen; omega) (by omega) (by simp; omega) ?_; intro v1 w1 hown1 hgrow1 _)
      have hs1 := hgrow1.size
      simp only [World.alloc, Array.size_push] at hs1
      exact ⟨⟨4, -1, by go_num, by omega, by omega, (by rw [beTo_succ, cells8_append, ← List.append_assoc]; exact (show 4 - 1 - 3 = 0 from rfl) ▸ hv ▸ hown1), (hbl.alloc hbs _).grown hgrow1 (by simp; omega) (fun j e => (HR.out.lt j e).1), by omega⟩, by simp [intOf]⟩
    · go_wp2
      go_ret
      exact ⟨_, rfl, HR.out, hbl⟩


set_option maxRecDepth 100000 in
set_option maxHeartbeats 2000000 in
theorem put8_any (v : Value) (n0 : Nat) (xs : List Value) (base : Nat) (x : Nat) (w : World) (h : w.ownsRow base 5 1 v n0 xs) (hb : base ≤ w.heap.size) (hn : n0 ≤ 1000000) (hx : x < 256) :
    Calls Try.prog 121 #[v, .int .u8 x, .int .i64 1] w fun e w' => ∃ v', e = .returned v' ∧ w'.ownsRow base 5 1 v' (n0 + 1) (xs ++ cells8 (beTo 1 x 1)) ∧ Below base w w' := by
  obtain ⟨i5, hi5, hz50, hz51, hz52⟩ := info_parts info5
  have hx2 : (x : Int) < 256 := by omega
  have hst : w.ownsRow base 5 1 v (n0 + 0) (xs ++ cells8 (beTo 1 x 0)) := by simpa [beTo, cells8] using h
  have HST := Lib.hid hst
  have hb0 : 0 ≤ (x : Int) := by omega
  clear hst h
  go_enter Try.func121, Try.ntmps121
  go_wp2
  go_loopw [0, 7] (fun va i wr => ∃ (j : Nat) (i0 : Int), i = .int .i64 i0 ∧ i0 = 0 - (j : Int) ∧ j ≤ 1 ∧ wr.ownsRow base 5 1 va (n0 + j) (xs ++ cells8 (beTo 1 x j)) ∧ Below base w wr ∧ base ≤ wr.heap.size) (fun _ i _ => (intOf i + 1).toNat)
  case atStart => exact ⟨0, 0, rfl, by omega, by omega, HST.out, Below.refl _ _, hb⟩
  case round =>
    obtain ⟨j, i0, rfl, hi, hj, hr, hbl, hbs⟩ := hrel
    have HR := Lib.hid hr
    clear hr
    have hcs : (j = 0 ∧ i0 = 0) ∨ (j = 1 ∧ i0 = -1) := by omega
    clear hi hj
    obtain ⟨rfl, rfl⟩ | ⟨rfl, rfl⟩ := hcs
    · have hv : cells8 [UInt8.ofNat (byteAt x 0)] = [.int .u8 ((x : Int))] := cells8_byte x 0 _ (by have : (256 : Int) ^ 0 = 1 := rfl; rw [this]; omega)
      go_wp2_with (at_builtin; refine wpList_append_own _ rfl _ _ 42 rfl base 5 i5 (.int .u8 0) 1 1 Try.underlying42 hi5 hz50 hz51 hz52 rfl (by decide) u0 (n0 + 0) (xs ++ cells8 (beTo 1 x 0)) rfl (HR.out.alloc _) ⟨wr.heap.size, 0, none⟩ 1 1 [.int .u8 ((x : Int))] rfl rfl (news_alloc wr [.int .u8 ((x : Int))] 5) (by simp [Value.oneCell']) (by unfold maxLen; omega) (by omega) (by simp; omega) ?_; intro v1 w1 hown1 hgrow1 _)
      have hs1 := hgrow1.size
      simp only [World.alloc, Array.size_push] at hs1
      exact ⟨⟨1, -1, by go_num, by omega, by omega, (by rw [beTo_succ, cells8_append, ← List.append_assoc]; exact (show 1 - 1 - 0 = 0 from rfl) ▸ hv ▸ hown1), (hbl.alloc hbs _).grown hgrow1 (by simp; omega) (fun j e => (HR.out.lt j e).1), by omega⟩, by simp [intOf]⟩
    · go_wp2
      go_ret
      exact ⟨_, rfl, HR.out, hbl⟩


set_option maxRecDepth 100000 in
set_option maxHeartbeats 2000000 in
theorem put64_any (v : Value) (n0 : Nat) (xs : List Value) (base : Nat) (x : Nat) (w : World) (h : w.ownsRow base 5 1 v n0 xs) (hb : base ≤ w.heap.size) (hn : n0 ≤ 1000000) (hx : x < 18446744073709551616) :
    Calls Try.prog 122 #[v, .int .u64 x, .int .i64 8] w fun e w' => ∃ v', e = .returned v' ∧ w'.ownsRow base 5 1 v' (n0 + 8) (xs ++ cells8 (beTo 8 x 8)) ∧ Below base w w' := by
  obtain ⟨i5, hi5, hz50, hz51, hz52⟩ := info_parts info5
  have hx2 : (x : Int) < 18446744073709551616 := by omega
  have hst : w.ownsRow base 5 1 v (n0 + 0) (xs ++ cells8 (beTo 8 x 0)) := by simpa [beTo, cells8] using h
  have HST := Lib.hid hst
  have hb0 : 0 ≤ (x : Int) := by omega
  clear hst h
  go_enter Try.func122, Try.ntmps122
  go_wp2
  go_loopw [0, 7] (fun va i wr => ∃ (j : Nat) (i0 : Int), i = .int .i64 i0 ∧ i0 = 7 - (j : Int) ∧ j ≤ 8 ∧ wr.ownsRow base 5 1 va (n0 + j) (xs ++ cells8 (beTo 8 x j)) ∧ Below base w wr ∧ base ≤ wr.heap.size) (fun _ i _ => (intOf i + 1).toNat)
  case atStart => exact ⟨0, 7, rfl, by omega, by omega, HST.out, Below.refl _ _, hb⟩
  case round =>
    obtain ⟨j, i0, rfl, hi, hj, hr, hbl, hbs⟩ := hrel
    have HR := Lib.hid hr
    clear hr
    have hcs : (j = 0 ∧ i0 = 7) ∨ (j = 1 ∧ i0 = 6) ∨ (j = 2 ∧ i0 = 5) ∨ (j = 3 ∧ i0 = 4) ∨ (j = 4 ∧ i0 = 3) ∨ (j = 5 ∧ i0 = 2) ∨ (j = 6 ∧ i0 = 1) ∨ (j = 7 ∧ i0 = 0) ∨ (j = 8 ∧ i0 = -1) := by omega
    clear hi hj
    obtain ⟨rfl, rfl⟩ | ⟨rfl, rfl⟩ | ⟨rfl, rfl⟩ | ⟨rfl, rfl⟩ | ⟨rfl, rfl⟩ | ⟨rfl, rfl⟩ | ⟨rfl, rfl⟩ | ⟨rfl, rfl⟩ | ⟨rfl, rfl⟩ := hcs
    · obtain ⟨q, hq⟩ : ∃ q : Int, (x : Int) / 72057594037927936 = q := ⟨_, rfl⟩
      have hq0 : 0 ≤ q := by omega
      have hq1 : q < 256 := by omega
      have hv : cells8 [UInt8.ofNat (byteAt x 7)] = [.int .u8 (q)] := cells8_byte x 7 _ (by have : (256 : Int) ^ 7 = 72057594037927936 := rfl; rw [this]; omega)
      go_wp2_with (at_builtin; refine wpList_append_own _ rfl _ _ 42 rfl base 5 i5 (.int .u8 0) 1 1 Try.underlying42 hi5 hz50 hz51 hz52 rfl (by decide) u0 (n0 + 0) (xs ++ cells8 (beTo 8 x 0)) rfl (HR.out.alloc _) ⟨wr.heap.size, 0, none⟩ 1 1 [.int .u8 (q)] rfl rfl (news_alloc wr [.int .u8 (q)] 5) (by simp [Value.oneCell']) (by unfold maxLen; omega) (by omega) (by simp; omega) ?_; intro v1 w1 hown1 hgrow1 _)
      have hs1 := hgrow1.size
      simp only [World.alloc, Array.size_push] at hs1
      exact ⟨⟨1, 6, by go_num, by omega, by omega, (by rw [beTo_succ, cells8_append, ← List.append_assoc]; exact (show 8 - 1 - 0 = 7 from rfl) ▸ hv ▸ hown1), (hbl.alloc hbs _).grown hgrow1 (by simp; omega) (fun j e => (HR.out.lt j e).1), by omega⟩, by simp [intOf]⟩
    · obtain ⟨q, hq⟩ : ∃ q : Int, (x : Int) / 281474976710656 = q := ⟨_, rfl⟩
      have hq0 : 0 ≤ q := by omega
      have hq1 : q < 65536 := by omega
      have hv : cells8 [UInt8.ofNat (byteAt x 6)] = [.int .u8 (q % 256)] := cells8_byte x 6 _ (by have : (256 : Int) ^ 6 = 281474976710656 := rfl; rw [this]; omega)
      go_wp2_with (at_builtin; refine wpList_append_own _ rfl _ _ 42 rfl base 5 i5 (.int .u8 0) 1 1 Try.underlying42 hi5 hz50 hz51 hz52 rfl (by decide) u0 (n0 + 1) (xs ++ cells8 (beTo 8 x 1)) rfl (HR.out.alloc _) ⟨wr.heap.size, 0, none⟩ 1 1 [.int .u8 (q % 256)] rfl rfl (news_alloc wr [.int .u8 (q % 256)] 5) (by simp [Value.oneCell']) (by unfold maxLen; omega) (by omega) (by simp; omega) ?_; intro v1 w1 hown1 hgrow1 _)
      have hs1 := hgrow1.size
      simp only [World.alloc, Array.size_push] at hs1
      exact ⟨⟨2, 5, by go_num, by omega, by omega, (by rw [beTo_succ, cells8_append, ← List.append_assoc]; exact (show 8 - 1 - 1 = 6 from rfl) ▸ hv ▸ hown1), (hbl.alloc hbs _).grown hgrow1 (by simp; omega) (fun j e => (HR.out.lt j e).1), by omega⟩, by simp [intOf]⟩
    · obtain ⟨q, hq⟩ : ∃ q : Int, (x : Int) / 1099511627776 = q := ⟨_, rfl⟩
      have hq0 : 0 ≤ q := by omega
      have hq1 : q < 16777216 := by omega
      have hv : cells8 [UInt8.ofNat (byteAt x 5)] = [.int .u8 (q % 256)] := cells8_byte x 5 _ (by have : (256 : Int) ^ 5 = 1099511627776 := rfl; rw [this]; omega)
      go_wp2_with (at_builtin; refine wpList_append_own _ rfl _ _ 42 rfl base 5 i5 (.int .u8 0) 1 1 Try.underlying42 hi5 hz50 hz51 hz52 rfl (by decide) u0 (n0 + 2) (xs ++ cells8 (beTo 8 x 2)) rfl (HR.out.alloc _) ⟨wr.heap.size, 0, none⟩ 1 1 [.int .u8 (q % 256)] rfl rfl (news_alloc wr [.int .u8 (q % 256)] 5) (by simp [Value.oneCell']) (by unfold maxLen; omega) (by omega) (by simp; omega) ?_; intro v1 w1 hown1 hgrow1 _)
      have hs1 := hgrow1.size
      simp only [World.alloc, Array.size_push] at hs1
      exact ⟨⟨3, 4, by go_num, by omega, by omega, (by rw [beTo_succ, cells8_append, ← List.append_assoc]; exact (show 8 - 1 - 2 = 5 from rfl) ▸ hv ▸ hown1), (hbl.alloc hbs _).grown hgrow1 (by simp; omega) (fun j e => (HR.out.lt j e).1), by omega⟩, by simp [intOf]⟩
    · obtain ⟨q, hq⟩ : ∃ q : Int, (x : Int) / 4294967296 = q := ⟨_, rfl⟩
      have hq0 : 0 ≤ q := by omega
      have hq1 : q < 4294967296 := by omega
      have hv : cells8 [UInt8.ofNat (byteAt x 4)] = [.int .u8 (q % 256)] := cells8_byte x 4 _ (by have : (256 : Int) ^ 4 = 4294967296 := rfl; rw [this]; omega)
      go_wp2_with (at_builtin; refine wpList_append_own _ rfl _ _ 42 rfl base 5 i5 (.int .u8 0) 1 1 Try.underlying42 hi5 hz50 hz51 hz52 rfl (by decide) u0 (n0 + 3) (xs ++ cells8 (beTo 8 x 3)) rfl (HR.out.alloc _) ⟨wr.heap.size, 0, none⟩ 1 1 [.int .u8 (q % 256)] rfl rfl (news_alloc wr [.int .u8 (q % 256)] 5) (by simp [Value.oneCell']) (by unfold maxLen; omega) (by omega) (by simp; omega) ?_; intro v1 w1 hown1 hgrow1 _)
      have hs1 := hgrow1.size
      simp only [World.alloc, Array.size_push] at hs1
      exact ⟨⟨4, 3, by go_num, by omega, by omega, (by rw [beTo_succ, cells8_append, ← List.append_assoc]; exact (show 8 - 1 - 3 = 4 from rfl) ▸ hv ▸ hown1), (hbl.alloc hbs _).grown hgrow1 (by simp; omega) (fun j e => (HR.out.lt j e).1), by omega⟩, by simp [intOf]⟩
    · obtain ⟨q, hq⟩ : ∃ q : Int, (x : Int) / 16777216 = q := ⟨_, rfl⟩
      have hq0 : 0 ≤ q := by omega
      have hq1 : q < 1099511627776 := by omega
      have hv : cells8 [UInt8.ofNat (byteAt x 3)] = [.int .u8 (q % 256)] := cells8_byte x 3 _ (by have : (256 : Int) ^ 3 = 16777216 := rfl; rw [this]; omega)
      go_wp2_with (at_builtin; refine wpList_append_own _ rfl _ _ 42 rfl base 5 i5 (.int .u8 0) 1 1 Try.underlying42 hi5 hz50 hz51 hz52 rfl (by decide) u0 (n0 + 4) (xs ++ cells8 (beTo 8 x 4)) rfl (HR.out.alloc _) ⟨wr.heap.size, 0, none⟩ 1 1 [.int .u8 (q % 256)] rfl rfl (news_alloc wr [.int .u8 (q % 256)] 5) (by simp [Value.oneCell']) (by unfold maxLen; omega) (by omega) (by simp; omega) ?_; intro v1 w1 hown1 hgrow1 _)
      have hs1 := hgrow1.size
      simp only [World.alloc, Array.size_push] at hs1
      exact ⟨⟨5, 2, by go_num, by omega, by omega, (by rw [beTo_succ, cells8_append, ← List.append_assoc]; exact (show 8 - 1 - 4 = 3 from rfl) ▸ hv ▸ hown1), (hbl.alloc hbs _).grown hgrow1 (by simp; omega) (fun j e => (HR.out.lt j e).1), by omega⟩, by simp [intOf]⟩
    · obtain ⟨q, hq⟩ : ∃ q : Int, (x : Int) / 65536 = q := ⟨_, rfl⟩
      have hq0 : 0 ≤ q := by omega
      have hq1 : q < 281474976710656 := by omega
      have hv : cells8 [UInt8.ofNat (byteAt x 2)] = [.int .u8 (q % 256)] := cells8_byte x 2 _ (by have : (256 : Int) ^ 2 = 65536 := rfl; rw [this]; omega)
      go_wp2_with (at_builtin; refine wpList_append_own _ rfl _ _ 42 rfl base 5 i5 (.int .u8 0) 1 1 Try.underlying42 hi5 hz50 hz51 hz52 rfl (by decide) u0 (n0 + 5) (xs ++ cells8 (beTo 8 x 5)) rfl (HR.out.alloc _) ⟨wr.heap.size, 0, none⟩ 1 1 [.int .u8 (q % 256)] rfl rfl (news_alloc wr [.int .u8 (q % 256)] 5) (by simp [Value.oneCell']) (by unfold maxLen; omega) (by omega) (by simp; omega) ?_; intro v1 w1 hown1 hgrow1 _)
      have hs1 := hgrow1.size
      simp only [World.alloc, Array.size_push] at hs1
      exact ⟨⟨6, 1, by go_num, by omega, by omega, (by rw [beTo_succ, cells8_append, ← List.append_assoc]; exact (show 8 - 1 - 5 = 2 from rfl) ▸ hv ▸ hown1), (hbl.alloc hbs _).grown hgrow1 (by simp; omega) (fun j e => (HR.out.lt j e).1), by omega⟩, by simp [intOf]⟩
    · obtain ⟨q, hq⟩ : ∃ q : Int, (x : Int) / 256 = q := ⟨_, rfl⟩
      have hq0 : 0 ≤ q := by omega
      have hq1 : q < 72057594037927936 := by omega
      have hv : cells8 [UInt8.ofNat (byteAt x 1)] = [.int .u8 (q % 256)] := cells8_byte x 1 _ (by have : (256 : Int) ^ 1 = 256 := rfl; rw [this]; omega)
      go_wp2_with (at_builtin; refine wpList_append_own _ rfl _ _ 42 rfl base 5 i5 (.int .u8 0) 1 1 Try.underlying42 hi5 hz50 hz51 hz52 rfl (by decide) u0 (n0 + 6) (xs ++ cells8 (beTo 8 x 6)) rfl (HR.out.alloc _) ⟨wr.heap.size, 0, none⟩ 1 1 [.int .u8 (q % 256)] rfl rfl (news_alloc wr [.int .u8 (q % 256)] 5) (by simp [Value.oneCell']) (by unfold maxLen; omega) (by omega) (by simp; omega) ?_; intro v1 w1 hown1 hgrow1 _)
      have hs1 := hgrow1.size
      simp only [World.alloc, Array.size_push] at hs1
      exact ⟨⟨7, 0, by go_num, by omega, by omega, (by rw [beTo_succ, cells8_append, ← List.append_assoc]; exact (show 8 - 1 - 6 = 1 from rfl) ▸ hv ▸ hown1), (hbl.alloc hbs _).grown hgrow1 (by simp; omega) (fun j e => (HR.out.lt j e).1), by omega⟩, by simp [intOf]⟩
    · have hv : cells8 [UInt8.ofNat (byteAt x 0)] = [.int .u8 ((x : Int) % 256)] := cells8_byte x 0 _ (by have : (256 : Int) ^ 0 = 1 := rfl; rw [this]; omega)
      go_wp2_with (at_builtin; refine wpList_append_own _ rfl _ _ 42 rfl base 5 i5 (.int .u8 0) 1 1 Try.underlying42 hi5 hz50 hz51 hz52 rfl (by decide) u0 (n0 + 7) (xs ++ cells8 (beTo 8 x 7)) rfl (HR.out.alloc _) ⟨wr.heap.size, 0, none⟩ 1 1 [.int .u8 ((x : Int) % 256)] rfl rfl (news_alloc wr [.int .u8 ((x : Int) % 256)] 5) (by simp [Value.oneCell']) (by unfold maxLen; omega) (by omega) (by simp; omega) ?_; intro v1 w1 hown1 hgrow1 _)
      have hs1 := hgrow1.size
      simp only [World.alloc, Array.size_push] at hs1
      exact ⟨⟨8, -1, by go_num, by omega, by omega, (by rw [beTo_succ, cells8_append, ← List.append_assoc]; exact (show 8 - 1 - 7 = 0 from rfl) ▸ hv ▸ hown1), (hbl.alloc hbs _).grown hgrow1 (by simp; omega) (fun j e => (HR.out.lt j e).1), by omega⟩, by simp [intOf]⟩
    · go_wp2
      go_ret
      exact ⟨_, rfl, HR.out, hbl⟩


set_option maxRecDepth 100000 in
set_option maxHeartbeats 2000000 in
theorem put16_any (v : Value) (n0 : Nat) (xs : List Value) (base : Nat) (x : Nat) (w : World) (h : w.ownsRow base 5 1 v n0 xs) (hb : base ≤ w.heap.size) (hn : n0 ≤ 1000000) (hx : x < 65536) :
    Calls Try.prog 124 #[v, .int .u16 x, .int .i64 2] w fun e w' => ∃ v', e = .returned v' ∧ w'.ownsRow base 5 1 v' (n0 + 2) (xs ++ cells8 (beTo 2 x 2)) ∧ Below base w w' := by
  obtain ⟨i5, hi5, hz50, hz51, hz52⟩ := info_parts info5
  have hx2 : (x : Int) < 65536 := by omega
  have hst : w.ownsRow base 5 1 v (n0 + 0) (xs ++ cells8 (beTo 2 x 0)) := by simpa [beTo, cells8] using h
  have HST := Lib.hid hst
  have hb0 : 0 ≤ (x : Int) := by omega
  clear hst h
  go_enter Try.func124, Try.ntmps124
  go_wp2
  go_loopw [0, 7] (fun va i wr => ∃ (j : Nat) (i0 : Int), i = .int .i64 i0 ∧ i0 = 1 - (j : Int) ∧ j ≤ 2 ∧ wr.ownsRow base 5 1 va (n0 + j) (xs ++ cells8 (beTo 2 x j)) ∧ Below base w wr ∧ base ≤ wr.heap.size) (fun _ i _ => (intOf i + 1).toNat)
  case atStart => exact ⟨0, 1, rfl, by omega, by omega, HST.out, Below.refl _ _, hb⟩
  case round =>
    obtain ⟨j, i0, rfl, hi, hj, hr, hbl, hbs⟩ := hrel
    have HR := Lib.hid hr
    clear hr
    have hcs : (j = 0 ∧ i0 = 1) ∨ (j = 1 ∧ i0 = 0) ∨ (j = 2 ∧ i0 = -1) := by omega
    clear hi hj
    obtain ⟨rfl, rfl⟩ | ⟨rfl, rfl⟩ | ⟨rfl, rfl⟩ := hcs
    · obtain ⟨q, hq⟩ : ∃ q : Int, (x : Int) / 256 = q := ⟨_, rfl⟩
      have hq0 : 0 ≤ q := by omega
      have hq1 : q < 256 := by omega
      have hv : cells8 [UInt8.ofNat (byteAt x 1)] = [.int .u8 (q)] := cells8_byte x 1 _ (by have : (256 : Int) ^ 1 = 256 := rfl; rw [this]; omega)
      go_wp2_with (at_builtin; refine wpList_append_own _ rfl _ _ 42 rfl base 5 i5 (.int .u8 0) 1 1 Try.underlying42 hi5 hz50 hz51 hz52 rfl (by decide) u0 (n0 + 0) (xs ++ cells8 (beTo 2 x 0)) rfl (HR.out.alloc _) ⟨wr.heap.size, 0, none⟩ 1 1 [.int .u8 (q)] rfl rfl (news_alloc wr [.int .u8 (q)] 5) (by simp [Value.oneCell']) (by unfold maxLen; omega) (by omega) (by simp; omega) ?_; intro v1 w1 hown1 hgrow1 _)
      have hs1 := hgrow1.size
      simp only [World.alloc, Array.size_push] at hs1
      exact ⟨⟨1, 0, by go_num, by omega, by omega, (by rw [beTo_succ, cells8_append, ← List.append_assoc]; exact (show 2 - 1 - 0 = 1 from rfl) ▸ hv ▸ hown1), (hbl.alloc hbs _).grown hgrow1 (by simp; omega) (fun j e => (HR.out.lt j e).1), by omega⟩, by simp [intOf]⟩
    · have hv : cells8 [UInt8.ofNat (byteAt x 0)] = [.int .u8 ((x : Int) % 256)] := cells8_byte x 0 _ (by have : (256 : Int) ^ 0 = 1 := rfl; rw [this]; omega)
      go_wp2_with (at_builtin; refine wpList_append_own _ rfl _ _ 42 rfl base 5 i5 (.int .u8 0) 1 1 Try.underlying42 hi5 hz50 hz51 hz52 rfl (by decide) u0 (n0 + 1) (xs ++ cells8 (beTo 2 x 1)) rfl (HR.out.alloc _) ⟨wr.heap.size, 0, none⟩ 1 1 [.int .u8 ((x : Int) % 256)] rfl rfl (news_alloc wr [.int .u8 ((x : Int) % 256)] 5) (by simp [Value.oneCell']) (by unfold maxLen; omega) (by omega) (by simp; omega) ?_; intro v1 w1 hown1 hgrow1 _)
      have hs1 := hgrow1.size
      simp only [World.alloc, Array.size_push] at hs1
      exact ⟨⟨2, -1, by go_num, by omega, by omega, (by rw [beTo_succ, cells8_append, ← List.append_assoc]; exact (show 2 - 1 - 1 = 0 from rfl) ▸ hv ▸ hown1), (hbl.alloc hbs _).grown hgrow1 (by simp; omega) (fun j e => (HR.out.lt j e).1), by omega⟩, by simp [intOf]⟩
    · go_wp2
      go_ret
      exact ⟨_, rfl, HR.out, hbl⟩


set_option maxRecDepth 100000 in
theorem Put32_any (v : Value) (n0 : Nat) (xs : List Value) (base : Nat) (x : Nat) (w : World) (h : w.ownsRow base 5 1 v n0 xs) (hb : base ≤ w.heap.size) (hn : n0 ≤ 1000000) (hx : x < 4294967296) :
    Calls Try.prog 81 #[v, .int .i64 x] w fun e w' => ∃ v', e = .returned v' ∧ w'.ownsRow base 5 1 v' (n0 + 4) (xs ++ cells8 (beTo 4 x 4)) ∧ Below base w w' := by
  have HX := Lib.hid h
  clear h
  have hx1 : (x : Int) < 4294967296 := by omega
  have hx0 : 0 ≤ (x : Int) := by omega
  go_enter Try.func81, Try.ntmps81
  go_wp2_with fail
  refine (put32_any v n0 xs base x w HX.out hb hn (by omega)).mono ?_
  rintro e w1 ⟨v', rfl, hr, hbl⟩
  have FIN := Lib.hid (And.intro hr hbl)
  clear hr hbl
  go_wp2
  first | exact ⟨_, rfl, FIN.out⟩ | (go_ret; exact ⟨_, rfl, FIN.out⟩)

set_option maxRecDepth 100000 in
theorem Put8_any (v : Value) (n0 : Nat) (xs : List Value) (base : Nat) (x : Nat) (w : World) (h : w.ownsRow base 5 1 v n0 xs) (hb : base ≤ w.heap.size) (hn : n0 ≤ 1000000) (hx : x < 256) :
    Calls Try.prog 78 #[v, .int .i64 x] w fun e w' => ∃ v', e = .returned v' ∧ w'.ownsRow base 5 1 v' (n0 + 1) (xs ++ cells8 (beTo 1 x 1)) ∧ Below base w w' := by
  have HX := Lib.hid h
  clear h
  have hx1 : (x : Int) < 256 := by omega
  have hx0 : 0 ≤ (x : Int) := by omega
  go_enter Try.func78, Try.ntmps78
  go_wp2_with fail
  refine (put8_any v n0 xs base x w HX.out hb hn (by omega)).mono ?_
  rintro e w1 ⟨v', rfl, hr, hbl⟩
  have FIN := Lib.hid (And.intro hr hbl)
  clear hr hbl
  go_wp2
  first | exact ⟨_, rfl, FIN.out⟩ | (go_ret; exact ⟨_, rfl, FIN.out⟩)

set_option maxRecDepth 100000 in
theorem Put64_any (v : Value) (n0 : Nat) (xs : List Value) (base : Nat) (x : Nat) (w : World) (h : w.ownsRow base 5 1 v n0 xs) (hb : base ≤ w.heap.size) (hn : n0 ≤ 1000000) (hx : x < 9223372036854775808) :
    Calls Try.prog 80 #[v, .int .i64 x] w fun e w' => ∃ v', e = .returned v' ∧ w'.ownsRow base 5 1 v' (n0 + 8) (xs ++ cells8 (beTo 8 x 8)) ∧ Below base w w' := by
  have HX := Lib.hid h
  clear h
  have hx1 : (x : Int) < 9223372036854775808 := by omega
  have hx0 : 0 ≤ (x : Int) := by omega
  go_enter Try.func80, Try.ntmps80
  go_wp2_with fail
  refine (put64_any v n0 xs base x w HX.out hb hn (by omega)).mono ?_
  rintro e w1 ⟨v', rfl, hr, hbl⟩
  have FIN := Lib.hid (And.intro hr hbl)
  clear hr hbl
  go_wp2
  first | exact ⟨_, rfl, FIN.out⟩ | (go_ret; exact ⟨_, rfl, FIN.out⟩)

set_option maxRecDepth 100000 in
theorem Put16_any (v : Value) (n0 : Nat) (xs : List Value) (base : Nat) (x : Nat) (w : World) (h : w.ownsRow base 5 1 v n0 xs) (hb : base ≤ w.heap.size) (hn : n0 ≤ 1000000) (hx : x < 65536) :
    Calls Try.prog 82 #[v, .int .i64 x] w fun e w' => ∃ v', e = .returned v' ∧ w'.ownsRow base 5 1 v' (n0 + 2) (xs ++ cells8 (beTo 2 x 2)) ∧ Below base w w' := by
  have HX := Lib.hid h
  clear h
  have hx1 : (x : Int) < 65536 := by omega
  have hx0 : 0 ≤ (x : Int) := by omega
  go_enter Try.func82, Try.ntmps82
  go_wp2_with fail
  refine (put16_any v n0 xs base x w HX.out hb hn (by omega)).mono ?_
  rintro e w1 ⟨v', rfl, hr, hbl⟩
  have FIN := Lib.hid (And.intro hr hbl)
  clear hr hbl
  go_wp2
  first | exact ⟨_, rfl, FIN.out⟩ | (go_ret; exact ⟨_, rfl, FIN.out⟩)
end Go.Proofs.Ytkhggpopohkjfaa
