/- The reference's Field at its four widths. Premise: the number fits them. Printed by wip/genfield.py. -/
import Derived.Test.YtkhggpopohkjfaaPut
namespace Go.Proofs.Ytkhggpopohkjfaa
open Go.RowKit Go.Proofs Go.Lib

set_option maxRecDepth 100000 in
set_option maxHeartbeats 2000000 in
theorem field4_any (x : Nat) (w : World) (hx : x < 4294967296) :
    Calls Try.prog 125 #[.int .i64 x, .int .i64 4] w fun e w' => e = .returned (.string (beB 4 x)) ∧ Keep [] w w' := by
  obtain ⟨i5, hi5, hz50, hz51, hz52⟩ := info_parts info5
  obtain ⟨base, hbase⟩ : ∃ b, b = w.heap.size := ⟨_, rfl⟩
  have hst : w.ownsRow base 5 1 (.slice none 0 0) (0 + 0) (cells8 (beTo 4 x 0)) := by rw [show cells8 (beTo 4 x 0) = [] from rfl]; exact World.ownsRow_nil _ _ _ _
  have hkp : ∀ wx : World, Below base w wx → Keep [] w wx := fun wx h => Keep.of_below (hbase ▸ h)
  have HST := Lib.hid hst
  have hbs0 : base ≤ w.heap.size := by omega
  clear hst hbase
  go_enter Try.func125, Try.ntmps125
  go_wp2
  go_loopw [6, 7] (fun va i wr => ∃ (j : Nat) (i0 : Int), i = .int .i64 i0 ∧ i0 = 3 - (j : Int) ∧ j ≤ 4 ∧ wr.ownsRow base 5 1 va (0 + j) (cells8 (beTo 4 x j)) ∧ Below base w wr ∧ base ≤ wr.heap.size) (fun _ i _ => (intOf i + 1).toNat)
  case atStart => exact ⟨0, 3, rfl, by omega, by omega, HST.out, Below.refl _ _, hbs0⟩
  case round =>
    obtain ⟨j, i0, rfl, hi, hj, hr, hbl, hbs⟩ := hrel
    have HR := Lib.hid hr
    clear hr
    have hcs : (j = 0 ∧ i0 = 3) ∨ (j = 1 ∧ i0 = 2) ∨ (j = 2 ∧ i0 = 1) ∨ (j = 3 ∧ i0 = 0) ∨ (j = 4 ∧ i0 = -1) := by omega
    clear hi hj
    obtain ⟨rfl, rfl⟩ | ⟨rfl, rfl⟩ | ⟨rfl, rfl⟩ | ⟨rfl, rfl⟩ | ⟨rfl, rfl⟩ := hcs
    · obtain ⟨q, hq⟩ : ∃ q : Int, (x : Int) / 16777216 = q := ⟨_, rfl⟩
      have hq0 : 0 ≤ q := by omega
      have hq1 : q < 256 := by omega
      have hv : cells8 [UInt8.ofNat (byteAt x 3)] = [.int .u8 (q)] := cells8_byte x 3 _ (by have : (256 : Int) ^ 3 = 16777216 := rfl; rw [this]; omega)
      go_wp2_with (at_builtin; refine wpList_append_own _ rfl _ _ 42 rfl base 5 i5 (.int .u8 0) 1 1 Try.underlying42 hi5 hz50 hz51 hz52 rfl (by decide) u6 (0 + 0) (cells8 (beTo 4 x 0)) rfl (HR.out.alloc _) ⟨wr.heap.size, 0, none⟩ 1 1 [.int .u8 (q)] rfl rfl (news_alloc wr [.int .u8 (q)] 5) (by simp [Value.oneCell']) (by unfold maxLen; omega) (by omega) (by simp; omega) ?_; intro v1 w1 hown1 hgrow1 _)
      have hs1 := hgrow1.size
      simp only [World.alloc, Array.size_push] at hs1
      exact ⟨⟨1, 2, by go_num, by omega, by omega, (by rw [beTo_succ, cells8_append]; exact (show 4 - 1 - 0 = 3 from rfl) ▸ hv ▸ hown1), (hbl.alloc hbs _).grown hgrow1 (by simp; omega) (fun j e => (HR.out.lt j e).1), by omega⟩, by simp [intOf]⟩
    · obtain ⟨q, hq⟩ : ∃ q : Int, (x : Int) / 65536 = q := ⟨_, rfl⟩
      have hq0 : 0 ≤ q := by omega
      have hq1 : q < 65536 := by omega
      have hv : cells8 [UInt8.ofNat (byteAt x 2)] = [.int .u8 (q % 256)] := cells8_byte x 2 _ (by have : (256 : Int) ^ 2 = 65536 := rfl; rw [this]; omega)
      go_wp2_with (at_builtin; refine wpList_append_own _ rfl _ _ 42 rfl base 5 i5 (.int .u8 0) 1 1 Try.underlying42 hi5 hz50 hz51 hz52 rfl (by decide) u6 (0 + 1) (cells8 (beTo 4 x 1)) rfl (HR.out.alloc _) ⟨wr.heap.size, 0, none⟩ 1 1 [.int .u8 (q % 256)] rfl rfl (news_alloc wr [.int .u8 (q % 256)] 5) (by simp [Value.oneCell']) (by unfold maxLen; omega) (by omega) (by simp; omega) ?_; intro v1 w1 hown1 hgrow1 _)
      have hs1 := hgrow1.size
      simp only [World.alloc, Array.size_push] at hs1
      exact ⟨⟨2, 1, by go_num, by omega, by omega, (by rw [beTo_succ, cells8_append]; exact (show 4 - 1 - 1 = 2 from rfl) ▸ hv ▸ hown1), (hbl.alloc hbs _).grown hgrow1 (by simp; omega) (fun j e => (HR.out.lt j e).1), by omega⟩, by simp [intOf]⟩
    · obtain ⟨q, hq⟩ : ∃ q : Int, (x : Int) / 256 = q := ⟨_, rfl⟩
      have hq0 : 0 ≤ q := by omega
      have hq1 : q < 16777216 := by omega
      have hv : cells8 [UInt8.ofNat (byteAt x 1)] = [.int .u8 (q % 256)] := cells8_byte x 1 _ (by have : (256 : Int) ^ 1 = 256 := rfl; rw [this]; omega)
      go_wp2_with (at_builtin; refine wpList_append_own _ rfl _ _ 42 rfl base 5 i5 (.int .u8 0) 1 1 Try.underlying42 hi5 hz50 hz51 hz52 rfl (by decide) u6 (0 + 2) (cells8 (beTo 4 x 2)) rfl (HR.out.alloc _) ⟨wr.heap.size, 0, none⟩ 1 1 [.int .u8 (q % 256)] rfl rfl (news_alloc wr [.int .u8 (q % 256)] 5) (by simp [Value.oneCell']) (by unfold maxLen; omega) (by omega) (by simp; omega) ?_; intro v1 w1 hown1 hgrow1 _)
      have hs1 := hgrow1.size
      simp only [World.alloc, Array.size_push] at hs1
      exact ⟨⟨3, 0, by go_num, by omega, by omega, (by rw [beTo_succ, cells8_append]; exact (show 4 - 1 - 2 = 1 from rfl) ▸ hv ▸ hown1), (hbl.alloc hbs _).grown hgrow1 (by simp; omega) (fun j e => (HR.out.lt j e).1), by omega⟩, by simp [intOf]⟩
    · have hv : cells8 [UInt8.ofNat (byteAt x 0)] = [.int .u8 ((x : Int) % 256)] := cells8_byte x 0 _ (by have : (256 : Int) ^ 0 = 1 := rfl; rw [this]; omega)
      go_wp2_with (at_builtin; refine wpList_append_own _ rfl _ _ 42 rfl base 5 i5 (.int .u8 0) 1 1 Try.underlying42 hi5 hz50 hz51 hz52 rfl (by decide) u6 (0 + 3) (cells8 (beTo 4 x 3)) rfl (HR.out.alloc _) ⟨wr.heap.size, 0, none⟩ 1 1 [.int .u8 ((x : Int) % 256)] rfl rfl (news_alloc wr [.int .u8 ((x : Int) % 256)] 5) (by simp [Value.oneCell']) (by unfold maxLen; omega) (by omega) (by simp; omega) ?_; intro v1 w1 hown1 hgrow1 _)
      have hs1 := hgrow1.size
      simp only [World.alloc, Array.size_push] at hs1
      exact ⟨⟨4, -1, by go_num, by omega, by omega, (by rw [beTo_succ, cells8_append]; exact (show 4 - 1 - 3 = 0 from rfl) ▸ hv ▸ hown1), (hbl.alloc hbs _).grown hgrow1 (by simp; omega) (fun j e => (HR.out.lt j e).1), by omega⟩, by simp [intOf]⟩
    · have hcv := own_str (s := beB 4 x) (n := 0 + 4) (by rw [strCells_beB]; exact HR.out)
      have HBL := Lib.hid hbl
      clear hbl
      go_wp2
      go_ret
      exact ⟨rfl, hkp _ HBL.out⟩


set_option maxRecDepth 100000 in
set_option maxHeartbeats 2000000 in
theorem field1_any (x : Nat) (w : World) (hx : x < 256) :
    Calls Try.prog 125 #[.int .i64 x, .int .i64 1] w fun e w' => e = .returned (.string (beB 1 x)) ∧ Keep [] w w' := by
  obtain ⟨i5, hi5, hz50, hz51, hz52⟩ := info_parts info5
  obtain ⟨base, hbase⟩ : ∃ b, b = w.heap.size := ⟨_, rfl⟩
  have hst : w.ownsRow base 5 1 (.slice none 0 0) (0 + 0) (cells8 (beTo 1 x 0)) := by rw [show cells8 (beTo 1 x 0) = [] from rfl]; exact World.ownsRow_nil _ _ _ _
  have hkp : ∀ wx : World, Below base w wx → Keep [] w wx := fun wx h => Keep.of_below (hbase ▸ h)
  have HST := Lib.hid hst
  have hbs0 : base ≤ w.heap.size := by omega
  clear hst hbase
  go_enter Try.func125, Try.ntmps125
  go_wp2
  go_loopw [6, 7] (fun va i wr => ∃ (j : Nat) (i0 : Int), i = .int .i64 i0 ∧ i0 = 0 - (j : Int) ∧ j ≤ 1 ∧ wr.ownsRow base 5 1 va (0 + j) (cells8 (beTo 1 x j)) ∧ Below base w wr ∧ base ≤ wr.heap.size) (fun _ i _ => (intOf i + 1).toNat)
  case atStart => exact ⟨0, 0, rfl, by omega, by omega, HST.out, Below.refl _ _, hbs0⟩
  case round =>
    obtain ⟨j, i0, rfl, hi, hj, hr, hbl, hbs⟩ := hrel
    have HR := Lib.hid hr
    clear hr
    have hcs : (j = 0 ∧ i0 = 0) ∨ (j = 1 ∧ i0 = -1) := by omega
    clear hi hj
    obtain ⟨rfl, rfl⟩ | ⟨rfl, rfl⟩ := hcs
    · have hv : cells8 [UInt8.ofNat (byteAt x 0)] = [.int .u8 ((x : Int))] := cells8_byte x 0 _ (by have : (256 : Int) ^ 0 = 1 := rfl; rw [this]; omega)
      go_wp2_with (at_builtin; refine wpList_append_own _ rfl _ _ 42 rfl base 5 i5 (.int .u8 0) 1 1 Try.underlying42 hi5 hz50 hz51 hz52 rfl (by decide) u6 (0 + 0) (cells8 (beTo 1 x 0)) rfl (HR.out.alloc _) ⟨wr.heap.size, 0, none⟩ 1 1 [.int .u8 ((x : Int))] rfl rfl (news_alloc wr [.int .u8 ((x : Int))] 5) (by simp [Value.oneCell']) (by unfold maxLen; omega) (by omega) (by simp; omega) ?_; intro v1 w1 hown1 hgrow1 _)
      have hs1 := hgrow1.size
      simp only [World.alloc, Array.size_push] at hs1
      exact ⟨⟨1, -1, by go_num, by omega, by omega, (by rw [beTo_succ, cells8_append]; exact (show 1 - 1 - 0 = 0 from rfl) ▸ hv ▸ hown1), (hbl.alloc hbs _).grown hgrow1 (by simp; omega) (fun j e => (HR.out.lt j e).1), by omega⟩, by simp [intOf]⟩
    · have hcv := own_str (s := beB 1 x) (n := 0 + 1) (by rw [strCells_beB]; exact HR.out)
      have HBL := Lib.hid hbl
      clear hbl
      go_wp2
      go_ret
      exact ⟨rfl, hkp _ HBL.out⟩


set_option maxRecDepth 100000 in
set_option maxHeartbeats 2000000 in
theorem field8_any (x : Nat) (w : World) (hx : x < 9223372036854775808) :
    Calls Try.prog 125 #[.int .i64 x, .int .i64 8] w fun e w' => e = .returned (.string (beB 8 x)) ∧ Keep [] w w' := by
  obtain ⟨i5, hi5, hz50, hz51, hz52⟩ := info_parts info5
  obtain ⟨base, hbase⟩ : ∃ b, b = w.heap.size := ⟨_, rfl⟩
  have hst : w.ownsRow base 5 1 (.slice none 0 0) (0 + 0) (cells8 (beTo 8 x 0)) := by rw [show cells8 (beTo 8 x 0) = [] from rfl]; exact World.ownsRow_nil _ _ _ _
  have hkp : ∀ wx : World, Below base w wx → Keep [] w wx := fun wx h => Keep.of_below (hbase ▸ h)
  have HST := Lib.hid hst
  have hbs0 : base ≤ w.heap.size := by omega
  clear hst hbase
  go_enter Try.func125, Try.ntmps125
  go_wp2
  go_loopw [6, 7] (fun va i wr => ∃ (j : Nat) (i0 : Int), i = .int .i64 i0 ∧ i0 = 7 - (j : Int) ∧ j ≤ 8 ∧ wr.ownsRow base 5 1 va (0 + j) (cells8 (beTo 8 x j)) ∧ Below base w wr ∧ base ≤ wr.heap.size) (fun _ i _ => (intOf i + 1).toNat)
  case atStart => exact ⟨0, 7, rfl, by omega, by omega, HST.out, Below.refl _ _, hbs0⟩
  case round =>
    obtain ⟨j, i0, rfl, hi, hj, hr, hbl, hbs⟩ := hrel
    have HR := Lib.hid hr
    clear hr
    have hcs : (j = 0 ∧ i0 = 7) ∨ (j = 1 ∧ i0 = 6) ∨ (j = 2 ∧ i0 = 5) ∨ (j = 3 ∧ i0 = 4) ∨ (j = 4 ∧ i0 = 3) ∨ (j = 5 ∧ i0 = 2) ∨ (j = 6 ∧ i0 = 1) ∨ (j = 7 ∧ i0 = 0) ∨ (j = 8 ∧ i0 = -1) := by omega
    clear hi hj
    obtain ⟨rfl, rfl⟩ | ⟨rfl, rfl⟩ | ⟨rfl, rfl⟩ | ⟨rfl, rfl⟩ | ⟨rfl, rfl⟩ | ⟨rfl, rfl⟩ | ⟨rfl, rfl⟩ | ⟨rfl, rfl⟩ | ⟨rfl, rfl⟩ := hcs
    · obtain ⟨q, hq⟩ : ∃ q : Int, (x : Int) / 72057594037927936 = q := ⟨_, rfl⟩
      have hq0 : 0 ≤ q := by omega
      have hq1 : q < 128 := by omega
      have hv : cells8 [UInt8.ofNat (byteAt x 7)] = [.int .u8 (q)] := cells8_byte x 7 _ (by have : (256 : Int) ^ 7 = 72057594037927936 := rfl; rw [this]; omega)
      go_wp2_with (at_builtin; refine wpList_append_own _ rfl _ _ 42 rfl base 5 i5 (.int .u8 0) 1 1 Try.underlying42 hi5 hz50 hz51 hz52 rfl (by decide) u6 (0 + 0) (cells8 (beTo 8 x 0)) rfl (HR.out.alloc _) ⟨wr.heap.size, 0, none⟩ 1 1 [.int .u8 (q)] rfl rfl (news_alloc wr [.int .u8 (q)] 5) (by simp [Value.oneCell']) (by unfold maxLen; omega) (by omega) (by simp; omega) ?_; intro v1 w1 hown1 hgrow1 _)
      have hs1 := hgrow1.size
      simp only [World.alloc, Array.size_push] at hs1
      exact ⟨⟨1, 6, by go_num, by omega, by omega, (by rw [beTo_succ, cells8_append]; exact (show 8 - 1 - 0 = 7 from rfl) ▸ hv ▸ hown1), (hbl.alloc hbs _).grown hgrow1 (by simp; omega) (fun j e => (HR.out.lt j e).1), by omega⟩, by simp [intOf]⟩
    · obtain ⟨q, hq⟩ : ∃ q : Int, (x : Int) / 281474976710656 = q := ⟨_, rfl⟩
      have hq0 : 0 ≤ q := by omega
      have hq1 : q < 32768 := by omega
      have hv : cells8 [UInt8.ofNat (byteAt x 6)] = [.int .u8 (q % 256)] := cells8_byte x 6 _ (by have : (256 : Int) ^ 6 = 281474976710656 := rfl; rw [this]; omega)
      go_wp2_with (at_builtin; refine wpList_append_own _ rfl _ _ 42 rfl base 5 i5 (.int .u8 0) 1 1 Try.underlying42 hi5 hz50 hz51 hz52 rfl (by decide) u6 (0 + 1) (cells8 (beTo 8 x 1)) rfl (HR.out.alloc _) ⟨wr.heap.size, 0, none⟩ 1 1 [.int .u8 (q % 256)] rfl rfl (news_alloc wr [.int .u8 (q % 256)] 5) (by simp [Value.oneCell']) (by unfold maxLen; omega) (by omega) (by simp; omega) ?_; intro v1 w1 hown1 hgrow1 _)
      have hs1 := hgrow1.size
      simp only [World.alloc, Array.size_push] at hs1
      exact ⟨⟨2, 5, by go_num, by omega, by omega, (by rw [beTo_succ, cells8_append]; exact (show 8 - 1 - 1 = 6 from rfl) ▸ hv ▸ hown1), (hbl.alloc hbs _).grown hgrow1 (by simp; omega) (fun j e => (HR.out.lt j e).1), by omega⟩, by simp [intOf]⟩
    · obtain ⟨q, hq⟩ : ∃ q : Int, (x : Int) / 1099511627776 = q := ⟨_, rfl⟩
      have hq0 : 0 ≤ q := by omega
      have hq1 : q < 8388608 := by omega
      have hv : cells8 [UInt8.ofNat (byteAt x 5)] = [.int .u8 (q % 256)] := cells8_byte x 5 _ (by have : (256 : Int) ^ 5 = 1099511627776 := rfl; rw [this]; omega)
      go_wp2_with (at_builtin; refine wpList_append_own _ rfl _ _ 42 rfl base 5 i5 (.int .u8 0) 1 1 Try.underlying42 hi5 hz50 hz51 hz52 rfl (by decide) u6 (0 + 2) (cells8 (beTo 8 x 2)) rfl (HR.out.alloc _) ⟨wr.heap.size, 0, none⟩ 1 1 [.int .u8 (q % 256)] rfl rfl (news_alloc wr [.int .u8 (q % 256)] 5) (by simp [Value.oneCell']) (by unfold maxLen; omega) (by omega) (by simp; omega) ?_; intro v1 w1 hown1 hgrow1 _)
      have hs1 := hgrow1.size
      simp only [World.alloc, Array.size_push] at hs1
      exact ⟨⟨3, 4, by go_num, by omega, by omega, (by rw [beTo_succ, cells8_append]; exact (show 8 - 1 - 2 = 5 from rfl) ▸ hv ▸ hown1), (hbl.alloc hbs _).grown hgrow1 (by simp; omega) (fun j e => (HR.out.lt j e).1), by omega⟩, by simp [intOf]⟩
    · obtain ⟨q, hq⟩ : ∃ q : Int, (x : Int) / 4294967296 = q := ⟨_, rfl⟩
      have hq0 : 0 ≤ q := by omega
      have hq1 : q < 2147483648 := by omega
      have hv : cells8 [UInt8.ofNat (byteAt x 4)] = [.int .u8 (q % 256)] := cells8_byte x 4 _ (by have : (256 : Int) ^ 4 = 4294967296 := rfl; rw [this]; omega)
      go_wp2_with (at_builtin; refine wpList_append_own _ rfl _ _ 42 rfl base 5 i5 (.int .u8 0) 1 1 Try.underlying42 hi5 hz50 hz51 hz52 rfl (by decide) u6 (0 + 3) (cells8 (beTo 8 x 3)) rfl (HR.out.alloc _) ⟨wr.heap.size, 0, none⟩ 1 1 [.int .u8 (q % 256)] rfl rfl (news_alloc wr [.int .u8 (q % 256)] 5) (by simp [Value.oneCell']) (by unfold maxLen; omega) (by omega) (by simp; omega) ?_; intro v1 w1 hown1 hgrow1 _)
      have hs1 := hgrow1.size
      simp only [World.alloc, Array.size_push] at hs1
      exact ⟨⟨4, 3, by go_num, by omega, by omega, (by rw [beTo_succ, cells8_append]; exact (show 8 - 1 - 3 = 4 from rfl) ▸ hv ▸ hown1), (hbl.alloc hbs _).grown hgrow1 (by simp; omega) (fun j e => (HR.out.lt j e).1), by omega⟩, by simp [intOf]⟩
    · obtain ⟨q, hq⟩ : ∃ q : Int, (x : Int) / 16777216 = q := ⟨_, rfl⟩
      have hq0 : 0 ≤ q := by omega
      have hq1 : q < 549755813888 := by omega
      have hv : cells8 [UInt8.ofNat (byteAt x 3)] = [.int .u8 (q % 256)] := cells8_byte x 3 _ (by have : (256 : Int) ^ 3 = 16777216 := rfl; rw [this]; omega)
      go_wp2_with (at_builtin; refine wpList_append_own _ rfl _ _ 42 rfl base 5 i5 (.int .u8 0) 1 1 Try.underlying42 hi5 hz50 hz51 hz52 rfl (by decide) u6 (0 + 4) (cells8 (beTo 8 x 4)) rfl (HR.out.alloc _) ⟨wr.heap.size, 0, none⟩ 1 1 [.int .u8 (q % 256)] rfl rfl (news_alloc wr [.int .u8 (q % 256)] 5) (by simp [Value.oneCell']) (by unfold maxLen; omega) (by omega) (by simp; omega) ?_; intro v1 w1 hown1 hgrow1 _)
      have hs1 := hgrow1.size
      simp only [World.alloc, Array.size_push] at hs1
      exact ⟨⟨5, 2, by go_num, by omega, by omega, (by rw [beTo_succ, cells8_append]; exact (show 8 - 1 - 4 = 3 from rfl) ▸ hv ▸ hown1), (hbl.alloc hbs _).grown hgrow1 (by simp; omega) (fun j e => (HR.out.lt j e).1), by omega⟩, by simp [intOf]⟩
    · obtain ⟨q, hq⟩ : ∃ q : Int, (x : Int) / 65536 = q := ⟨_, rfl⟩
      have hq0 : 0 ≤ q := by omega
      have hq1 : q < 140737488355328 := by omega
      have hv : cells8 [UInt8.ofNat (byteAt x 2)] = [.int .u8 (q % 256)] := cells8_byte x 2 _ (by have : (256 : Int) ^ 2 = 65536 := rfl; rw [this]; omega)
      go_wp2_with (at_builtin; refine wpList_append_own _ rfl _ _ 42 rfl base 5 i5 (.int .u8 0) 1 1 Try.underlying42 hi5 hz50 hz51 hz52 rfl (by decide) u6 (0 + 5) (cells8 (beTo 8 x 5)) rfl (HR.out.alloc _) ⟨wr.heap.size, 0, none⟩ 1 1 [.int .u8 (q % 256)] rfl rfl (news_alloc wr [.int .u8 (q % 256)] 5) (by simp [Value.oneCell']) (by unfold maxLen; omega) (by omega) (by simp; omega) ?_; intro v1 w1 hown1 hgrow1 _)
      have hs1 := hgrow1.size
      simp only [World.alloc, Array.size_push] at hs1
      exact ⟨⟨6, 1, by go_num, by omega, by omega, (by rw [beTo_succ, cells8_append]; exact (show 8 - 1 - 5 = 2 from rfl) ▸ hv ▸ hown1), (hbl.alloc hbs _).grown hgrow1 (by simp; omega) (fun j e => (HR.out.lt j e).1), by omega⟩, by simp [intOf]⟩
    · obtain ⟨q, hq⟩ : ∃ q : Int, (x : Int) / 256 = q := ⟨_, rfl⟩
      have hq0 : 0 ≤ q := by omega
      have hq1 : q < 36028797018963968 := by omega
      have hv : cells8 [UInt8.ofNat (byteAt x 1)] = [.int .u8 (q % 256)] := cells8_byte x 1 _ (by have : (256 : Int) ^ 1 = 256 := rfl; rw [this]; omega)
      go_wp2_with (at_builtin; refine wpList_append_own _ rfl _ _ 42 rfl base 5 i5 (.int .u8 0) 1 1 Try.underlying42 hi5 hz50 hz51 hz52 rfl (by decide) u6 (0 + 6) (cells8 (beTo 8 x 6)) rfl (HR.out.alloc _) ⟨wr.heap.size, 0, none⟩ 1 1 [.int .u8 (q % 256)] rfl rfl (news_alloc wr [.int .u8 (q % 256)] 5) (by simp [Value.oneCell']) (by unfold maxLen; omega) (by omega) (by simp; omega) ?_; intro v1 w1 hown1 hgrow1 _)
      have hs1 := hgrow1.size
      simp only [World.alloc, Array.size_push] at hs1
      exact ⟨⟨7, 0, by go_num, by omega, by omega, (by rw [beTo_succ, cells8_append]; exact (show 8 - 1 - 6 = 1 from rfl) ▸ hv ▸ hown1), (hbl.alloc hbs _).grown hgrow1 (by simp; omega) (fun j e => (HR.out.lt j e).1), by omega⟩, by simp [intOf]⟩
    · have hv : cells8 [UInt8.ofNat (byteAt x 0)] = [.int .u8 ((x : Int) % 256)] := cells8_byte x 0 _ (by have : (256 : Int) ^ 0 = 1 := rfl; rw [this]; omega)
      go_wp2_with (at_builtin; refine wpList_append_own _ rfl _ _ 42 rfl base 5 i5 (.int .u8 0) 1 1 Try.underlying42 hi5 hz50 hz51 hz52 rfl (by decide) u6 (0 + 7) (cells8 (beTo 8 x 7)) rfl (HR.out.alloc _) ⟨wr.heap.size, 0, none⟩ 1 1 [.int .u8 ((x : Int) % 256)] rfl rfl (news_alloc wr [.int .u8 ((x : Int) % 256)] 5) (by simp [Value.oneCell']) (by unfold maxLen; omega) (by omega) (by simp; omega) ?_; intro v1 w1 hown1 hgrow1 _)
      have hs1 := hgrow1.size
      simp only [World.alloc, Array.size_push] at hs1
      exact ⟨⟨8, -1, by go_num, by omega, by omega, (by rw [beTo_succ, cells8_append]; exact (show 8 - 1 - 7 = 0 from rfl) ▸ hv ▸ hown1), (hbl.alloc hbs _).grown hgrow1 (by simp; omega) (fun j e => (HR.out.lt j e).1), by omega⟩, by simp [intOf]⟩
    · have hcv := own_str (s := beB 8 x) (n := 0 + 8) (by rw [strCells_beB]; exact HR.out)
      have HBL := Lib.hid hbl
      clear hbl
      go_wp2
      go_ret
      exact ⟨rfl, hkp _ HBL.out⟩


set_option maxRecDepth 100000 in
set_option maxHeartbeats 2000000 in
theorem field2_any (x : Nat) (w : World) (hx : x < 65536) :
    Calls Try.prog 125 #[.int .i64 x, .int .i64 2] w fun e w' => e = .returned (.string (beB 2 x)) ∧ Keep [] w w' := by
  obtain ⟨i5, hi5, hz50, hz51, hz52⟩ := info_parts info5
  obtain ⟨base, hbase⟩ : ∃ b, b = w.heap.size := ⟨_, rfl⟩
  have hst : w.ownsRow base 5 1 (.slice none 0 0) (0 + 0) (cells8 (beTo 2 x 0)) := by rw [show cells8 (beTo 2 x 0) = [] from rfl]; exact World.ownsRow_nil _ _ _ _
  have hkp : ∀ wx : World, Below base w wx → Keep [] w wx := fun wx h => Keep.of_below (hbase ▸ h)
  have HST := Lib.hid hst
  have hbs0 : base ≤ w.heap.size := by omega
  clear hst hbase
  go_enter Try.func125, Try.ntmps125
  go_wp2
  go_loopw [6, 7] (fun va i wr => ∃ (j : Nat) (i0 : Int), i = .int .i64 i0 ∧ i0 = 1 - (j : Int) ∧ j ≤ 2 ∧ wr.ownsRow base 5 1 va (0 + j) (cells8 (beTo 2 x j)) ∧ Below base w wr ∧ base ≤ wr.heap.size) (fun _ i _ => (intOf i + 1).toNat)
  case atStart => exact ⟨0, 1, rfl, by omega, by omega, HST.out, Below.refl _ _, hbs0⟩
  case round =>
    obtain ⟨j, i0, rfl, hi, hj, hr, hbl, hbs⟩ := hrel
    have HR := Lib.hid hr
    clear hr
    have hcs : (j = 0 ∧ i0 = 1) ∨ (j = 1 ∧ i0 = 0) ∨ (j = 2 ∧ i0 = -1) := by omega
    clear hi hj
    obtain ⟨rfl, rfl⟩ | ⟨rfl, rfl⟩ | ⟨rfl, rfl⟩ := hcs
    · obtain ⟨q, hq⟩ : ∃ q : Int, (x : Int) / 256 = q := ⟨_, rfl⟩
      have hq0 : 0 ≤ q := by omega
      have hq1 : q < 256 := by omega
      have hv : cells8 [UInt8.ofNat (byteAt x 1)] = [.int .u8 (q)] := cells8_byte x 1 _ (by have : (256 : Int) ^ 1 = 256 := rfl; rw [this]; omega)
      go_wp2_with (at_builtin; refine wpList_append_own _ rfl _ _ 42 rfl base 5 i5 (.int .u8 0) 1 1 Try.underlying42 hi5 hz50 hz51 hz52 rfl (by decide) u6 (0 + 0) (cells8 (beTo 2 x 0)) rfl (HR.out.alloc _) ⟨wr.heap.size, 0, none⟩ 1 1 [.int .u8 (q)] rfl rfl (news_alloc wr [.int .u8 (q)] 5) (by simp [Value.oneCell']) (by unfold maxLen; omega) (by omega) (by simp; omega) ?_; intro v1 w1 hown1 hgrow1 _)
      have hs1 := hgrow1.size
      simp only [World.alloc, Array.size_push] at hs1
      exact ⟨⟨1, 0, by go_num, by omega, by omega, (by rw [beTo_succ, cells8_append]; exact (show 2 - 1 - 0 = 1 from rfl) ▸ hv ▸ hown1), (hbl.alloc hbs _).grown hgrow1 (by simp; omega) (fun j e => (HR.out.lt j e).1), by omega⟩, by simp [intOf]⟩
    · have hv : cells8 [UInt8.ofNat (byteAt x 0)] = [.int .u8 ((x : Int) % 256)] := cells8_byte x 0 _ (by have : (256 : Int) ^ 0 = 1 := rfl; rw [this]; omega)
      go_wp2_with (at_builtin; refine wpList_append_own _ rfl _ _ 42 rfl base 5 i5 (.int .u8 0) 1 1 Try.underlying42 hi5 hz50 hz51 hz52 rfl (by decide) u6 (0 + 1) (cells8 (beTo 2 x 1)) rfl (HR.out.alloc _) ⟨wr.heap.size, 0, none⟩ 1 1 [.int .u8 ((x : Int) % 256)] rfl rfl (news_alloc wr [.int .u8 ((x : Int) % 256)] 5) (by simp [Value.oneCell']) (by unfold maxLen; omega) (by omega) (by simp; omega) ?_; intro v1 w1 hown1 hgrow1 _)
      have hs1 := hgrow1.size
      simp only [World.alloc, Array.size_push] at hs1
      exact ⟨⟨2, -1, by go_num, by omega, by omega, (by rw [beTo_succ, cells8_append]; exact (show 2 - 1 - 1 = 0 from rfl) ▸ hv ▸ hown1), (hbl.alloc hbs _).grown hgrow1 (by simp; omega) (fun j e => (HR.out.lt j e).1), by omega⟩, by simp [intOf]⟩
    · have hcv := own_str (s := beB 2 x) (n := 0 + 2) (by rw [strCells_beB]; exact HR.out)
      have HBL := Lib.hid hbl
      clear hbl
      go_wp2
      go_ret
      exact ⟨rfl, hkp _ HBL.out⟩

end Go.Proofs.Ytkhggpopohkjfaa
