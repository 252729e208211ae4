/- slot.Read: 128 bytes read as a slot. No condition but that. -/
import Derived.Test.YtkhggpopohkjfaaReadEnd
import Derived.Deep.Cut
namespace Go.Proofs.Ytkhggpopohkjfaa
open Go.RowKit Go.Proofs Go.Lib
set_option linter.unusedVariables false
set_option linter.unusedSimpArgs false

set_option maxRecDepth 100000 in
set_option maxHeartbeats 8000000 in
theorem read_rest (r o cap : Nat) (s : ByteArray) (w : World) (hn : s.size = 128) (hcap : 128 ≤ cap) (hcm : cap ≤ maxLen) (hc : Str8 w r o s) (h0 : numAt s 0 1 = 83) :
    Calls Try.prog 59 #[.slice (some ⟨r, o, none⟩) 128 cap] w fun e w' => e = .returned (.tuple #[(readS s).val, .int .i64 (readE s)]) ∧ Keep [] w w' := by
  have c0 := hc 0 (by omega)
  rw [Nat.add_zero] at c0
  have H0 := Lib.hid h0
  rw [numAt_one s 0 (by omega)] at h0
  rw [h0] at c0
  have hrl : r < w.heap.size := by
    rcases Nat.lt_or_ge r w.heap.size with h | h
    · exact h
    · rw [World.cell?] at c0
      simp [Array.getElem?_eq_none h] at c0
  have hcap2 : cap ≤ 9223372036854775807 := hcm
  have hc1 : Str8 (w.alloc (bx41 zero0)) r o s := hc.keep ((Keep.refl [] w).alloc _) (by simp)
  have hsz1 : (s.extract 1 128).size = 127 := by simp [hn]
  have hB0 : (w.alloc (bx41 zero0)).heap[w.heap.size]? = some (bx41 zero0) := heap_alloc_new w _
  have hnr := newrd_any r (o + 1) 127 (cap - 1) (s.extract 1 128) (w.alloc (bx41 zero0)) hsz1 (by decide) (by decide) (hc1.extract 1 128 (by omega))
  have HNR := Lib.hid hnr
  have HC1 := Lib.hid hc1
  have HCM := Lib.hid hcm
  have hne1 : ¬ cap = 1 := by omega
  clear hnr hc1 hc h0 hcm
  obtain ⟨F, hF, hF2⟩ : ∃ F, numAt s 1 1 = F ∧ F < 256 := ⟨_, rfl, numAt_lt s 1 1 (by omega)⟩
  obtain ⟨E, hE, hE2⟩ : ∃ E, numAt s 2 4 = E ∧ E < 4294967296 := ⟨_, rfl, numAt_lt s 2 4 (by omega)⟩
  obtain ⟨N, hN, hN2⟩ : ∃ N, numAt s 14 2 = N ∧ N < 65536 := ⟨_, rfl, numAt_lt s 14 2 (by omega)⟩
  have eF : beNum (bytesAt (s.extract 1 128) 0 1) = F := by rw [← hF]; exact numAt_extract s 1 128 0 1 (by decide) (by omega)
  have eE : beNum (bytesAt (s.extract 1 128) 1 4) = E := by rw [← hE]; exact numAt_extract s 1 128 1 4 (by decide) (by omega)
  have eT : beNum (bytesAt (s.extract 1 128) 5 8) = numAt s 6 8 := numAt_extract s 1 128 5 8 (by decide) (by omega)
  have eN : beNum (bytesAt (s.extract 1 128) 13 2) = N := by rw [← hN]; exact numAt_extract s 1 128 13 2 (by decide) (by omega)
  have HEQ := Lib.hid (And.intro hF (And.intro hE hN))
  clear hF hE hN
  go_enter Try.func59, Try.ntmps59
  go_wp2_with fail
  refine HNR.out.mono ?_
  rintro e w1 ⟨g1, r1, cap1, rfl, hg1, hr1, hgr, hcc1, hcm1, hh1, hs1, hk1⟩
  have hgw : w.heap.size + 1 ≤ g1 := by simpa using hg1
  have hrw : w.heap.size + 1 ≤ r1 := by simpa using hr1
  have R1 : Rdg s (s.extract 1 128) r o w.heap.size g1 r1 cap1 127 (bx41 zero0) 0 w1 := ⟨HC1.out.keep hk1 (by simp), hk1.heap hB0 (by simp), hh1, fun i hi => by have := hs1 i hi; rwa [Nat.zero_add] at this⟩
  have K1 : Keep [] w w1 := ((Keep.refl _ _).alloc _).trans hk1
  clear hh1 hs1 hk1 hg1 hr1
  go_wp2_with fail
  refine (ru8_any g1 r1 cap1 127 0 (s.extract 1 128) w1 hsz1 hcc1 hcm1 (by decide) (by decide) R1.rd R1.row).mono ?_
  rintro e w2 ⟨rfl, hh2, hk2⟩
  have R2 := R1.step (k := 1) (by omega) (by omega) (by omega) hh2 hk2
  rw [eF, IntWalk.wrap64_in (F : Int) (by omega)]
  go_wp2_with fail
  refine (ru32_any g1 r1 cap1 127 1 (s.extract 1 128) w2 hsz1 hcc1 hcm1 (by decide) (by decide) R2.rd R2.row).mono ?_
  rintro e w3 ⟨rfl, hh3, hk3⟩
  have R3 := R2.step (k := 4) (by omega) (by omega) (by omega) hh3 hk3
  rw [eE, IntWalk.wrap64_in (E : Int) (by omega)]
  go_wp2_with fail
  refine (ri64_any g1 r1 cap1 127 5 (s.extract 1 128) w3 hsz1 hcc1 hcm1 (by decide) (by decide) R3.rd R3.row).mono ?_
  rintro e w4 ⟨rfl, hh4, hk4⟩
  have R4 := R3.step (k := 8) (by omega) (by omega) (by omega) hh4 hk4
  rw [eT]
  generalize hQ : wrap64 (numAt s 6 8 : Nat) = Q
  have HQ := Lib.hid hQ
  clear hQ
  have c40 := (cell_of_row _ _ 0 _ _ _ R4.box).trans rfl
  go_wp2_with fail
  rw [bit1 F hF2, bit2 F hF2]
  generalize hB1 : decide (F % 2 = 1) = B1
  generalize hB2 : decide (F / 2 % 2 = 1) = B2
  have HB := Lib.hid (And.intro hB1 hB2)
  clear hB1 hB2
  have R4b := R4.alloc (.cells #[.int .i64 E, .int .i64 Q, .bool B1, .bool B2, .string ByteArray.empty] 41)
  have hbS := heap_alloc_new w4 (.cells #[.int .i64 E, .int .i64 Q, .bool B1, .bool B2, .string ByteArray.empty] 41)
  refine (ru16_any g1 r1 cap1 127 13 (s.extract 1 128) _ hsz1 hcc1 hcm1 (by decide) (by decide) R4b.rd R4b.row).mono ?_
  rintro e w5 ⟨rfl, hh5, hk5⟩
  have R5 : Rdg s (s.extract 1 128) r o w.heap.size g1 r1 cap1 127 (bx41 zero0) 15 w5 := R4b.step (k := 2) (by omega) (by omega) (by omega) hh5 hk5
  have hg4 : g1 < w4.heap.size := heap_lt R4.rd
  have hbS5 := hk5.heap hbS (by simp; omega)
  have K4 : Keep [] w w4 := (K1.trans' (hk2.trans (hk3.trans hk4)) (by simp; omega))
  rw [eN, IntWalk.wrap64_in (N : Int) (by omega)]
  have hsB : w.heap.size < w4.heap.size := heap_lt R4.box
  generalize w4.heap.size = S0 at *
  have c50 := (cell_of_row _ _ 0 _ _ _ R5.box).trans rfl
  have f50 := frozen_of_row w5 w.heap.size 0 _ _ R5.box
  have c51 := (cell_of_row _ _ 1 _ _ _ R5.box).trans rfl
  have f51 := frozen_of_row w5 w.heap.size 1 _ _ R5.box
  have c52 := (cell_of_row _ _ 2 _ _ _ R5.box).trans rfl
  have f52 := frozen_of_row w5 w.heap.size 2 _ _ R5.box
  have c53 := (cell_of_row _ _ 3 _ _ _ R5.box).trans rfl
  have f53 := frozen_of_row w5 w.heap.size 3 _ _ R5.box
  have c54 := (cell_of_row _ _ 4 _ _ _ R5.box).trans rfl
  have f54 := frozen_of_row w5 w.heap.size 4 _ _ R5.box
  have K5 : Keep [] w w5 := (K4.alloc _).trans' hk5 (by simp; omega)
  by_cases hN1 : N ≤ 108
  · by_cases hF3 : F ≤ 3
    · have d54 := (cell_of_row _ _ 4 _ _ _ hbS5).trans rfl
      have e54 := frozen_of_row w5 S0 4 _ _ hbS5
      have hrS : r ≠ S0 := by omega
      have hgS : g1 ≠ S0 := by omega
      have hconv : (convert 42 9 (.slice (some ⟨r, o + 16, none⟩) N (cap - 16))).run Try.prog w5 = .ok (.string (s.extract 16 (16 + N))) w5 := (R5.src.extract 16 (16 + N) (by omega)).conv (by simp [hn]; omega)
      have hDs : (s.extract 16 (16 + N)).size = N := by simp [hn]; omega
      obtain ⟨D, hD⟩ : ∃ D, s.extract 16 (16 + N) = D := ⟨_, rfl⟩
      rw [hD] at hconv hDs
      have HD := Lib.hid hD
      clear hD
      have hw6 : ∃ w6, w6 = w5.setCell ⟨S0, 4, none⟩ (.string D) := ⟨_, rfl⟩
      have hS6 : (w5.setCell ⟨S0, 4, none⟩ (.string D)).heap[S0]? = some (bx41 ⟨E, Q, B1, B2, D⟩) := heap_setCell_same w5 S0 4 _ _ _ hbS5
      have hB6 : (w5.setCell ⟨S0, 4, none⟩ (.string D)).heap[w.heap.size]? = some (bx41 zero0) := (heap_setCell_other w5 ⟨S0, 4, none⟩ w.heap.size _ (by show w.heap.size ≠ S0; omega)).trans R5.box
      have K6 : Keep [] w (w5.setCell ⟨S0, 4, none⟩ (.string D)) := K5.setCell (a := ⟨S0, 4, none⟩) (.inr (by show w.heap.size ≤ S0; omega)) _
      have S6 : Str8 (w5.setCell ⟨S0, 4, none⟩ (.string D)) r o s := R5.src.keep ((Keep.refl [S0] w5).setCell (a := ⟨S0, 4, none⟩) (.inl (by simp)) _) (by simpa using hrS)
      have hc16 : ¬ cap = 16 := by omega
      have hc16N : ¬ cap = 16 + N := by omega
      have hrat := rat_any g1 (.slice (some ⟨r1, 0, none⟩) 127 cap1) 15 w5 R5.rd
      go_wp2_with fail
      refine hrat.mono ?_
      rintro e wx ⟨rfl, rfl⟩
      go_wp2_with fail
      generalize wx.setCell ⟨S0, 4, none⟩ (.string D) = w6 at *
      have hnr2 := newrd_any r (o + 124) 4 (cap - 124) (s.extract 124 128) w6 (by simp [hn]) (by decide) (by decide) (S6.extract 124 128 (by omega))
      have HNR2 := Lib.hid hnr2
      clear hnr2
      have c60 := (cell_of_row _ _ 0 _ _ _ hB6).trans rfl
      have c61 := (cell_of_row _ _ 1 _ _ _ hB6).trans rfl
      have c62 := (cell_of_row _ _ 2 _ _ _ hB6).trans rfl
      have c63 := (cell_of_row _ _ 3 _ _ _ hB6).trans rfl
      have c64 := (cell_of_row _ _ 4 _ _ _ hB6).trans rfl
      have f60 := frozen_of_row w6 w.heap.size 0 _ _ hB6
      have f61 := frozen_of_row w6 w.heap.size 1 _ _ hB6
      have f62 := frozen_of_row w6 w.heap.size 2 _ _ hB6
      have f63 := frozen_of_row w6 w.heap.size 3 _ _ hB6
      have f64 := frozen_of_row w6 w.heap.size 4 _ _ hB6
      clear c50 c51 c52 c53 c54 f50 f51 f52 f53 f54 d54 e54 hrat hconv R5 R4b R4 R3 R2 R1 hh2 hh3 hh4 hh5 hk2 hk3 hk4 hk5 K5 K4 K1 hbS5 hbS c40
      obtain ⟨M, hM⟩ : ∃ M, 124 - (16 + N) = M := ⟨_, rfl⟩
      rw [hM]
      have HMM := Lib.hid hM
      clear hM
      have hMN : 16 + N + M = 124 := by have := HMM.out; omega
      go_loopw [3, 66] (fun z i wr => ∃ j : Nat, j ≤ M ∧ z = .int .i64 0 ∧ i = .int .i64 j ∧ wr = w6 ∧ (∀ m, m < j → numAt s (16 + N + m) 1 = 0)) (fun _ i _ => ((M : Int) - intOf i).toNat)
      case atStart => exact ⟨0, by omega, rfl, rfl, rfl, fun m hm => by omega⟩
      case round =>
        obtain ⟨j, hj, rfl, rfl, rfl, hz⟩ := hrel
        have HZ := Lib.hid hz
        clear hz
        by_cases hlt : j < M
        · have hcell := S6 (16 + N + j) (by omega)
          rw [← Nat.add_assoc] at hcell
          have hone := numAt_one s (16 + N + j) (by omega)
          obtain ⟨b, hb⟩ : ∃ b, (s[16 + N + j]'(by omega)).toNat = b := ⟨_, rfl⟩
          have hb2 : b < 256 := by have := (s[16 + N + j]'(by omega)).toNat_lt; omega
          rw [hb] at hcell hone
          have HONE := Lib.hid hone
          clear hone hb
          by_cases hb0 : b = 0
          · subst hb0
            go_wp2
            exact ⟨⟨j + 1, by omega, rfl, by go_num, by first | rfl | trivial, fun m hm => by
              rcases Nat.lt_or_ge m j with h | h
              · exact HZ.out m h
              · obtain rfl : m = j := by omega
                exact HONE.out⟩, by simp [intOf]; omega⟩
          · have hbz : ¬ ((b : Int) = 0) := by omega
            have hbad : readOk s = false := by
              have hnz : noughts s (16 + N) 124 = false := by
                unfold noughts
                rw [List.all_eq_false]
                exact ⟨j, List.mem_range.2 (by omega), by rw [HONE.out]; simpa using hb0⟩
              have := HEQ.out.2.2
              simp [readOk, this, hnz]
            clear HEQ
            go_wp2
            exact read_end (sv := zero0) rfl rfl (heap_set5 hB6 (.int .i64 0) (.int .i64 0) (.bool false) (.bool false) (.string ByteArray.empty)) ⟨congrArg Ending.returned (readBad hbad rfl), K6.set5 (.inr (Nat.le_refl _)) (.int .i64 0) (.int .i64 0) (.bool false) (.bool false) (.string ByteArray.empty)⟩
        · obtain rfl : j = M := by omega
          have hnought : noughts s (16 + N) 124 = true := by
            unfold noughts
            rw [List.all_eq_true]
            intro m hm
            have hm := List.mem_range.1 hm
            simpa using HZ.out m (by omega)
          have HNG := Lib.hid hnought
          clear hnought HZ c60 c61 c62 c63 c64 f60 f61 f62 f63 f64
          go_upto_region 17 with (fail)
          refine Code.wp_mono ?_ (read_tail r o cap E N F S0 Q B1 B2 D s w wr _ ?_ ?_ ?_ ?_ ?_ ?_ hn hcap hcap2 hrl hDs hN1 hF3 hsB H0 HEQ HQ HB HD HNG hB6 hS6 S6 K6)
          · intro e a wz h
            cases e with
            | normal => exact (by assumption : ∀ a w, Code.wp Try.prog (tailOf 11 (Try.f59.body.getD .skip)) _ a w → _) a wz h
            | _ => exact h
          all_goals rfl
    · have hbad : readOk s = false := by
        have := HEQ.out.1
        simp [readOk, this, hF3]
      clear HEQ
      go_wp2
      exact read_end (sv := zero0) rfl rfl (heap_set5 R5.box (.int .i64 0) (.int .i64 0) (.bool false) (.bool false) (.string ByteArray.empty)) ⟨congrArg Ending.returned (readBad hbad rfl), K5.set5 (.inr (Nat.le_refl _)) (.int .i64 0) (.int .i64 0) (.bool false) (.bool false) (.string ByteArray.empty)⟩
  · have hbad : readOk s = false := by
      have := HEQ.out.2.2
      simp [readOk, this, hN1]
    clear HEQ
    go_wp2
    exact read_end (sv := zero0) rfl rfl (heap_set5 R5.box (.int .i64 0) (.int .i64 0) (.bool false) (.bool false) (.string ByteArray.empty)) ⟨congrArg Ending.returned (readBad hbad rfl), K5.set5 (.inr (Nat.le_refl _)) (.int .i64 0) (.int .i64 0) (.bool false) (.bool false) (.string ByteArray.empty)⟩

/-- slot.Read of any bytes that lie somewhere. -/
theorem read_any (p : Option Addr) (r o n cap : Nat) (s : ByteArray) (w : World) (hp : p = some ⟨r, o, none⟩ ∨ s.size = 0) (hn : s.size = n) (hcap : n ≤ cap) (hcm : cap ≤ maxLen) (hc : Str8 w r o s) :
    Calls Try.prog 59 #[.slice p n cap] w fun e w' => e = .returned (.tuple #[(readS s).val, .int .i64 (readE s)]) ∧ Keep [] w w' := by
  by_cases h : n = 128
  · have hp2 : p = some ⟨r, o, none⟩ := hp.resolve_right (by omega)
    subst hp2 h
    by_cases h0 : numAt s 0 1 = 83
    · exact read_rest r o cap s w hn hcap hcm hc h0
    · have hb : readOk s = false := by simp [readOk, h0]
      have := read_first r o cap s w hn hc h0
      rwa [show zero0 = readS s by simp [readS, hb], show (4 : Int) = readE s by simp [readE, hb]] at this
  · have hb : readOk s = false := by simp [readOk, hn, h]
    have := read_short p n cap w h
    rwa [show zero0 = readS s by simp [readS, hb], show (4 : Int) = readE s by simp [readE, hb]] at this
end Go.Proofs.Ytkhggpopohkjfaa
