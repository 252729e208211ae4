/- ambryref05.Cut: the document's answer to a cut is slot.Cut's. Its premise: the record fits memory. -/
import Derived.Test.YtkhggpopohkjfaaCut
namespace Go.Proofs.Ytkhggpopohkjfaa
open Go.RowKit Go.Proofs

set_option maxRecDepth 100000 in
set_option maxHeartbeats 2000000 in
theorem refcut_ok (s : ByteArray) (ep sq : Int) (w : World) (hs : s.size ≤ 16384) (h1 : 0 ≤ ep) (h2 : ep ≤ 2147483647) (h3 : 0 ≤ sq) (h4 : sq + npc s ≤ 1152921504606846976 + 1) :
    Calls Try.prog 25 #[.string s, .int .i64 ep, .int .i64 sq] w (CutPost w s ep sq) := by
  have hss : (s.size : Int) ≤ 16384 := by omega
  have hss0 : 0 ≤ (s.size : Int) := by omega
  obtain ⟨N, hN⟩ : ∃ N, npc s = N := ⟨_, rfl⟩
  rw [hN] at h4
  have hN2 : 1 ≤ N ∧ N ≤ 152 := by rw [← hN]; exact ⟨npc_pos s, npc_le hs⟩
  obtain ⟨hN3, hN4⟩ := hN2
  have hmx : (if 1 < ((s.size : Int) + 108 - 1) / 108 then ((s.size : Int) + 108 - 1) / 108 else 1) = (N : Int) := by
    rw [← hN]; unfold npc; split <;> omega
  have HN := Lib.hid hN
  clear hN
  have h4' : (N : Int) ≤ 1152921504606846976 + 1 - sq := by omega
  clear h4
  go_enter Try.func25, Try.ntmps25
  go_wp2
  go_loopw [9, 10] (fun v i wr => ∃ k : Nat, k ≤ N ∧ i = .int .i64 k ∧ wr.ownsRow w.heap.size 41 5 v k (slotCells (cutTo s ep sq true k)) ∧ Keep [] w wr) (fun _ i _ => N - (intOf i).toNat)
  case atStart => exact ⟨0, by omega, rfl, World.ownsRow_nil _ _ _ _, Keep.refl _ _⟩
  case round =>
    obtain ⟨k, hk, rfl, hrow, hkp⟩ := hrel
    clear hmx
    by_cases hlt : k < N
    · obtain ⟨E, hE⟩ : ∃ E, min (108 * k + 108) s.size = E := ⟨_, rfl⟩
      have hk1 : 108 * k ≤ s.size := by have := HN.out; unfold npc at this; omega
      have hE1 : 108 * k ≤ E ∧ E ≤ s.size := by omega
      have hmn : (if ((k : Int) + 1) * 108 < (s.size : Int) then ((k : Int) + 1) * 108 else (s.size : Int)) = (E : Int) := by
        rw [← hE]; split <;> omega
      have hsl : ∀ wx, (Instr.slice 9 (.string s) (some (.int .i64 ((k : Int) * 108))) (some (.int .i64 (E : Int))) none).run Try.prog wx = .ok (.string (pieceB s k)) wx := fun wx => by
        rw [run_slice_string (P := Try.prog) wx 9 s .i64 .i64 ((k : Int) * 108) (E : Int) Try.underlying9 (by omega) (by omega) (by omega)]
        unfold pieceB
        rw [hE, show ((k : Int) * 108).toNat = 108 * k by omega, show ((E : Nat) : Int).toNat = E by omega]
      obtain ⟨hE2, hE3⟩ := hE1
      have HE := Lib.hid hE
      clear hE
      have hsz := hkp.size
      obtain ⟨i0, hi, hz0, hz1, hz2⟩ := info_parts info41
      have hn := news_alloc wr [.int .i64 ep, .int .i64 (sq + (k : Int)), .bool ((k : Int) == 0), .bool ((k : Int) == (N : Int) - 1), .string (pieceB s k)] 41
      go_wp2_with (at_builtin; refine wpList_append_own _ rfl _ _ 22 rfl w.heap.size 41 i0 (.agg #[.int .i64 0, .int .i64 0, .bool false, .bool false, .string .empty]) 5 40 Try.underlying22 hi hz0 hz1 hz2 rfl (by decide) _ _ _ rfl (hrow.alloc _) ⟨wr.heap.size, 0, none⟩ 1 1 [.int .i64 ep, .int .i64 (sq + (k : Int)), .bool ((k : Int) == 0), .bool ((k : Int) == (N : Int) - 1), .string (pieceB s k)] rfl rfl hn (by simp [Value.oneCell']) (by unfold maxLen; omega) (by omega) (by simp; omega) ?_; intro v' w1 hown' hgrow _; obtain ⟨g', cap', rfl⟩ := ownsRow_succ hown')
      have hrow2 : w1.ownsRow w.heap.size 41 5 (.slice (some ⟨g', 0, none⟩) (k + 1) cap') (k + 1) (slotCells (cutTo s ep sq true (k + 1))) := by
        have e3 : ((k : Int) == (N : Int) - 1) = (k + 1 == npc s) := by rw [HN.out, Bool.eq_iff_iff, beq_iff_eq, beq_iff_eq]; omega
        have e1 : slotCells (cutTo s ep sq true (k + 1)) = slotCells (cutTo s ep sq true k) ++ [.int .i64 ep, .int .i64 (sq + (k : Int)), .bool ((k : Int) == 0), .bool ((k : Int) == (N : Int) - 1), .string (pieceB s k)] := by
          rw [cutTo_succ, slotCells_append, slotCells_one, nat_beq_zero, e3]
          rfl
        rw [e1]
        exact hown'
      have hkp2 : Keep [] w w1 := (hkp.alloc _).grown hgrow (fun j hj => .inr (hrow.lt j hj).1)
      exact ⟨⟨k + 1, by omega, by go_num, hrow2, hkp2⟩, by simp [intOf]; omega⟩
    · obtain rfl : k = N := by omega
      have hE : cutErr s ep sq = 0 := by have := HN.out; unfold cutErr; rw [if_neg (by omega), if_neg (by omega)]
      have hfin : CutPost w s ep sq (.returned (.tuple #[u9, .int .i64 0])) wr := by
        refine ⟨hkp, _, by rw [hE], fun h => absurd hE h, fun _ => ?_⟩
        unfold cutL
        rw [HN.out]
        exact hrow
      have FIN := Lib.hid hfin
      clear hfin hE
      go_wp2
      go_ret2
      exact FIN.out

theorem refcut_big (s : ByteArray) (ep sq : Int) (w : World) (hs : 16384 < s.size) (hm : s.size ≤ 9223372036854775807) :
    Calls Try.prog 25 #[.string s, .int .i64 ep, .int .i64 sq] w (CutPost w s ep sq) := by
  have hE : cutErr s ep sq = 5 := by unfold cutErr; rw [if_pos hs]
  have hss : 16384 < (s.size : Int) := by omega
  have fin : ∀ e w', e = .returned (.tuple #[.slice none 0 0, .int .i64 5]) → w' = w → CutPost w s ep sq e w' := by
    rintro e w' rfl rfl
    refine ⟨Keep.refl _ _, _, by rw [hE], fun _ => rfl, fun h => ?_⟩
    rw [hE] at h
    cases h
  have FIN := Lib.hid fin
  clear fin hE
  go_enter Try.func25, Try.ntmps25
  go_wp2
  go_ret2
  exact FIN.out _ _ rfl rfl

set_option maxHeartbeats 1000000 in
theorem refcut_arg (s : ByteArray) (ep sq : Int) (w : World) (hs : s.size ≤ 16384) (wq : -9223372036854775808 ≤ sq ∧ sq ≤ 9223372036854775807) (h : ep < 0 ∨ 2147483647 < ep ∨ sq < 0 ∨ 1152921504606846976 + 1 < sq + npc s) :
    Calls Try.prog 25 #[.string s, .int .i64 ep, .int .i64 sq] w (CutPost w s ep sq) := by
  have hp := npc_pos s
  have hp2 := npc_le hs
  have hE : cutErr s ep sq = 2 := by unfold cutErr; rw [if_neg (by omega), if_pos (by omega)]
  have hss : (s.size : Int) ≤ 16384 := by omega
  have hss0 : 0 ≤ (s.size : Int) := by omega
  have fin : ∀ e w', e = .returned (.tuple #[.slice none 0 0, .int .i64 2]) → w' = w → CutPost w s ep sq e w' := by
    rintro e w' rfl rfl
    refine ⟨Keep.refl _ _, _, by rw [hE], fun _ => rfl, fun h => ?_⟩
    rw [hE] at h
    cases h
  have FIN := Lib.hid fin
  clear fin hE
  obtain ⟨N, hN⟩ : ∃ N, npc s = N := ⟨_, rfl⟩
  have hmx : (if 1 < ((s.size : Int) + 108 - 1) / 108 then ((s.size : Int) + 108 - 1) / 108 else 1) = (N : Int) := by
    rw [← hN]; unfold npc; split <;> omega
  rw [hN] at h hp hp2
  clear hN
  have a1 : ep < 0 ∨ 0 ≤ ep := by omega
  have a2 : 2147483647 < ep ∨ ep ≤ 2147483647 := by omega
  have a3 : sq < 0 ∨ 0 ≤ sq := by omega
  rcases a1 with a1 | a1
  · clear h a2 a3
    go_enter Try.func25, Try.ntmps25
    go_wp2
    go_ret2
    exact FIN.out _ _ rfl rfl
  rcases a2 with a2 | a2
  · clear h a3
    go_enter Try.func25, Try.ntmps25
    go_wp2
    go_ret2
    exact FIN.out _ _ rfl rfl
  rcases a3 with a3 | a3
  · clear h
    go_enter Try.func25, Try.ntmps25
    go_wp2
    go_ret2
    exact FIN.out _ _ rfl rfl
  have a4 : 1152921504606846976 - (N : Int) + 1 < sq := by omega
  clear h
  go_enter Try.func25, Try.ntmps25
  go_wp2
  go_ret2
  exact FIN.out _ _ rfl rfl

/-- ambryref05.Cut, at every record and all numbers. -/
theorem refcut_any (s : ByteArray) (ep sq : Int) (w : World) (hm : s.size ≤ 9223372036854775807) (wq : -9223372036854775808 ≤ sq ∧ sq ≤ 9223372036854775807) :
    Calls Try.prog 25 #[.string s, .int .i64 ep, .int .i64 sq] w (CutPost w s ep sq) := by
  by_cases hs : s.size ≤ 16384
  · by_cases h : 0 ≤ ep ∧ ep ≤ 2147483647 ∧ 0 ≤ sq ∧ sq + npc s ≤ 1152921504606846976 + 1
    · exact refcut_ok s ep sq w hs h.1 h.2.1 h.2.2.1 h.2.2.2
    · exact refcut_arg s ep sq w hs wq (by omega)
  · exact refcut_big s ep sq w (by omega) hm
end Go.Proofs.Ytkhggpopohkjfaa
