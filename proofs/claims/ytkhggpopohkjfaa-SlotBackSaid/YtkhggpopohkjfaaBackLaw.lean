/- A right slot's bytes are read as the slot. Plain. -/
import Derived.Test.YtkhggpopohkjfaaReadLaw
namespace Go.Proofs.Ytkhggpopohkjfaa
open Go.RowKit Go.Proofs Go.Lib

theorem slotB_list (s : SlotV) : (slotB s).data.toList = [83] ++ (beTo 1 (flagsN s) 1 ++ (beTo 4 s.epoch.toNat 4 ++ (beTo 8 s.seq.toNat 8 ++ (beTo 2 s.data.size 2 ++ (s.data.data.toList ++ (List.replicate (108 - s.data.size) 0 ++ beTo 4 (crcOf (slotHead s)) 4)))))) := by
  unfold slotB
  rw [data_append, head_list, data_beB]
  simp only [List.append_assoc]

theorem decS_slotB (s : SlotV) (h : okSlot s = true) : decS (slotB s) = s := by
  obtain ⟨h1, h2, h3, h4, h5⟩ := of_decide_eq_true h
  have hl := slotB_list s
  have n1 : numAt (slotB s) 1 1 = flagsN s := by
    unfold numAt
    rw [bytesAt_mid (p := 1) (k := 1) (X := [83]) (Y := beTo 1 (flagsN s) 1) hl rfl (beTo_length _ _ _)]
    exact beNum_beTo 1 _ (by have := flags_le s; omega)
  have n2 : numAt (slotB s) 2 4 = s.epoch.toNat := by
    unfold numAt
    rw [bytesAt_mid (X := [83] ++ beTo 1 (flagsN s) 1) (Y := beTo 4 s.epoch.toNat 4) (by rw [hl]; simp only [List.append_assoc]; rfl) (by simp [beTo_length]) (beTo_length _ _ _)]
    exact beNum_beTo 4 _ (by omega)
  have n6 : numAt (slotB s) 6 8 = s.seq.toNat := by
    unfold numAt
    rw [bytesAt_mid (X := [83] ++ beTo 1 (flagsN s) 1 ++ beTo 4 s.epoch.toNat 4) (Y := beTo 8 s.seq.toNat 8) (by rw [hl]; simp only [List.append_assoc]; rfl) (by simp [beTo_length]) (beTo_length _ _ _)]
    exact beNum_beTo 8 _ (by omega)
  have n14 : numAt (slotB s) 14 2 = s.data.size := by
    unfold numAt
    rw [bytesAt_mid (X := [83] ++ beTo 1 (flagsN s) 1 ++ beTo 4 s.epoch.toNat 4 ++ beTo 8 s.seq.toNat 8) (Y := beTo 2 s.data.size 2) (by rw [hl]; simp only [List.append_assoc]; rfl) (by simp [beTo_length]) (beTo_length _ _ _)]
    exact beNum_beTo 2 _ (by omega)
  have d16 : (slotB s).extract 16 (16 + s.data.size) = s.data := by
    apply data_inj
    rw [data_extract, Nat.add_sub_cancel_left]
    exact bytesAt_mid (X := [83] ++ beTo 1 (flagsN s) 1 ++ beTo 4 s.epoch.toNat 4 ++ beTo 8 s.seq.toNat 8 ++ beTo 2 s.data.size 2) (Y := s.data.data.toList) (by rw [hl]; simp only [List.append_assoc]; rfl) (by simp [beTo_length]) rfl
  obtain ⟨ep, sq, f, l, d⟩ := s
  unfold decS
  dsimp only at *
  rw [n1, n2, n6, n14, d16]
  have e1 : ((ep.toNat : Nat) : Int) = ep := by omega
  have e2 : wrap64 ((sq.toNat : Nat) : Int) = sq := by rw [IntWalk.wrap64_in _ (by omega)]; omega
  rw [e1, e2]
  unfold flagsN
  cases f <;> cases l <;> simp

theorem readOk_slotB (s : SlotV) (h : okSlot s = true) : readOk (slotB s) = true := by
  have h5 : s.data.size ≤ 108 := (of_decide_eq_true h).2.2.2.2
  have hd := decS_slotB s h
  have hn : numAt (slotB s) 14 2 = s.data.size := by
    unfold numAt
    rw [bytesAt_mid (X := [83] ++ beTo 1 (flagsN s) 1 ++ beTo 4 s.epoch.toNat 4 ++ beTo 8 s.seq.toNat 8) (Y := beTo 2 s.data.size 2) (by rw [slotB_list]; simp only [List.append_assoc]; rfl) (by simp [beTo_length]) (beTo_length _ _ _)]
    exact beNum_beTo 2 _ (by omega)
  rw [readOk_eq]
  unfold rrOk
  rw [hd, h, hn, slotB_size h5]
  simp [h5]
theorem readS_slotB (s : SlotV) (h : okSlot s = true) : readS (slotB s) = s := by
  unfold readS
  rw [readOk_slotB s h, if_pos rfl, decS_slotB s h]
theorem readE_slotB (s : SlotV) (h : okSlot s = true) : readE (slotB s) = 0 := by
  unfold readE
  rw [readOk_slotB s h, if_pos rfl]
/-- What is read has just these bytes. -/
theorem slotB_readS (b : ByteArray) (h : readOk b = true) : okSlot (readS b) = true ∧ slotB (readS b) = b := by
  have h2 := h
  rw [readOk_eq] at h2
  unfold rrOk at h2
  simp only [Bool.and_eq_true, decide_eq_true_eq] at h2
  unfold readS
  rw [h, if_pos rfl]
  exact ⟨h2.1.2, h2.2⟩
end Go.Proofs.Ytkhggpopohkjfaa
