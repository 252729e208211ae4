/- What slot.Read says of bytes is what the reference says of them. Plain; nothing of the program is walked here. -/
import Derived.Test.YtkhggpopohkjfaaRefRead
namespace Go.Proofs.Ytkhggpopohkjfaa
open Go.RowKit Go.Proofs Go.Lib

theorem bytesAt_get {s : ByteArray} {p k i : Nat} (h : p + k ≤ s.size) (hi : i < k) : (bytesAt s p k)[i]? = some (s[p + i]'(by omega)) := by
  unfold bytesAt
  rw [List.getElem?_take_of_lt hi, List.getElem?_drop]
  exact List.getElem?_eq_getElem (by show p + i < s.size; omega)
theorem noughts_iff (s : ByteArray) (p m : Nat) (h : p + m ≤ s.size) : noughts s p (p + m) = true ↔ bytesAt s p m = List.replicate m 0 := by
  unfold noughts
  rw [List.all_eq_true, Nat.add_sub_cancel_left]
  constructor
  · intro hz
    apply List.ext_getElem?
    intro i
    rcases Nat.lt_or_ge i m with hi | hi
    · rw [bytesAt_get h hi, List.getElem?_replicate_of_lt hi]
      have := hz i (List.mem_range.2 hi)
      rw [numAt_one s (p + i) (by omega)] at this
      have h0 : (s[p + i]'(by omega)).toNat = 0 := by simpa using this
      exact congrArg some (UInt8.toNat_inj.1 h0)
    · rw [List.getElem?_eq_none (by rw [bytesAt_length h]; exact hi), List.getElem?_eq_none (by simpa using hi)]
  · intro he i hi
    have hi := List.mem_range.1 hi
    rw [numAt_one s (p + i) (by omega)]
    have h1 := bytesAt_get h hi
    rw [he, List.getElem?_replicate_of_lt hi] at h1
    have h2 := Option.some.inj h1
    rw [← h2]
    rfl
theorem bytesAt_mid {s : ByteArray} {X Y Z : List UInt8} (h : s.data.toList = X ++ (Y ++ Z)) {p k : Nat} (hp : X.length = p) (hk : Y.length = k) : bytesAt s p k = Y := by
  unfold bytesAt
  rw [h, ← hp, List.drop_left, ← hk, List.take_left]
theorem beTo_numAt (s : ByteArray) (p k : Nat) (h : p + k ≤ s.size) : beTo k (numAt s p k) k = bytesAt s p k := by
  have := beTo_beNum (bytesAt s p k)
  rw [bytesAt_length h] at this
  exact this
theorem bytesAt_join (s : ByteArray) (p j k : Nat) : bytesAt s p (j + k) = bytesAt s p j ++ bytesAt s (p + j) k := by
  unfold bytesAt
  rw [List.take_add, List.drop_drop]
theorem data_append (a b : ByteArray) : (a ++ b).data.toList = a.data.toList ++ b.data.toList := by simp
theorem data_beB (k n : Nat) : (beB k n).data.toList = beTo k n k := by simp [beB]
theorem data_extract (s : ByteArray) (a b : Nat) : (s.extract a b).data.toList = bytesAt s a (b - a) := by simp [bytesAt]
theorem data_inj {a b : ByteArray} (h : a.data.toList = b.data.toList) : a = b := ByteArray.ext (Array.ext' h)
theorem bytesAt_all {s : ByteArray} {n : Nat} (h : s.size = n) : bytesAt s 0 n = s.data.toList := by
  unfold bytesAt
  have hl : s.data.toList.length = n := h
  rw [List.drop_zero, List.take_of_length_le (by omega)]

/-- A slot's head, as a list. -/
theorem head_list (s : SlotV) : (slotHead s).data.toList = [83] ++ (beTo 1 (flagsN s) 1 ++ (beTo 4 s.epoch.toNat 4 ++ (beTo 8 s.seq.toNat 8 ++ (beTo 2 s.data.size 2 ++ (s.data.data.toList ++ List.replicate (108 - s.data.size) 0))))) := by
  unfold slotHead
  simp only [data_append, data_beB, List.append_assoc]
  rfl

/-- A number of eight bytes that is not below nought is told whole. -/
theorem wrap_nonneg (n : Nat) (h : n < 18446744073709551616) (h0 : 0 ≤ wrap64 (n : Int)) : (wrap64 (n : Int)).toNat = n := by
  unfold wrap64 at *
  omega
theorem flags_small (s : ByteArray) (h : numAt s 1 1 ≤ 3) : flagsN (decS s) = numAt s 1 1 := by
  unfold flagsN decS
  dsimp only
  generalize numAt s 1 1 = F at *
  have : F = 0 ∨ F = 1 ∨ F = 2 ∨ F = 3 := by omega
  rcases this with rfl | rfl | rfl | rfl <;> rfl
theorem flags_le (s : SlotV) : flagsN s ≤ 3 := by
  unfold flagsN
  cases s.first <;> cases s.last <;> decide

theorem head_iff (s : ByteArray) (hn : s.size = 128) (hN : numAt s 14 2 ≤ 108) (hok : okSlot (decS s) = true) :
    (numAt s 0 1 = 83 ∧ numAt s 1 1 ≤ 3 ∧ noughts s (16 + numAt s 14 2) 124 = true) ↔ slotHead (decS s) = s.extract 0 124 := by
  have hds : (decS s).data.size = numAt s 14 2 := by unfold decS; simp [hn]; omega
  have hep : (decS s).epoch.toNat = numAt s 2 4 := rfl
  have hsq : (decS s).seq.toNat = numAt s 6 8 := wrap_nonneg _ (by have := numAt_lt s 6 8 (by omega); omega) (of_decide_eq_true hok).2.2.1
  have hdl : (decS s).data.data.toList = bytesAt s 16 (numAt s 14 2) := by
    show (s.extract 16 (16 + numAt s 14 2)).data.toList = _
    rw [data_extract, Nat.add_sub_cancel_left]
  have hsplit : (s.extract 0 124).data.toList = bytesAt s 0 1 ++ (bytesAt s 1 1 ++ (bytesAt s 2 4 ++ (bytesAt s 6 8 ++ (bytesAt s 14 2 ++ (bytesAt s 16 (numAt s 14 2) ++ bytesAt s (16 + numAt s 14 2) (108 - numAt s 14 2)))))) := by
    rw [data_extract]
    have e : 124 - 0 = 1 + (1 + (4 + (8 + (2 + (numAt s 14 2 + (108 - numAt s 14 2)))))) := by omega
    rw [e, bytesAt_join, bytesAt_join, bytesAt_join, bytesAt_join, bytesAt_join, bytesAt_join]
  have hhead := head_list (decS s)
  rw [hds, hep, hsq, hdl, beTo_numAt s 2 4 (by omega), beTo_numAt s 6 8 (by omega), beTo_numAt s 14 2 (by omega)] at hhead
  have h124 : 16 + numAt s 14 2 + (108 - numAt s 14 2) = 124 := by omega
  have hnz := noughts_iff s (16 + numAt s 14 2) (108 - numAt s 14 2) (by omega)
  rw [h124] at hnz
  have l0 : (bytesAt s 0 1).length = 1 := bytesAt_length (by omega)
  have l1 : (bytesAt s 1 1).length = 1 := bytesAt_length (by omega)
  constructor
  · rintro ⟨h0, h1, h2⟩
    apply data_inj
    rw [hhead, hsplit, flags_small s h1, beTo_numAt s 1 1 (by omega), hnz.1 h2]
    have : bytesAt s 0 1 = [83] := by
      have := beTo_numAt s 0 1 (by omega)
      rw [← this, h0]
      rfl
    rw [this]
  · intro he
    have he2 := congrArg (fun b : ByteArray => b.data.toList) he
    rw [hhead, hsplit] at he2
    obtain ⟨e0, he3⟩ := List.append_inj he2 (by rw [l0]; rfl)
    obtain ⟨e1, he4⟩ := List.append_inj he3 (by rw [l1, beTo_length])
    have he5 := List.append_cancel_left he4
    have he6 := List.append_cancel_left he5
    have he7 := List.append_cancel_left he6
    have he8 := List.append_cancel_left he7
    refine ⟨by unfold numAt; rw [← e0]; rfl, ?_, hnz.2 he8.symm⟩
    have h1 : numAt s 1 1 = flagsN (decS s) := by
      unfold numAt
      rw [← e1]
      exact beNum_beTo 1 _ (by have := flags_le (decS s); omega)
    rw [h1]
    exact flags_le _

theorem readOk_eq (s : ByteArray) : readOk s = rrOk s := by
  unfold readOk rrOk
  by_cases hn : s.size = 128
  · by_cases hN : numAt s 14 2 ≤ 108
    · cases hok : okSlot (decS s) with
      | false => simp
      | true =>
        have hiff := head_iff s hn hN hok
        have hds : (decS s).data.size ≤ 108 := (of_decide_eq_true hok).2.2.2.2
        have hsz := slotHead_size hds
        have hcrc := crcOf_lt (s.extract 0 124)
        have hs2 : s = s.extract 0 124 ++ s.extract 124 128 := by
          apply data_inj
          rw [data_append, data_extract, data_extract, ← bytesAt_all hn]
          exact bytesAt_join s 0 124 4
        have hB : slotB (decS s) = s ↔ slotHead (decS s) = s.extract 0 124 ∧ numAt s 124 4 = crcOf (s.extract 0 124) := by
          unfold slotB
          constructor
          · intro he
            have he2 := congrArg (fun b : ByteArray => b.data.toList) (he.trans hs2)
            simp only [data_append] at he2
            obtain ⟨e0, e1⟩ := List.append_inj he2 (by
              show (slotHead (decS s)).size = (s.extract 0 124).size
              rw [hsz]; simp [hn])
            have e0 := data_inj e0
            refine ⟨e0, ?_⟩
            rw [data_beB, data_extract, e0] at e1
            unfold numAt
            have e2 : bytesAt s 124 4 = beTo 4 (crcOf (s.extract 0 124)) 4 := e1.symm
            rw [e2]
            generalize crcOf (s.extract 0 124) = cc at *
            exact beNum_beTo 4 cc (by have h4 : 256 ^ 4 = 4294967296 := by rfl
                                      rw [h4]; exact hcrc)
          · rintro ⟨e0, e1⟩
            rw [e0, ← e1]
            refine Eq.trans ?_ hs2.symm
            refine congrArg (s.extract 0 124 ++ ·) ?_
            apply data_inj
            rw [data_beB, data_extract, beTo_numAt s 124 4 (by omega)]
        rw [Bool.eq_iff_iff]
        simp only [Bool.and_eq_true, decide_eq_true_eq, hn, hN, true_and, and_true]
        rw [hB, ← hiff]
        constructor
        · rintro ⟨⟨⟨h1, h2⟩, h3⟩, h4⟩
          exact ⟨⟨h1, h2, h3⟩, h4⟩
        · rintro ⟨⟨h1, h2, h3⟩, h4⟩
          exact ⟨⟨⟨h1, h2⟩, h3⟩, h4⟩
    · simp [hN]
  · simp [hn]
theorem readS_eq (s : ByteArray) : readS s = rrS s := by unfold readS rrS; rw [readOk_eq]
theorem readE_eq (s : ByteArray) : readE s = rrE s := by unfold readE rrE; rw [readOk_eq]
end Go.Proofs.Ytkhggpopohkjfaa
