/- slot.Bytes: a slot's bytes. Premise: a string's size fits memory. -/
import Derived.Test.YtkhggpopohkjfaaSlotB
namespace Go.Proofs.Ytkhggpopohkjfaa
open Go.RowKit Go.Proofs Go.Lib

theorem bytes_bad (ep sq : Int) (f l : Bool) (d : ByteArray) (w : World) (hm : d.size ≤ 9223372036854775807) (h : okSlot ⟨ep, sq, f, l, d⟩ = false) :
    Calls Try.prog 29 #[.agg #[.int .i64 ep, .int .i64 sq, .bool f, .bool l, .string d]] w fun e w' => e = .returned (.tuple #[.slice none 0 0, .int .i64 2]) ∧ Keep [] w w' := by
  go_enter Try.func29, Try.ntmps29
  go_wp2_with fail
  refine (check_bad ep sq f l d _ hm h).mono ?_
  rintro e w1 ⟨rfl, rfl⟩
  go_wp2
  go_ret2
  exact ⟨rfl, ((Keep.refl _ _).alloc _).alloc _⟩

set_option maxRecDepth 100000 in
set_option maxHeartbeats 4000000 in
theorem bytes_ok (E Q : Nat) (f l : Bool) (d : ByteArray) (w : World) (h : okSlot ⟨E, Q, f, l, d⟩ = true) :
    Calls Try.prog 29 #[.agg #[.int .i64 E, .int .i64 Q, .bool f, .bool l, .string d]] w fun e w' => ∃ v, e = .returned (.tuple #[v, .int .i64 0]) ∧ Keep [] w w' ∧ w'.ownsRow w.heap.size 5 1 v 128 (strCells (slotB ⟨E, Q, f, l, d⟩)) := by
  obtain ⟨i5, hi5, hz50, hz51, hz52⟩ := info_parts info5
  obtain ⟨h1, h2, h3, h4, h5⟩ := of_decide_eq_true h
  dsimp only at h1 h2 h3 h4 h5
  obtain ⟨F, hF⟩ : ∃ F, flagsN ⟨E, Q, f, l, d⟩ = F := ⟨_, rfl⟩
  have hF2 : F < 256 := by rw [← hF]; unfold flagsN; cases f <;> cases l <;> simp
  have hE : E < 4294967296 := by omega
  have hQ : Q < 9223372036854775808 := by omega
  obtain ⟨bx, hbx⟩ : ∃ bx, bx = Obj.cells #[.int .i64 E, .int .i64 Q, .bool f, .bool l, .string d] 41 := ⟨_, rfl⟩
  clear h1 h2 h3 h4
  go_enter Try.func29, Try.ntmps29
  go_wp2_with fail
  refine (check_ok E Q f l d _ h).mono ?_
  rintro e w1 ⟨rfl, rfl⟩
  go_wp2_with fail
  refine (flags_any E Q f l d _).mono ?_
  rintro e w1 ⟨rfl, rfl⟩
  rw [hF]
  obtain ⟨W0, hW0⟩ : ∃ W0, W0 = w.alloc (.cells #[.int .i64 E, .int .i64 Q, .bool f, .bool l, .string d] 41) := ⟨_, rfl⟩
  obtain ⟨W, hW⟩ : ∃ W, W = W0.alloc (.cells #[.int .i64 E, .int .i64 Q, .bool f, .bool l, .string d] 41) := ⟨_, rfl⟩
  have hW0s : W0.heap.size = w.heap.size + 1 := by rw [hW0]; simp
  have hWs : W.heap.size = w.heap.size + 1 + 1 := by rw [hW]; simp [hW0s]
  have hbl0 : Below (w.heap.size + 1) W0 W := by rw [hW]; exact (Below.refl _ _).alloc (by omega) _
  have hb0 : W0.heap[w.heap.size]? = some (.cells #[.int .i64 E, .int .i64 Q, .bool f, .bool l, .string d] 41) := by rw [hW0]; exact heap_alloc_new w _
  have hkeep : ∀ wx : World, Below (w.heap.size + 1) W0 wx → Keep [] w wx ∧ wx.heap[w.heap.size]? = some (.cells #[.int .i64 E, .int .i64 Q, .bool f, .bool l, .string d] 41) := fun wx hx =>
    ⟨Keep.of_below (((Below.refl _ w).alloc (Nat.le_refl _) _).trans (hW0 ▸ hx.mono (by omega))), (hx.block _ (by omega)).trans hb0⟩
  have hr0 : ((W.alloc (.cells #[.int .u8 83] 5)).alloc (.cells #[.int .i64 E, .int .i64 Q, .bool f, .bool l, .string d] 41)).ownsRow (w.heap.size + 1) 5 1 (.slice (some ⟨W.heap.size, 0, none⟩) 1 1) 1 (strCells (oneB 83)) :=
    (World.ownsRow_lit (base := w.heap.size + 1) (size := 1) (e := 5) W #[.int .u8 83] 1 (by omega) (by decide) rfl).alloc _
  rw [hWs] at hr0
  rw [← hW0, ← hW]
  clear hW hW0
  have HR0 := Lib.hid hr0
  clear hr0
  go_wp2_with fail
  refine (Put8_any _ _ _ (w.heap.size + 1) F _ HR0.out (by simp; omega) (by omega) hF2).mono ?_
  rintro e w2 ⟨v2, rfl, hr2, hbl2⟩
  have hbl2' := (((hbl0.alloc (by omega) _).alloc (by simp; omega) _).trans hbl2)
  have hs2 := hbl2'.size
  obtain ⟨hk2, hb2⟩ := hkeep _ hbl2'
  have c20 := (cell_of_row _ _ 0 _ _ _ hb2).trans rfl
  have c21 := (cell_of_row _ _ 1 _ _ _ hb2).trans rfl
  go_wp2_with fail
  go_region_held3 (fun w' : World => w'.cell? ⟨w.heap.size, 0, none⟩ = some (.int .i64 E) ∧ w'.cell? ⟨w.heap.size, 1, none⟩ = some (.int .i64 Q)) (go_keep) (first
    | (go_at_call 81; refine (Put32_any _ _ _ (w.heap.size + 1) E _ hr2.drew (by show _ ≤ w2.heap.size; omega) (by omega) hE).mono ?_; rintro e w3 ⟨v3, rfl, hr3, hbl3⟩; have hbl3' := hbl2'.drew.trans hbl3; have hs3 := hbl3'.size; obtain ⟨hk3, hb3⟩ := hkeep _ hbl3'; have c30 := (cell_of_row _ _ 0 _ _ _ hb3).trans rfl; have c31 := (cell_of_row _ _ 1 _ _ _ hb3).trans rfl)
    | (go_at_call 80; refine (Put64_any _ _ _ (w.heap.size + 1) Q _ hr3 (by omega) (by omega) hQ).mono ?_; rintro e w4 ⟨v4, rfl, hr4, hbl4⟩; have hbl4' := hbl3'.trans hbl4; have hs4 := hbl4'.size; obtain ⟨hk4, hb4⟩ := hkeep _ hbl4'; have c40 := (cell_of_row _ _ 0 _ _ _ hb4).trans rfl; have c41 := (cell_of_row _ _ 1 _ _ _ hb4).trans rfl))
  have c44 := (cell_of_row _ _ 4 _ _ _ hb4).trans rfl
  have hds : d.size < 65536 := by omega
  go_wp2_with fail
  go_region_held3 (fun w' : World => w'.cell? ⟨w.heap.size, 4, none⟩ = some (.string d)) (go_keep) (first
    | (go_at_call 82; refine (Put16_any _ _ _ (w.heap.size + 1) d.size _ hr4.drew (by show _ ≤ w4.heap.size; omega) (by omega) hds).mono ?_; rintro e w5 ⟨v5, rfl, hr5, hbl5⟩; have hbl5' := hbl4'.drew.trans hbl5; have hs5 := hbl5'.size; obtain ⟨hk5, hb5⟩ := hkeep _ hbl5'; have c54 := (cell_of_row _ _ 4 _ _ _ hb5).trans rfl)
    | (refine step_append_str _ rfl _ _ 42 9 rfl (w.heap.size + 1) 5 i5 Try.underlying42 Try.underlying9 hi5 hz50 hz51 hz52 _ _ _ rfl hr5 d rfl (by unfold maxLen; omega) (by omega) (by omega) ?_; intro v6 w6 hr6 hgrow6; have hbl6' := hbl5'.grown hgrow6 (by omega) (fun j e => (hr5.lt j e).1); have hs6 := hbl6'.size; obtain ⟨hk6, hb6⟩ := hkeep _ hbl6'; have c64 := (cell_of_row _ _ 4 _ _ _ hb6).trans rfl))
  have hz : ((108 - d.size : Nat) : Int) = 108 - (d.size : Int) := by omega
  have HZ := Lib.hid hz
  clear hz
  go_wp2_with (at_builtin; refine wpList_append_zeros8 _ rfl _ _ 42 3 rfl (w.heap.size + 1) 5 i5 Try.underlying42 Try.underlying3 hi5 hz50 hz51 hz52 _ _ _ rfl hr6 (108 - d.size) (congrArg (Value.int .i64) HZ.out.symm) (by omega) (by omega) ?_; intro v7 w7 hr7 hgrow7; have hbl7' := hbl6'.grown hgrow7 (by omega) (fun j e => (hr6.lt j e).1); have hs7 := hbl7'.size)
  have hhead : w7.ownsRow (w.heap.size + 1) 5 1 v7 124 (strCells (slotHead ⟨E, Q, f, l, d⟩)) := by
    have e1 : strCells (slotHead ⟨E, Q, f, l, d⟩) = strCells (oneB 83) ++ cells8 (beTo 1 F 1) ++ cells8 (beTo 4 E 4) ++ cells8 (beTo 8 Q 8) ++ cells8 (beTo 2 d.size 2) ++ strCells d ++ strCells (zerosB (108 - d.size)) := by
      unfold slotHead
      simp only [strCells_append, strCells_beB, hF, Int.toNat_natCast]
    have e2 : 1 + 1 + 4 + 8 + 2 + d.size + (108 - d.size) = 124 := by omega
    rw [e1, ← e2]
    exact hr7
  have hcrc := crcOf_lt (slotHead ⟨E, Q, f, l, d⟩)
  have hfin : strCells (slotB ⟨E, Q, f, l, d⟩) = strCells (slotHead ⟨E, Q, f, l, d⟩) ++ cells8 (beTo 4 (crcOf (slotHead ⟨E, Q, f, l, d⟩)) 4) := by
    unfold slotB
    simp only [strCells_append, strCells_beB]
  have HFIN := Lib.hid hfin
  clear hfin
  refine (sum_own hhead (by decide) (by decide)).mono ?_
  rintro e w8 ⟨rfl, hk8⟩
  have hr8 := hk8.owns hhead (by simp)
  have hbl8' := hbl7'.trans (hk8.below.mono (by omega))
  have hs8 := hbl8'.size
  generalize slotHead ⟨E, Q, f, l, d⟩ = hd at *
  go_wp2_with fail
  refine (Put32_any _ _ _ (w.heap.size + 1) (crcOf hd) _ hr8 (by omega) (by omega) hcrc).mono ?_
  rintro e w9 ⟨v9, rfl, hr9, hbl9⟩
  have hbl9' := hbl8'.trans hbl9
  have FIN := Lib.hid (And.intro (hkeep _ hbl9').1 (owns_base hr9 (Nat.le_succ _)))
  clear hr9 hbl9 hbl9'
  go_wp2
  go_ret2
  exact ⟨_, rfl, FIN.out.1, by rw [HFIN.out]; exact FIN.out.2⟩

/-- slot.Bytes of any slot. -/
theorem bytes_any (s : SlotV) (w : World) (hm : s.data.size ≤ 9223372036854775807) :
    Calls Try.prog 29 #[s.val] w fun e w' => ∃ v, e = .returned (.tuple #[v, .int .i64 (if okSlot s then 0 else 2)]) ∧ Keep [] w w' ∧ w'.ownsRow w.heap.size 5 1 v (if okSlot s then 128 else 0) (if okSlot s then strCells (slotB s) else []) := by
  obtain ⟨ep, sq, f, l, d⟩ := s
  cases h : okSlot ⟨ep, sq, f, l, d⟩ with
  | true =>
    obtain ⟨h1, h2, h3, h4, h5⟩ := of_decide_eq_true h
    obtain ⟨E, rfl⟩ := Int.eq_ofNat_of_zero_le h1
    obtain ⟨Q, rfl⟩ := Int.eq_ofNat_of_zero_le h3
    exact bytes_ok E Q f l d w h
  | false => exact (bytes_bad ep sq f l d w hm h).mono fun e w' ⟨he, hk⟩ => ⟨_, he, hk, World.ownsRow_nil _ _ _ _⟩
end Go.Proofs.Ytkhggpopohkjfaa
