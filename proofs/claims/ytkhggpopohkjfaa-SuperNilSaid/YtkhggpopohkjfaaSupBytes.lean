/- super.Bytes: a super's bytes. No condition. -/
import Derived.Test.YtkhggpopohkjfaaSup
import Derived.Test.YtkhggpopohkjfaaSlotB
import Derived.Test.YtkhggpopohkjfaaLives4
import Derived.Deep.DeepMust
namespace Go.Proofs.Ytkhggpopohkjfaa
open Go.RowKit Go.Proofs Go.Lib
set_option linter.unusedVariables false
set_option linter.unusedSimpArgs false

theorem supHead_size (s : SupV) : (supHead s).size = 44 := by
  simp only [supHead, ByteArray.size_append, beB_size]
  rfl
theorem supPut_size (s : SupV) : (supPut s).size = 48 := by
  simp only [supPut, ByteArray.size_append, beB_size, supHead_size]
theorem supB_size (s : SupV) : (supB s).size = 128 := by
  simp only [supB, ByteArray.size_append, supPut_size, zerosB_size]

theorem supbytes_bad (s : SupV) (w : World) (h : okSup s = false) :
    Calls Try.prog 61 #[s.val] w fun e w' => e = .returned (.tuple #[.slice none 0 0, .int .i64 2]) ∧ Keep [] w w' := by
  have hc := supcheck_any s (w.alloc s.obj)
  rw [h] at hc
  have HC := Lib.hid hc
  have hk : Keep [] w ((w.alloc s.obj).alloc s.obj) := ((Keep.refl _ _).alloc _).alloc _
  have HK := Lib.hid hk
  clear hc hk h
  obtain ⟨g, r, st, ep, la, ma⟩ := s
  unfold SupV.val SupV.obj at *
  dsimp only at *
  go_enter Try.func61, Try.ntmps61
  go_wp2_with fail
  refine HC.out.mono ?_
  rintro e w1 ⟨rfl, rfl⟩
  go_wp2
  go_ret2
  exact ⟨rfl, HK.out⟩

set_option maxRecDepth 100000 in
set_option maxHeartbeats 4000000 in
theorem supbytes_ok (G R S E L M : Nat) (w : World) (h : okSup ⟨G, (R : Int) - 1, S, E, L, M⟩ = true) :
    Calls Try.prog 61 #[.agg #[.int .i64 G, .int .i64 ((R : Int) - 1), .int .i64 S, .int .i64 E, .int .i64 L, .int .i64 M]] w fun e w' => ∃ v, e = .returned (.tuple #[v, .int .i64 0]) ∧ Keep [] w w' ∧ w'.ownsRow w.heap.size 5 1 v 128 (strCells (supB ⟨G, (R : Int) - 1, S, E, L, M⟩)) := by
  obtain ⟨i5, hi5, hz50, hz51, hz52⟩ := info_parts info5
  obtain ⟨⟨_, h1⟩, ⟨_, h2⟩, ⟨_, h3⟩, ⟨_, h4⟩, ⟨_, h5⟩, ⟨_, h6⟩⟩ := (okSup_iff _).1 h
  dsimp only at h1 h2 h3 h4 h5 h6
  have hG : G < 9223372036854775808 := by omega
  have hR : R < 4294967296 := by omega
  have hS : S < 9223372036854775808 := by omega
  have hE : E < 4294967296 := by omega
  have hL : L < 9223372036854775808 := by omega
  have hM : M < 9223372036854775808 := by omega
  have hR2 : (R : Int) ≤ 16384 := by omega
  have hc := supcheck_any ⟨G, (R : Int) - 1, S, E, L, M⟩ (w.alloc (SupV.obj ⟨G, (R : Int) - 1, S, E, L, M⟩))
  rw [h] at hc
  unfold SupV.val SupV.obj at hc
  dsimp only at hc
  have HC := Lib.hid hc
  have kc := conv_const
  clear h1 h2 h3 h4 h5 h6 hc h
  go_enter Try.func61, Try.ntmps61
  go_wp2_with fail
  refine HC.out.mono ?_
  rintro e w1 ⟨rfl, rfl⟩
  obtain ⟨W0, hW0⟩ : ∃ W0, W0 = w.alloc (.cells #[.int .i64 G, .int .i64 ((R : Int) - 1), .int .i64 S, .int .i64 E, .int .i64 L, .int .i64 M] 100) := ⟨_, rfl⟩
  obtain ⟨W, hW⟩ : ∃ W, W = W0.alloc (.cells #[.int .i64 G, .int .i64 ((R : Int) - 1), .int .i64 S, .int .i64 E, .int .i64 L, .int .i64 M] 100) := ⟨_, rfl⟩
  have hW0s : W0.heap.size = w.heap.size + 1 := by rw [hW0]; simp
  have hWs : W.heap.size = w.heap.size + 1 + 1 := by rw [hW]; simp [hW0s]
  have hbl0 : Below (w.heap.size + 1) W0 W := by rw [hW]; exact (Below.refl _ _).alloc (by omega) _
  have hb0 : W0.heap[w.heap.size]? = some (.cells #[.int .i64 G, .int .i64 ((R : Int) - 1), .int .i64 S, .int .i64 E, .int .i64 L, .int .i64 M] 100) := by rw [hW0]; exact heap_alloc_new w _
  have hkeep : ∀ wx : World, Below (w.heap.size + 1) W0 wx → Keep [] w wx ∧ wx.heap[w.heap.size]? = some (.cells #[.int .i64 G, .int .i64 ((R : Int) - 1), .int .i64 S, .int .i64 E, .int .i64 L, .int .i64 M] 100) := fun wx hx =>
    ⟨Keep.of_below (((Below.refl _ w).alloc (Nat.le_refl _) _).trans (hW0 ▸ hx.mono (by omega))), (hx.block _ (by omega)).trans hb0⟩
  have cells : ∀ wx : World, Below (w.heap.size + 1) W0 wx → wx.cell? ⟨w.heap.size, 0, none⟩ = some (.int .i64 G) ∧ wx.cell? ⟨w.heap.size, 1, none⟩ = some (.int .i64 ((R : Int) - 1)) ∧ wx.cell? ⟨w.heap.size, 2, none⟩ = some (.int .i64 S) ∧ wx.cell? ⟨w.heap.size, 3, none⟩ = some (.int .i64 E) ∧ wx.cell? ⟨w.heap.size, 4, none⟩ = some (.int .i64 L) ∧ wx.cell? ⟨w.heap.size, 5, none⟩ = some (.int .i64 M) := fun wx hx =>
    have hb := (hkeep wx hx).2
    ⟨(cell_of_row _ _ 0 _ _ _ hb).trans rfl, (cell_of_row _ _ 1 _ _ _ hb).trans rfl, (cell_of_row _ _ 2 _ _ _ hb).trans rfl, (cell_of_row _ _ 3 _ _ _ hb).trans rfl, (cell_of_row _ _ 4 _ _ _ hb).trans rfl, (cell_of_row _ _ 5 _ _ _ hb).trans rfl⟩
  have hf0 : FullRow (W.alloc (.cells #[.int .u8 65, .int .u8 77, .int .u8 66, .int .u8 82] 5 (4, 5))) (w.heap.size + 1) (.slice (some ⟨W.heap.size, 0, none⟩) 4 4) 4 (strCells markB) := by
    refine ⟨rfl, W.heap.size, rfl, by omega, fun j u hu => ?_⟩
    rw [cell_of_row _ _ j _ _ _ (heap_alloc_new W _)]
    have hj : j < 4 := (List.getElem?_eq_some_iff.1 hu).1
    match j, hj with
    | 0, _ => exact hu
    | 1, _ => exact hu
    | 2, _ => exact hu
    | 3, _ => exact hu
  have hblW : Below (w.heap.size + 1) W0 (W.alloc (.cells #[.int .u8 65, .int .u8 77, .int .u8 66, .int .u8 82] 5 (4, 5))) := hbl0.alloc (by omega) _
  have hbW : W.heap[w.heap.size]? = some (.cells #[.int .i64 G, .int .i64 ((R : Int) - 1), .int .i64 S, .int .i64 E, .int .i64 L, .int .i64 M] 100) := (hkeep _ hbl0).2
  have d0 := (cells _ hblW).1
  have HF := Lib.hid (And.intro hf0 (And.intro hblW (And.intro hWs (And.intro hW0s (And.intro hkeep cells)))))
  rw [← hW0, ← hW]
  have kc := conv_const W
  clear HC hf0 hblW hbW hWs hW0s hkeep cells hb0 hbl0 hW hW0
  go_wp2_with fail
  refine (Put64_full _ _ _ (w.heap.size + 1) G _ HF.out.1 (by have := HF.out.2.2.1; simp; omega) (by omega) hG).mono ?_
  rintro e w2 ⟨v2, rfl, hr2, hbl2⟩
  obtain ⟨_, hblW, hWs, hW0s, hkeep, cells⟩ := HF.out
  have hbl2' := hblW.trans hbl2
  have hs2 := hbl2'.size
  obtain ⟨_, c21, c22, _, _, _⟩ := cells _ hbl2'
  have hw1 : wrap64 ((R : Int) - 1 + 1) = (R : Int) := by unfold wrap64; omega
  have hw2 : IntKind.i64.wrap ((R : Int) - 1 + 1) = (R : Int) := by rw [IntWalk.i64_left]; exact hw1
  have hw3 : wrap64 (R : Int) = (R : Int) := by unfold wrap64; omega
  have hw4 : IntKind.i64.wrap (R : Int) = (R : Int) := by rw [IntWalk.i64_left]; exact hw3
  clear kc
  go_wp2_with fail
  go_region_held3 (fun w' : World => w'.cell? ⟨w.heap.size, 1, none⟩ = some (.int .i64 ((R : Int) - 1)) ∧ w'.cell? ⟨w.heap.size, 2, none⟩ = some (.int .i64 S)) (go_keep) (first
    | (go_at_call 81; refine (Put32_any _ _ _ (w.heap.size + 1) R _ hr2.drew (by show _ ≤ w2.heap.size; omega) (by omega) hR).mono ?_; rintro e w3 ⟨v3, rfl, hr3, hbl3⟩; have hbl3' := hbl2'.drew.trans hbl3; have hs3 := hbl3'.size; obtain ⟨_, c31, c32, _, _, _⟩ := cells _ hbl3')
    | (go_at_call 80; refine (Put64_any _ _ _ (w.heap.size + 1) S _ hr3 (by omega) (by omega) hS).mono ?_; rintro e w4 ⟨v4, rfl, hr4, hbl4⟩; have hbl4' := hbl3'.trans hbl4; have hs4 := hbl4'.size; obtain ⟨_, _, _, c43, c44, c45⟩ := cells _ hbl4'))
  go_wp2_with fail
  go_region_held3 (fun w' : World => w'.cell? ⟨w.heap.size, 3, none⟩ = some (.int .i64 E) ∧ w'.cell? ⟨w.heap.size, 4, none⟩ = some (.int .i64 L) ∧ w'.cell? ⟨w.heap.size, 5, none⟩ = some (.int .i64 M)) (go_keep) (first
    | (go_at_call 81; refine (Put32_any _ _ _ (w.heap.size + 1) E _ hr4.drew (by show _ ≤ w4.heap.size; omega) (by omega) hE).mono ?_; rintro e w5 ⟨v5, rfl, hr5, hbl5⟩; have hbl5' := hbl4'.drew.trans hbl5; have hs5 := hbl5'.size; obtain ⟨_, _, _, _, c54, c55⟩ := cells _ hbl5')
    | (go_at_call 80; refine (Put64_any _ _ _ (w.heap.size + 1) M _ hr6 (by omega) (by omega) hM).mono ?_; rintro e w7 ⟨v7, rfl, hr7, hbl7⟩; have hbl7' := hbl6'.trans hbl7; have hs7 := hbl7'.size)
    | (go_at_call 80; refine (Put64_any _ _ _ (w.heap.size + 1) L _ hr5 (by omega) (by omega) hL).mono ?_; rintro e w6 ⟨v6, rfl, hr6, hbl6⟩; have hbl6' := hbl5'.trans hbl6; have hs6 := hbl6'.size; obtain ⟨_, _, _, _, _, c65⟩ := cells _ hbl6'))
  have hhead : w7.ownsRow (w.heap.size + 1) 5 1 v7 44 (strCells (supHead ⟨G, (R : Int) - 1, S, E, L, M⟩)) := by
    have e1 : strCells (supHead ⟨G, (R : Int) - 1, S, E, L, M⟩) = strCells markB ++ cells8 (beTo 8 G 8) ++ cells8 (beTo 4 R 4) ++ cells8 (beTo 8 S 8) ++ cells8 (beTo 4 E 4) ++ cells8 (beTo 8 L 8) ++ cells8 (beTo 8 M 8) := by
      unfold supHead
      have hR1 : ((R : Int) - 1 + 1).toNat = R := by rw [Int.sub_add_cancel]; rfl
      simp only [strCells_append, strCells_beB, Int.toNat_natCast, hR1]
    have e2 : 4 + 8 + 4 + 8 + 4 + 8 + 8 = 44 := rfl
    rw [e1, ← e2]
    exact hr7
  have hcrc := crcOf_lt (supHead ⟨G, (R : Int) - 1, S, E, L, M⟩)
  have hfin : strCells (supB ⟨G, (R : Int) - 1, S, E, L, M⟩) = strCells (supHead ⟨G, (R : Int) - 1, S, E, L, M⟩) ++ cells8 (beTo 4 (crcOf (supHead ⟨G, (R : Int) - 1, S, E, L, M⟩)) 4) ++ strCells (zerosB 80) := by
    unfold supB supPut
    simp only [strCells_append, strCells_beB]
  have HFIN := Lib.hid hfin
  clear hfin
  go_wp2_with fail
  refine (sum_own hhead (by decide) (by decide)).mono ?_
  rintro e w8 ⟨rfl, hk8⟩
  have hr8 := hk8.owns hhead (by simp)
  have hbl8' := hbl7'.trans (hk8.below.mono (by omega))
  have hs8 := hbl8'.size
  generalize supHead ⟨G, (R : Int) - 1, S, E, L, M⟩ = hd at *
  go_wp2_with fail
  refine (Put32_any _ _ _ (w.heap.size + 1) (crcOf hd) _ hr8 (by omega) (by omega) hcrc).mono ?_
  rintro e w9 ⟨v9, rfl, hr9, hbl9⟩
  have hbl9' := hbl8'.trans hbl9
  have hs9 := hbl9'.size
  obtain ⟨A9, c9, rfl⟩ := own_form hr9
  have e48 : 44 + 4 = 48 := rfl
  rw [e48] at hr9
  have HR9 := Lib.hid (And.intro hr9 (And.intro hbl9' hs9))
  clear hr9 hbl9 hbl9' hs9
  clear hr2 hr3 hr4 hr5 hr6 hr7 hr8 hhead hbl2 hbl3 hbl4 hbl5 hbl6 hbl7 hk8 hbl2' hbl3' hbl4' hbl5' hbl6' hbl7' hbl8' hs2 hs3 hs4 hs5 hs6 hs7 hs8
  go_wp2_with (at_builtin; go_must (refine wpList_append_zeros8 _ rfl _ _ 42 3 rfl (w.heap.size + 1) 5 i5 Try.underlying42 Try.underlying3 hi5 hz50 hz51 hz52 _ _ _ rfl HR9.out.1 80 rfl (by decide) (by have := HR9.out.2.2; omega) ?_); intro v10 w10 hr10 hgrow10)
  have hbl10 := HR9.out.2.1.grown hgrow10 (by have := HR9.out.2.2; omega) (fun j e => (HR9.out.1.lt j e).1)
  have FIN := Lib.hid (And.intro (hkeep _ hbl10).1 (owns_base hr10 (Nat.le_succ _)))
  clear hr10 hbl10 hgrow10
  go_ret2
  exact ⟨_, rfl, FIN.out.1, by rw [HFIN.out]; exact FIN.out.2⟩

/-- super.Bytes of any super. -/
theorem supbytes_any (s : SupV) (w : World) :
    Calls Try.prog 61 #[s.val] w fun e w' => ∃ v, e = .returned (.tuple #[v, .int .i64 (if okSup s then 0 else 2)]) ∧ Keep [] w w' ∧ w'.ownsRow w.heap.size 5 1 v (if okSup s then 128 else 0) (if okSup s then strCells (supB s) else []) := by
  cases h : okSup s with
  | true =>
    obtain ⟨g, r, st, ep, la, ma⟩ := s
    have h' := (okSup_iff _).1 h
    dsimp only at h'
    obtain ⟨G, rfl⟩ := Int.eq_ofNat_of_zero_le h'.1.1
    obtain ⟨S, rfl⟩ := Int.eq_ofNat_of_zero_le h'.2.1.1
    obtain ⟨R, hR⟩ := Int.eq_ofNat_of_zero_le (show 0 ≤ r + 1 by omega)
    obtain rfl : r = (R : Int) - 1 := by omega
    obtain ⟨E, rfl⟩ := Int.eq_ofNat_of_zero_le h'.2.2.2.1.1
    obtain ⟨L, rfl⟩ := Int.eq_ofNat_of_zero_le h'.2.2.2.2.1.1
    obtain ⟨M, rfl⟩ := Int.eq_ofNat_of_zero_le h'.2.2.2.2.2.1
    exact supbytes_ok G R S E L M w h
  | false => exact (supbytes_bad s w h).mono fun e w' ⟨he, hk⟩ => ⟨_, he, hk, World.ownsRow_nil _ _ _ _⟩
end Go.Proofs.Ytkhggpopohkjfaa
