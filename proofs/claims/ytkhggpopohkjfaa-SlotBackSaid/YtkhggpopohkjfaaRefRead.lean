/- The reference's Read of a slot. Premise: the string's size fits memory. -/
import Derived.Test.YtkhggpopohkjfaaRefPut
import Derived.Test.YtkhggpopohkjfaaReadAid
import Derived.Test.YtkhggpopohkjfaaRead
import Derived.Test.YtkhggpopohkjfaaRelZ
namespace Go.Proofs.Ytkhggpopohkjfaa
open Go.RowKit Go.Proofs Go.Lib
set_option linter.unusedVariables false
set_option linter.unusedSimpArgs false

/-- What the reference says. -/
def rrOk (s : ByteArray) : Bool := decide (s.size = 128) && decide (numAt s 14 2 ≤ 108) && okSlot (decS s) && decide (slotB (decS s) = s)
def rrS (s : ByteArray) : SlotV := if rrOk s then decS s else zero0
def rrE (s : ByteArray) : Int := if rrOk s then 0 else 4

set_option maxRecDepth 100000 in
theorem refread_short (s : ByteArray) (w : World) (h : s.size ≠ 128) :
    Calls Try.prog 60 #[.string s] w fun e w' => e = .returned (.tuple #[zero0.val, .int .i64 4]) ∧ Keep [] w w' := by
  have h2 : ¬ ((s.size : Int) = 128) := by omega
  unfold zero0 SlotV.val
  go_enter Try.func60, Try.ntmps60
  go_wp2
  refine bodyPost_ret (v := .tuple #[.agg #[.int .i64 0, .int .i64 0, .bool false, .bool false, .string ByteArray.empty], .int .i64 4]) ?_ rfl ⟨rfl, (Keep.refl _ _).alloc _⟩
  rw [results_cell_tmp rfl]
  go_simp
  rfl

set_option maxRecDepth 100000 in
theorem refread_big (s : ByteArray) (w : World) (hn : s.size = 128) (h : ¬ numAt s 14 2 ≤ 108) :
    Calls Try.prog 60 #[.string s] w fun e w' => e = .returned (.tuple #[zero0.val, .int .i64 4]) ∧ Keep [] w w' := by
  have hnum : ∀ w : World, Calls Try.prog 112 #[.string s, .int .i64 14, .int .i64 2] w fun e w' => e = .returned (.int .i64 (numAt s 14 2 : Nat)) ∧ w = w' := fun w =>
    (number_same s 14 2 w (by decide) (by omega) (by omega)).mono fun e w' ⟨he, hw⟩ => ⟨by rw [he, IntWalk.wrap64_in _ (by have := numAt_lt s 14 2 (by omega); unfold numAt at this; omega)]; rfl, hw⟩
  have hlt := numAt_lt s 14 2 (by omega)
  generalize numAt s 14 2 = N at *
  have h1 : ¬ ((N : Int) ≤ 108) := by omega
  have HN := Lib.hid hnum
  clear hnum
  unfold zero0 SlotV.val
  go_enter Try.func60, Try.ntmps60
  go_wp2_with fail
  refine (HN.out _).mono ?_
  rintro e W ⟨rfl, rfl⟩
  go_wp2
  refine bodyPost_ret (v := .tuple #[.agg #[.int .i64 0, .int .i64 0, .bool false, .bool false, .string ByteArray.empty], .int .i64 4]) ?_ rfl ⟨rfl, (Keep.refl _ _).alloc _⟩
  rw [results_cell_tmp rfl]
  go_simp
  rfl

theorem rread_end {w wx : World} {tm : Array Value} {sv : SlotV} {x : Int} {R : Ending → World → Prop} (h0 : tm.getD 2 undef = .pointer (some ⟨w.heap.size, 0, none⟩)) (h1 : tm.getD 3 undef = .int .i64 x)
    (hb : wx.heap[w.heap.size]? = some (bx41 sv)) (hR : R (.returned (.tuple #[sv.val, .int .i64 x])) wx) : bodyPost Try.prog Try.f60 R .ret ⟨tm, []⟩ wx := by
  refine bodyPost_ret (v := .tuple #[sv.val, .int .i64 x]) ?_ rfl hR
  rw [results_cell_tmp rfl]
  have hl := run_loadVar_row (P := Try.prog) wx w.heap.size 41 41 _ (0, 0) _ hb Try.underlying41 rfl size41
  show ((asAddr (tm.getD 2 undef)).run Try.prog wx).andThen _ = _
  rw [h0, h1]
  simp only [asAddr, Sem.run_pure, Result.andThen_ok, hl]
  rfl
theorem rreadBad {s : ByteArray} {x : Value} (h : rrOk s = false) (hx : x = .tuple #[zero0.val, .int .i64 4]) : x = .tuple #[(rrS s).val, .int .i64 (rrE s)] := by
  rw [hx]
  simp [rrS, rrE, h]
theorem lists_ne {a b : ByteArray} (h : a ≠ b) : (a.toList == b.toList) = false := by
  rw [beq_eq_false_iff_ne]
  intro e
  rw [ByteArray.toList_eq, ByteArray.toList_eq] at e
  exact h (ByteArray.ext (Array.ext' e))

theorem byteT1 (b : Nat) : Value.int .u8 ((b : Int).tmod 2) = .int .u8 ((b : Int) % 2) := by rw [Int.tmod_eq_emod_of_nonneg (by omega)]
theorem byteT2 (b : Nat) : Value.int .u8 (((b : Int) / 2).tmod 2) = .int .u8 ((b : Int) / 2 % 2) := by rw [Int.tmod_eq_emod_of_nonneg (by omega)]
theorem byteT3 (b : Nat) (h : b < 256) : Value.int .u8 (IntKind.u8.wrap ((b : Int) / 2)) = .int .u8 ((b : Int) / 2) := by rw [IntWalk.u8_in _ (by omega)]
theorem byteT4 (b : Nat) : Value.bool ((b : Int) % 2 == 1) = .bool (decide (b % 2 = 1)) := by congr 1; rw [Bool.eq_iff_iff]; simp; omega
theorem byteT5 (b : Nat) : Value.bool ((b : Int) / 2 % 2 == 1) = .bool (decide (b / 2 % 2 = 1)) := by congr 1; rw [Bool.eq_iff_iff]; simp; omega

set_option maxRecDepth 100000 in
set_option maxHeartbeats 4000000 in
theorem refread_rest (s : ByteArray) (w : World) (hn : s.size = 128) (hN : numAt s 14 2 ≤ 108) :
    Calls Try.prog 60 #[.string s] w fun e w' => e = .returned (.tuple #[(rrS s).val, .int .i64 (rrE s)]) ∧ Keep [] w w' := by
  have hnum : ∀ w : World, Calls Try.prog 112 #[.string s, .int .i64 14, .int .i64 2] w fun e w' => e = .returned (.int .i64 (numAt s 14 2 : Nat)) ∧ w = w' := fun w =>
    (number_same s 14 2 w (by decide) (by omega) (by omega)).mono fun e w' ⟨he, hw⟩ => ⟨by rw [he, IntWalk.wrap64_in _ (by have := numAt_lt s 14 2 (by omega); unfold numAt at this; omega)]; rfl, hw⟩
  have hnu4 : ∀ w : World, Calls Try.prog 112 #[.string s, .int .i64 2, .int .i64 4] w fun e w' => e = .returned (.int .i64 (numAt s 2 4 : Nat)) ∧ w = w' := fun w =>
    (number_same s 2 4 w (by decide) (by omega) (by omega)).mono fun e w' ⟨he, hw⟩ => ⟨by rw [he, IntWalk.wrap64_in _ (by have := numAt_lt s 2 4 (by omega); unfold numAt at this; omega)]; rfl, hw⟩
  have hnu8 : ∀ w : World, Calls Try.prog 112 #[.string s, .int .i64 6, .int .i64 8] w fun e w' => e = .returned (.int .i64 (wrap64 (numAt s 6 8 : Nat))) ∧ w = w' := fun w => number_same s 6 8 w (by decide) (by omega) (by omega)
  have HA := Lib.hid hnum
  have HB := Lib.hid hnu4
  have HC := Lib.hid hnu8
  clear hnum hnu4 hnu8
  obtain ⟨N, hNN⟩ : ∃ N, numAt s 14 2 = N := ⟨_, rfl⟩
  obtain ⟨E, hEE⟩ : ∃ E, numAt s 2 4 = E := ⟨_, rfl⟩
  obtain ⟨Q, hQQ⟩ : ∃ Q, wrap64 (numAt s 6 8 : Nat) = Q := ⟨_, rfl⟩
  have h1 := numAt_one s 1 (by omega)
  rw [hNN] at HA hN
  rw [hEE] at HB
  rw [hQQ] at HC
  go_enter Try.func60, Try.ntmps60
  go_wp2_with fail
  refine (HA.out _).mono ?_
  rintro e W ⟨rfl, rfl⟩
  go_wp2_with fail
  have hwA : IntKind.i64.wrap (16 + (N : Int)) = 16 + (N : Int) := by rw [IntWalk.i64_left]; exact IntWalk.wrap64_in _ (by omega)
  have hwB : (16 : Int) ≤ 16 + (N : Int) := by omega
  have hwC : 16 + (N : Int) ≤ 128 := by omega
  have hwD : (16 + (N : Int)).toNat = 16 + N := by omega
  have hwE : (0 : Int) ≤ 16 + (N : Int) := by omega
  obtain ⟨b, hb⟩ : ∃ b, (s[1]'(by omega)).toNat = b := ⟨_, rfl⟩
  have hb2 : b < 256 := by have := (s[1]'(by omega)).toNat_lt; omega
  have hs1 : 1 < s.size := by omega
  generalize hW : w.alloc _ = W
  refine wp_region_relz (by simp only [List.dropLast]; rfl) (by simp only [List.getLast?_cons_cons, List.getLast?_singleton]; rfl) (by kernel_rfl) (by kernel_rfl) (fun w' => Keep [] W w') (fun a b => Keep [] a b) (relR
      [some (.string s), some (.int .i64 E), some (.string s), some (.int .i64 Q), some (.string s), some (.int .u8 b), some (.int .u8 (b % 2 : Nat)), some (.bool (decide (b % 2 = 1))),
       some (.string s), some (.int .u8 b), some (.int .u8 (b / 2 : Nat)), some (.int .u8 (b / 2 % 2 : Nat)), some (.bool (decide (b / 2 % 2 = 1))), some (.string s), some (.int .i64 N), some (.int .i64 (16 + N)), some (.string (s.extract 16 (16 + N))),
       some (.agg #[.int .i64 E, .int .i64 Q, .bool (decide (b % 2 = 1)), .bool (decide (b / 2 % 2 = 1)), .string (s.extract 16 (16 + N))])]
      (fun _ v w' => ∃ g, v = .pointer (some ⟨g, 0, none⟩) ∧ W.heap.size ≤ g ∧ w'.heap[g]? = some (bx41 zero0))) (relR_keep fun _ _ _ _ hk ⟨g, h1, h2, h3⟩ => ⟨g, h1, h2, hk.heap h3 (by simp)⟩) (Keep.refl _ _).drew ?_ ?_
  · repeat (refine relSteps_cons (fun a w' hC hout hf K Q' hK => ?_) ?_; rotate_left)
    · exact trivial
    all_goals
      have h0 : a.tmps.getD 0 undef = .string s := hout 0 (by kernel_rfl)
      have h4 : a.tmps.getD 4 undef = .int .i64 N := hout 4 (by kernel_rfl)
      clear hout
      simp [relFacts, relR, Region.binds, Act.put, -Int.reduceNeg] at hf hK h0 h4
      try go_split_ands
      go_simp
    all_goals first
      | ((with_reducible refine (HB.out _).mono ?_); rintro e w2 ⟨rfl, rfl⟩; exact hK _ _ rfl hC (Keep.refl _ _))
      | ((with_reducible refine (HC.out _).mono ?_); rintro e w2 ⟨rfl, rfl⟩; exact hK _ _ rfl hC (Keep.refl _ _))
      | ((with_reducible refine hK _ _ ?_ hC (Keep.refl _ _)); first | with_reducible rfl | exact byteT1 b | exact byteT2 b | exact byteT3 b hb2 | exact byteT4 b | exact byteT5 b)
      | exact hK _ _ _ rfl hC.size (heap_alloc_new _ _) (hC.alloc _) ((Keep.refl _ _).alloc _)
  · intro tm wx hC hsz hout hall K hK
    have t0 : tm.getD 0 undef = .string s := hout 0 (by kernel_rfl)
    have t2 : tm.getD 2 undef = .pointer (some ⟨w.heap.size, 0, none⟩) := hout 2 (by kernel_rfl)
    have t3 : tm.getD 3 undef = .int .i64 0 := hout 3 (by kernel_rfl)
    simp only [relAll, relR] at hall
    have t32 : tm.getD 32 undef = .agg #[.int .i64 E, .int .i64 Q, .bool (decide (b % 2 = 1)), .bool (decide (b / 2 % 2 = 1)), .string (s.extract 16 (16 + N))] := hall.2.2.2.2.2.2.2.2.2.2.2.2.2.2.2.2.2.1
    obtain ⟨g, t5, hg1, hg2⟩ := hall.2.2.2.2.2.2.2.2.2.2.2.2.2.2.2.2.2.2.1
    clear hall hout
    have ht := tmps_out tm 44 hsz
    rw [show List.range 44 = [0, 1, 2, 3, 4, 5, 6, 7, 8, 9, 10, 11, 12, 13, 14, 15, 16, 17, 18, 19, 20, 21, 22, 23, 24, 25, 26, 27, 28, 29, 30, 31, 32, 33, 34, 35, 36, 37, 38, 39, 40, 41, 42, 43] from rfl] at ht
    simp only [List.map, t0, t2, t3, t5, t32] at ht
    rw [ht]
    clear ht t0 t2 t3 t5 t32
    have hdec : decS s = ⟨E, Q, decide (b % 2 = 1), decide (b / 2 % 2 = 1), s.extract 16 (16 + N)⟩ := by
      unfold decS
      rw [hNN, hEE, hQQ, h1, hb]
    have hds : (s.extract 16 (16 + N)).size = N := by simp [hn]; omega
    have HDEC := Lib.hid (And.intro hdec hNN)
    have hB : W.heap[w.heap.size]? = some (bx41 zero0) := by rw [← hW]; exact heap_alloc_new w _
    have hKw : Keep [] w W := by rw [← hW]; exact (Keep.refl _ _).alloc _
    have hBx := hC.heap hB (by simp)
    have hgB : w.heap.size < g := by have := heap_lt hB; omega
    have hKx : Keep [] w wx := hKw.trans hC
    clear hdec hNN hEE hQQ h1 hb hB hKw hW hs1 hb2 hC HA HB HC
    generalize decide (b % 2 = 1) = B1 at *
    generalize decide (b / 2 % 2 = 1) = B2 at *
    generalize s.extract 16 (16 + N) = D at *
    have g0 := (cell_of_row _ _ 0 _ _ _ hg2).trans rfl
    have g1 := (cell_of_row _ _ 1 _ _ _ hg2).trans rfl
    have g2 := (cell_of_row _ _ 2 _ _ _ hg2).trans rfl
    have g3 := (cell_of_row _ _ 3 _ _ _ hg2).trans rfl
    have g4 := (cell_of_row _ _ 4 _ _ _ hg2).trans rfl
    have f0 := frozen_of_row wx g 0 _ _ hg2
    have f1 := frozen_of_row wx g 1 _ _ hg2
    have f2 := frozen_of_row wx g 2 _ _ hg2
    have f3 := frozen_of_row wx g 3 _ _ hg2
    have f4 := frozen_of_row wx g 4 _ _ hg2
    go_simp
    refine hK _ _ ?_
    have hS := heap_set5 hg2 (.int .i64 E) (.int .i64 Q) (.bool B1) (.bool B2) (.string D)
    have hkS : Keep [g] wx (set5 wx g (.int .i64 E) (.int .i64 Q) (.bool B1) (.bool B2) (.string D)) := (Keep.refl _ _).set5 (.inl (by simp)) _ _ _ _ _
    have hBy := hkS.heap hBx (by simp; omega)
    have hKy : Keep [] w (set5 wx g (.int .i64 E) (.int .i64 Q) (.bool B1) (.bool B2) (.string D)) := hKx.trans' hkS (fun i hi => by simp at hi; subst hi; right; omega)
    unfold set5 at hS hBy hKy
    clear hkS g0 g1 g2 g3 g4 f0 f1 f2 f3 f4 hg2 hBx hKx
    generalize ((((wx.setCell _ _).setCell _ _).setCell _ _).setCell _ _).setCell _ _ = wy at *
    have g0 := (cell_of_row _ _ 0 _ _ _ hS).trans rfl
    have g1 := (cell_of_row _ _ 1 _ _ _ hS).trans rfl
    have g2 := (cell_of_row _ _ 2 _ _ _ hS).trans rfl
    have g3 := (cell_of_row _ _ 3 _ _ _ hS).trans rfl
    have g4 := (cell_of_row _ _ 4 _ _ _ hS).trans rfl
    have hdm : D.size ≤ 9223372036854775807 := by omega
    cases hok : okSlot ⟨E, Q, B1, B2, D⟩ with
    | false =>
      have HOK := Lib.hid hok
      have hbad : rrOk s = false := by simp [rrOk, HDEC.out.1, hok]
      have HBAD := Lib.hid hbad
      clear hok hbad HDEC
      go_wp2_with fail
      refine (right_bad E Q B1 B2 D _ hdm HOK.out).mono ?_
      rintro e wz ⟨rfl, hwz⟩
      have hBz := (hwz ▸ (Keep.refl [] wy).alloc _ : Keep [] wy wz).heap hBy (by simp)
      have hKz := hKy.trans (hwz ▸ (Keep.refl [] wy).alloc _ : Keep [] wy wz)
      clear hwz g0 g1 g2 g3 g4 hBy hKy hS
      have c80 := (cell_of_row _ _ 0 _ _ _ hBz).trans rfl
      have c81 := (cell_of_row _ _ 1 _ _ _ hBz).trans rfl
      have c82 := (cell_of_row _ _ 2 _ _ _ hBz).trans rfl
      have c83 := (cell_of_row _ _ 3 _ _ _ hBz).trans rfl
      have c84 := (cell_of_row _ _ 4 _ _ _ hBz).trans rfl
      have f80 := frozen_of_row wz w.heap.size 0 _ _ hBz
      have f81 := frozen_of_row wz w.heap.size 1 _ _ hBz
      have f82 := frozen_of_row wz w.heap.size 2 _ _ hBz
      have f83 := frozen_of_row wz w.heap.size 3 _ _ hBz
      have f84 := frozen_of_row wz w.heap.size 4 _ _ hBz
      go_wp2
      exact rread_end (sv := zero0) rfl rfl (heap_set5 hBz (.int .i64 0) (.int .i64 0) (.bool false) (.bool false) (.string ByteArray.empty)) ⟨congrArg Ending.returned (rreadBad HBAD.out rfl), hKz.set5 (.inr (Nat.le_refl _)) (.int .i64 0) (.int .i64 0) (.bool false) (.bool false) (.string ByteArray.empty)⟩
    | true =>
      obtain ⟨Q', rfl⟩ := Int.eq_ofNat_of_zero_le (show 0 ≤ Q from (of_decide_eq_true hok).2.2.1)
      have HOK := Lib.hid hok
      go_wp2_with fail
      refine (right_ok E Q' B1 B2 D _ HOK.out).mono ?_
      rintro e wz ⟨rfl, hwz⟩
      have hkz : Keep [] wy wz := hwz ▸ (Keep.refl [] wy).alloc _
      have hBz := hkz.heap hBy (by simp)
      have hSz := hkz.heap hS (by simp)
      have hKz := hKy.trans hkz
      clear hwz g0 g1 g2 g3 g4 hBy hKy hS hkz
      have g0 := (cell_of_row _ _ 0 _ _ _ hSz).trans rfl
      have g1 := (cell_of_row _ _ 1 _ _ _ hSz).trans rfl
      have g2 := (cell_of_row _ _ 2 _ _ _ hSz).trans rfl
      have g3 := (cell_of_row _ _ 3 _ _ _ hSz).trans rfl
      have g4 := (cell_of_row _ _ 4 _ _ _ hSz).trans rfl
      go_wp2_with fail
      refine (refput_any E Q' B1 B2 D _ HOK.out).mono ?_
      rintro e wv ⟨rfl, hkv⟩
      have hBv := hkv.heap hBz (by simp)
      have hSv := hkv.heap hSz (by simp)
      have hKv := hKz.trans hkv
      clear g0 g1 g2 g3 g4 hBz hKz hSz hkv
      have g0 := (cell_of_row _ _ 0 _ _ _ hSv).trans rfl
      have g1 := (cell_of_row _ _ 1 _ _ _ hSv).trans rfl
      have g2 := (cell_of_row _ _ 2 _ _ _ hSv).trans rfl
      have g3 := (cell_of_row _ _ 3 _ _ _ hSv).trans rfl
      have g4 := (cell_of_row _ _ 4 _ _ _ hSv).trans rfl
      have c80 := (cell_of_row _ _ 0 _ _ _ hBv).trans rfl
      have c81 := (cell_of_row _ _ 1 _ _ _ hBv).trans rfl
      have c82 := (cell_of_row _ _ 2 _ _ _ hBv).trans rfl
      have c83 := (cell_of_row _ _ 3 _ _ _ hBv).trans rfl
      have c84 := (cell_of_row _ _ 4 _ _ _ hBv).trans rfl
      have f80 := frozen_of_row wv w.heap.size 0 _ _ hBv
      have f81 := frozen_of_row wv w.heap.size 1 _ _ hBv
      have f82 := frozen_of_row wv w.heap.size 2 _ _ hBv
      have f83 := frozen_of_row wv w.heap.size 3 _ _ hBv
      have f84 := frozen_of_row wv w.heap.size 4 _ _ hBv
      obtain ⟨B, hB⟩ : ∃ B, slotB ⟨E, Q', B1, B2, D⟩ = B := ⟨_, rfl⟩
      rw [hB]
      by_cases hBs : B = s
      · have hgood : rrOk s = true := by simp [rrOk, HDEC.out.1, HDEC.out.2, hok, hn, hN, hB, hBs]
        have HG := Lib.hid hgood
        subst hBs
        have hne : (B.toList == B.toList) = true := beq_self_eq_true _
        clear hgood hok hB
        go_wp2
        exact rread_end (sv := ⟨E, Q', B1, B2, D⟩) rfl rfl (heap_set5 hBv (.int .i64 E) (.int .i64 Q') (.bool B1) (.bool B2) (.string D)) ⟨by simp only [rrS, rrE, HG.out, if_true, HDEC.out.1], hKv.set5 (.inr (Nat.le_refl _)) (.int .i64 E) (.int .i64 Q') (.bool B1) (.bool B2) (.string D)⟩
      · have hbad : rrOk s = false := by simp [rrOk, HDEC.out.1, hok, hB, hBs]
        have HBAD := Lib.hid hbad
        have hne := lists_ne hBs
        clear hbad hok hB g0 g1 g2 g3 g4 hSv
        go_wp2
        exact rread_end (sv := zero0) rfl rfl (heap_set5 hBv (.int .i64 0) (.int .i64 0) (.bool false) (.bool false) (.string ByteArray.empty)) ⟨congrArg Ending.returned (rreadBad HBAD.out rfl), hKv.set5 (.inr (Nat.le_refl _)) (.int .i64 0) (.int .i64 0) (.bool false) (.bool false) (.string ByteArray.empty)⟩


theorem refread_any (s : ByteArray) (w : World) :
    Calls Try.prog 60 #[.string s] w fun e w' => e = .returned (.tuple #[(rrS s).val, .int .i64 (rrE s)]) ∧ Keep [] w w' := by
  by_cases h : s.size = 128
  · by_cases hN : numAt s 14 2 ≤ 108
    · exact refread_rest s w h hN
    · have hb : rrOk s = false := by simp [rrOk, hN]
      have := refread_big s w h hN
      rwa [show zero0 = rrS s by simp [rrS, hb], show (4 : Int) = rrE s by simp [rrE, hb]] at this
  · have hb : rrOk s = false := by simp [rrOk, h]
    have := refread_short s w h
    rwa [show zero0 = rrS s by simp [rrS, hb], show (4 : Int) = rrE s by simp [rrE, hb]] at this
end Go.Proofs.Ytkhggpopohkjfaa
