/- The reference's Right, put, Bytes, Check of a slot. Premise: a string's size fits memory. -/
import Derived.Test.YtkhggpopohkjfaaField
import Derived.Test.YtkhggpopohkjfaaRefSum
import Derived.Test.YtkhggpopohkjfaaCheck
import Derived.Test.YtkhggpopohkjfaaRel
import Derived.Deep.RegionHeld3
namespace Go.Proofs.Ytkhggpopohkjfaa
open Go.RowKit Go.Proofs Go.Lib
set_option linter.unusedSimpArgs false

theorem right_ok (ep sq : Int) (f l : Bool) (d : ByteArray) (w : World) (h : okSlot ⟨ep, sq, f, l, d⟩ = true) :
    Calls Try.prog 84 #[.agg #[.int .i64 ep, .int .i64 sq, .bool f, .bool l, .string d]] w fun e w' => e = .returned (.bool true) ∧ w.alloc (.cells #[.int .i64 ep, .int .i64 sq, .bool f, .bool l, .string d] 41) = w' := by
  obtain ⟨h1, h2, h3, h4, h5⟩ := of_decide_eq_true h
  dsimp only at h1 h2 h3 h4 h5
  have h6 : (d.size : Int) ≤ 108 := by omega
  clear h h5
  go_enter Try.func84, Try.ntmps84
  go_wp2
  go_ret
  exact ⟨rfl, rfl⟩

theorem right_bad (ep sq : Int) (f l : Bool) (d : ByteArray) (w : World) (hm : d.size ≤ 9223372036854775807) (h : okSlot ⟨ep, sq, f, l, d⟩ = false) :
    Calls Try.prog 84 #[.agg #[.int .i64 ep, .int .i64 sq, .bool f, .bool l, .string d]] w fun e w' => e = .returned (.bool false) ∧ w.alloc (.cells #[.int .i64 ep, .int .i64 sq, .bool f, .bool l, .string d] 41) = w' := by
  have h0 := of_decide_eq_false h
  dsimp only at h0
  have a1 : ep < 0 ∨ 0 ≤ ep := by omega
  have a2 : 2147483647 < ep ∨ ep ≤ 2147483647 := by omega
  have a3 : sq < 0 ∨ 0 ≤ sq := by omega
  have a4 : 1152921504606846976 < sq ∨ sq ≤ 1152921504606846976 := by omega
  rcases a1 with a1 | a1
  · clear h h0 a2 a3 a4
    go_enter Try.func84, Try.ntmps84
    go_wp2
    go_ret
    exact ⟨rfl, rfl⟩
  rcases a2 with a2 | a2
  · clear h h0 a3 a4
    go_enter Try.func84, Try.ntmps84
    go_wp2
    go_ret
    exact ⟨rfl, rfl⟩
  rcases a3 with a3 | a3
  · clear h h0 a4
    go_enter Try.func84, Try.ntmps84
    go_wp2
    go_ret
    exact ⟨rfl, rfl⟩
  rcases a4 with a4 | a4
  · clear h h0
    go_enter Try.func84, Try.ntmps84
    go_wp2
    go_ret
    exact ⟨rfl, rfl⟩
  have a5 : 108 < (d.size : Int) := by omega
  have hdd : decide ((d.size : Int) ≤ 108) = false := decide_eq_false (by omega)
  clear h h0
  go_enter Try.func84, Try.ntmps84
  go_wp2
  go_ret
  exact ⟨by simp [hdd], rfl⟩

set_option maxRecDepth 100000 in
set_option maxHeartbeats 4000000 in
theorem refput_any (E Q : Nat) (f l : Bool) (d : ByteArray) (w : World) (h : okSlot ⟨E, Q, f, l, d⟩ = true) :
    Calls Try.prog 85 #[.agg #[.int .i64 E, .int .i64 Q, .bool f, .bool l, .string d]] w fun e w' => e = .returned (.string (slotB ⟨E, Q, f, l, d⟩)) ∧ Keep [] w w' := by
  obtain ⟨h1, h2, h3, h4, h5⟩ := of_decide_eq_true h
  dsimp only at h1 h2 h3 h4 h5
  have hE : E < 4294967296 := by omega
  have hQ : Q < 9223372036854775808 := by omega
  clear h h1 h2 h3 h4
  obtain ⟨W, hW⟩ : ∃ W, W = w.alloc (.cells #[.int .i64 E, .int .i64 Q, .bool f, .bool l, .string d] 41) := ⟨_, rfl⟩
  have hb0 : W.heap[w.heap.size]? = some (.cells #[.int .i64 E, .int .i64 Q, .bool f, .bool l, .string d] 41) := by rw [hW]; exact heap_alloc_new w _
  have hk0 : Keep [] w W := by rw [hW]; exact (Keep.refl _ _).alloc _
  have hz : ((108 - d.size : Nat) : Int) = 108 - (d.size : Int) := by omega
  have HZ := Lib.hid hz
  clear hz
  have c00 := (cell_of_row _ _ 0 _ _ _ hb0).trans rfl
  have c01 := (cell_of_row _ _ 1 _ _ _ hb0).trans rfl
  have c04 := (cell_of_row _ _ 4 _ _ _ hb0).trans rfl
  go_enter Try.func85, Try.ntmps85
  cases f <;> cases l
  case true.true =>
    go_wp2_with fail
    rw [← hW]
    clear hW
    refine wp_region_rel (by kernel_rfl) (by kernel_rfl) (fun w' => Keep [] W w') (fun a b => Keep [] a b) (relR
      [some (.int .i64 3), some (.string (beB 1 3)), some (.string (oneB 83 ++ beB 1 3)),
       some (.pointer (some ⟨w.heap.size, 0, none⟩)), some (.int .i64 E), some (.string (beB 4 E)), some (.string (oneB 83 ++ beB 1 3 ++ beB 4 E)),
       some (.pointer (some ⟨w.heap.size, 1, none⟩)), some (.int .i64 Q), some (.string (beB 8 Q)), some (.string (oneB 83 ++ beB 1 3 ++ beB 4 E ++ beB 8 Q)),
       some (.pointer (some ⟨w.heap.size, 4, none⟩)), some (.string d), some (.int .i64 d.size), some (.string (beB 2 d.size)), some (.string (oneB 83 ++ beB 1 3 ++ beB 4 E ++ beB 8 Q ++ beB 2 d.size)),
       some (.pointer (some ⟨w.heap.size, 4, none⟩)), some (.string d), some (.string (oneB 83 ++ beB 1 3 ++ beB 4 E ++ beB 8 Q ++ beB 2 d.size ++ d)),
       some (.pointer (some ⟨w.heap.size, 4, none⟩)), some (.string d), some (.int .i64 d.size), some (.int .i64 (108 - d.size : Nat)),
       none, some (.string (zerosB (108 - d.size))), some (.string (oneB 83 ++ beB 1 3 ++ beB 4 E ++ beB 8 Q ++ beB 2 d.size ++ d ++ zerosB (108 - d.size))),
       some (.string (oneB 83 ++ beB 1 3 ++ beB 4 E ++ beB 8 Q ++ beB 2 d.size ++ d ++ zerosB (108 - d.size)))]
      (fun _ v w' => w'.ownsRow 0 5 1 v (108 - d.size) (strCells (zerosB (108 - d.size))))) (relR_keep fun _ _ _ _ hk ho => hk.owns ho (by simp)) (Keep.refl _ _).drew ?_ ?_
    · repeat (refine relSteps_cons (fun a w' hC hout hf K Q' hK => ?_) ?_; rotate_left)
      · exact trivial
      · have h1 : a.tmps.getD 1 undef = .pointer (some ⟨w.heap.size, 0, none⟩) := hout 1 (by kernel_rfl)
        have h3 : a.tmps.getD 3 undef = .int .i64 3 := hout 3 (by kernel_rfl)
        clear hout
        have c0 := hC.cell c00 (by simp)
        have c1 := hC.cell c01 (by simp)
        have c4 := hC.cell c04 (by simp)
        simp [relFacts, relR, Region.binds, -Int.reduceNeg] at hf hK h1 h3
        try go_split_ands
        go_simp
        exact hK _ _ rfl hC (Keep.refl _ _)
      · have h1 : a.tmps.getD 1 undef = .pointer (some ⟨w.heap.size, 0, none⟩) := hout 1 (by kernel_rfl)
        have h3 : a.tmps.getD 3 undef = .int .i64 3 := hout 3 (by kernel_rfl)
        clear hout
        have c0 := hC.cell c00 (by simp)
        have c1 := hC.cell c01 (by simp)
        have c4 := hC.cell c04 (by simp)
        simp [relFacts, relR, Region.binds, -Int.reduceNeg] at hf hK h1 h3
        try go_split_ands
        go_simp
        refine (field1_any 3 _ (by decide)).mono ?_
        rintro e w1 ⟨rfl, hk⟩
        exact hK _ _ rfl (hC.trans hk) hk
      · have h1 : a.tmps.getD 1 undef = .pointer (some ⟨w.heap.size, 0, none⟩) := hout 1 (by kernel_rfl)
        have h3 : a.tmps.getD 3 undef = .int .i64 3 := hout 3 (by kernel_rfl)
        clear hout
        have c0 := hC.cell c00 (by simp)
        have c1 := hC.cell c01 (by simp)
        have c4 := hC.cell c04 (by simp)
        simp [relFacts, relR, Region.binds, -Int.reduceNeg] at hf hK h1 h3
        try go_split_ands
        go_simp
        exact hK _ _ rfl hC (Keep.refl _ _)
      · have h1 : a.tmps.getD 1 undef = .pointer (some ⟨w.heap.size, 0, none⟩) := hout 1 (by kernel_rfl)
        have h3 : a.tmps.getD 3 undef = .int .i64 3 := hout 3 (by kernel_rfl)
        clear hout
        have c0 := hC.cell c00 (by simp)
        have c1 := hC.cell c01 (by simp)
        have c4 := hC.cell c04 (by simp)
        simp [relFacts, relR, Region.binds, -Int.reduceNeg] at hf hK h1 h3
        try go_split_ands
        go_simp
        exact hK _ _ rfl hC (Keep.refl _ _)
      · have h1 : a.tmps.getD 1 undef = .pointer (some ⟨w.heap.size, 0, none⟩) := hout 1 (by kernel_rfl)
        have h3 : a.tmps.getD 3 undef = .int .i64 3 := hout 3 (by kernel_rfl)
        clear hout
        have c0 := hC.cell c00 (by simp)
        have c1 := hC.cell c01 (by simp)
        have c4 := hC.cell c04 (by simp)
        simp [relFacts, relR, Region.binds, -Int.reduceNeg] at hf hK h1 h3
        try go_split_ands
        go_simp
        exact hK _ _ rfl hC (Keep.refl _ _)
      · have h1 : a.tmps.getD 1 undef = .pointer (some ⟨w.heap.size, 0, none⟩) := hout 1 (by kernel_rfl)
        have h3 : a.tmps.getD 3 undef = .int .i64 3 := hout 3 (by kernel_rfl)
        clear hout
        have c0 := hC.cell c00 (by simp)
        have c1 := hC.cell c01 (by simp)
        have c4 := hC.cell c04 (by simp)
        simp [relFacts, relR, Region.binds, -Int.reduceNeg] at hf hK h1 h3
        try go_split_ands
        go_simp
        refine (field4_any E _ hE).mono ?_
        rintro e w1 ⟨rfl, hk⟩
        exact hK _ _ rfl (hC.trans hk) hk
      · have h1 : a.tmps.getD 1 undef = .pointer (some ⟨w.heap.size, 0, none⟩) := hout 1 (by kernel_rfl)
        have h3 : a.tmps.getD 3 undef = .int .i64 3 := hout 3 (by kernel_rfl)
        clear hout
        have c0 := hC.cell c00 (by simp)
        have c1 := hC.cell c01 (by simp)
        have c4 := hC.cell c04 (by simp)
        simp [relFacts, relR, Region.binds, -Int.reduceNeg] at hf hK h1 h3
        try go_split_ands
        go_simp
        exact hK _ _ rfl hC (Keep.refl _ _)
      · have h1 : a.tmps.getD 1 undef = .pointer (some ⟨w.heap.size, 0, none⟩) := hout 1 (by kernel_rfl)
        have h3 : a.tmps.getD 3 undef = .int .i64 3 := hout 3 (by kernel_rfl)
        clear hout
        have c0 := hC.cell c00 (by simp)
        have c1 := hC.cell c01 (by simp)
        have c4 := hC.cell c04 (by simp)
        simp [relFacts, relR, Region.binds, -Int.reduceNeg] at hf hK h1 h3
        try go_split_ands
        go_simp
        exact hK _ _ rfl hC (Keep.refl _ _)
      · have h1 : a.tmps.getD 1 undef = .pointer (some ⟨w.heap.size, 0, none⟩) := hout 1 (by kernel_rfl)
        have h3 : a.tmps.getD 3 undef = .int .i64 3 := hout 3 (by kernel_rfl)
        clear hout
        have c0 := hC.cell c00 (by simp)
        have c1 := hC.cell c01 (by simp)
        have c4 := hC.cell c04 (by simp)
        simp [relFacts, relR, Region.binds, -Int.reduceNeg] at hf hK h1 h3
        try go_split_ands
        go_simp
        exact hK _ _ rfl hC (Keep.refl _ _)
      · have h1 : a.tmps.getD 1 undef = .pointer (some ⟨w.heap.size, 0, none⟩) := hout 1 (by kernel_rfl)
        have h3 : a.tmps.getD 3 undef = .int .i64 3 := hout 3 (by kernel_rfl)
        clear hout
        have c0 := hC.cell c00 (by simp)
        have c1 := hC.cell c01 (by simp)
        have c4 := hC.cell c04 (by simp)
        simp [relFacts, relR, Region.binds, -Int.reduceNeg] at hf hK h1 h3
        try go_split_ands
        go_simp
        refine (field8_any Q _ hQ).mono ?_
        rintro e w1 ⟨rfl, hk⟩
        exact hK _ _ rfl (hC.trans hk) hk
      · have h1 : a.tmps.getD 1 undef = .pointer (some ⟨w.heap.size, 0, none⟩) := hout 1 (by kernel_rfl)
        have h3 : a.tmps.getD 3 undef = .int .i64 3 := hout 3 (by kernel_rfl)
        clear hout
        have c0 := hC.cell c00 (by simp)
        have c1 := hC.cell c01 (by simp)
        have c4 := hC.cell c04 (by simp)
        simp [relFacts, relR, Region.binds, -Int.reduceNeg] at hf hK h1 h3
        try go_split_ands
        go_simp
        exact hK _ _ rfl hC (Keep.refl _ _)
      · have h1 : a.tmps.getD 1 undef = .pointer (some ⟨w.heap.size, 0, none⟩) := hout 1 (by kernel_rfl)
        have h3 : a.tmps.getD 3 undef = .int .i64 3 := hout 3 (by kernel_rfl)
        clear hout
        have c0 := hC.cell c00 (by simp)
        have c1 := hC.cell c01 (by simp)
        have c4 := hC.cell c04 (by simp)
        simp [relFacts, relR, Region.binds, -Int.reduceNeg] at hf hK h1 h3
        try go_split_ands
        go_simp
        exact hK _ _ rfl hC (Keep.refl _ _)
      · have h1 : a.tmps.getD 1 undef = .pointer (some ⟨w.heap.size, 0, none⟩) := hout 1 (by kernel_rfl)
        have h3 : a.tmps.getD 3 undef = .int .i64 3 := hout 3 (by kernel_rfl)
        clear hout
        have c0 := hC.cell c00 (by simp)
        have c1 := hC.cell c01 (by simp)
        have c4 := hC.cell c04 (by simp)
        simp [relFacts, relR, Region.binds, -Int.reduceNeg] at hf hK h1 h3
        try go_split_ands
        go_simp
        exact hK _ _ rfl hC (Keep.refl _ _)
      · have h1 : a.tmps.getD 1 undef = .pointer (some ⟨w.heap.size, 0, none⟩) := hout 1 (by kernel_rfl)
        have h3 : a.tmps.getD 3 undef = .int .i64 3 := hout 3 (by kernel_rfl)
        clear hout
        have c0 := hC.cell c00 (by simp)
        have c1 := hC.cell c01 (by simp)
        have c4 := hC.cell c04 (by simp)
        simp [relFacts, relR, Region.binds, -Int.reduceNeg] at hf hK h1 h3
        try go_split_ands
        go_simp
        exact hK _ _ rfl hC (Keep.refl _ _)
      · have h1 : a.tmps.getD 1 undef = .pointer (some ⟨w.heap.size, 0, none⟩) := hout 1 (by kernel_rfl)
        have h3 : a.tmps.getD 3 undef = .int .i64 3 := hout 3 (by kernel_rfl)
        clear hout
        have c0 := hC.cell c00 (by simp)
        have c1 := hC.cell c01 (by simp)
        have c4 := hC.cell c04 (by simp)
        simp [relFacts, relR, Region.binds, -Int.reduceNeg] at hf hK h1 h3
        try go_split_ands
        go_simp
        refine (field2_any d.size _ (by omega)).mono ?_
        rintro e w1 ⟨rfl, hk⟩
        exact hK _ _ rfl (hC.trans hk) hk
      · have h1 : a.tmps.getD 1 undef = .pointer (some ⟨w.heap.size, 0, none⟩) := hout 1 (by kernel_rfl)
        have h3 : a.tmps.getD 3 undef = .int .i64 3 := hout 3 (by kernel_rfl)
        clear hout
        have c0 := hC.cell c00 (by simp)
        have c1 := hC.cell c01 (by simp)
        have c4 := hC.cell c04 (by simp)
        simp [relFacts, relR, Region.binds, -Int.reduceNeg] at hf hK h1 h3
        try go_split_ands
        go_simp
        exact hK _ _ rfl hC (Keep.refl _ _)
      · have h1 : a.tmps.getD 1 undef = .pointer (some ⟨w.heap.size, 0, none⟩) := hout 1 (by kernel_rfl)
        have h3 : a.tmps.getD 3 undef = .int .i64 3 := hout 3 (by kernel_rfl)
        clear hout
        have c0 := hC.cell c00 (by simp)
        have c1 := hC.cell c01 (by simp)
        have c4 := hC.cell c04 (by simp)
        simp [relFacts, relR, Region.binds, -Int.reduceNeg] at hf hK h1 h3
        try go_split_ands
        go_simp
        exact hK _ _ rfl hC (Keep.refl _ _)
      · have h1 : a.tmps.getD 1 undef = .pointer (some ⟨w.heap.size, 0, none⟩) := hout 1 (by kernel_rfl)
        have h3 : a.tmps.getD 3 undef = .int .i64 3 := hout 3 (by kernel_rfl)
        clear hout
        have c0 := hC.cell c00 (by simp)
        have c1 := hC.cell c01 (by simp)
        have c4 := hC.cell c04 (by simp)
        simp [relFacts, relR, Region.binds, -Int.reduceNeg] at hf hK h1 h3
        try go_split_ands
        go_simp
        exact hK _ _ rfl hC (Keep.refl _ _)
      · have h1 : a.tmps.getD 1 undef = .pointer (some ⟨w.heap.size, 0, none⟩) := hout 1 (by kernel_rfl)
        have h3 : a.tmps.getD 3 undef = .int .i64 3 := hout 3 (by kernel_rfl)
        clear hout
        have c0 := hC.cell c00 (by simp)
        have c1 := hC.cell c01 (by simp)
        have c4 := hC.cell c04 (by simp)
        simp [relFacts, relR, Region.binds, -Int.reduceNeg] at hf hK h1 h3
        try go_split_ands
        go_simp
        rw [if_neg (by simp only [beB_size, zerosB_size, show (oneB 83).size = 1 from rfl]; omega)]
        exact hK _ _ rfl hC (Keep.refl _ _)
      · have h1 : a.tmps.getD 1 undef = .pointer (some ⟨w.heap.size, 0, none⟩) := hout 1 (by kernel_rfl)
        have h3 : a.tmps.getD 3 undef = .int .i64 3 := hout 3 (by kernel_rfl)
        clear hout
        have c0 := hC.cell c00 (by simp)
        have c1 := hC.cell c01 (by simp)
        have c4 := hC.cell c04 (by simp)
        simp [relFacts, relR, Region.binds, -Int.reduceNeg] at hf hK h1 h3
        try go_split_ands
        go_simp
        exact hK _ _ rfl hC (Keep.refl _ _)
      · have h1 : a.tmps.getD 1 undef = .pointer (some ⟨w.heap.size, 0, none⟩) := hout 1 (by kernel_rfl)
        have h3 : a.tmps.getD 3 undef = .int .i64 3 := hout 3 (by kernel_rfl)
        clear hout
        have c0 := hC.cell c00 (by simp)
        have c1 := hC.cell c01 (by simp)
        have c4 := hC.cell c04 (by simp)
        simp [relFacts, relR, Region.binds, -Int.reduceNeg] at hf hK h1 h3
        try go_split_ands
        go_simp
        exact hK _ _ rfl hC (Keep.refl _ _)
      · have h1 : a.tmps.getD 1 undef = .pointer (some ⟨w.heap.size, 0, none⟩) := hout 1 (by kernel_rfl)
        have h3 : a.tmps.getD 3 undef = .int .i64 3 := hout 3 (by kernel_rfl)
        clear hout
        have c0 := hC.cell c00 (by simp)
        have c1 := hC.cell c01 (by simp)
        have c4 := hC.cell c04 (by simp)
        simp [relFacts, relR, Region.binds, -Int.reduceNeg] at hf hK h1 h3
        try go_split_ands
        go_simp
        exact hK _ _ rfl hC (Keep.refl _ _)
      · have h1 : a.tmps.getD 1 undef = .pointer (some ⟨w.heap.size, 0, none⟩) := hout 1 (by kernel_rfl)
        have h3 : a.tmps.getD 3 undef = .int .i64 3 := hout 3 (by kernel_rfl)
        clear hout
        have c0 := hC.cell c00 (by simp)
        have c1 := hC.cell c01 (by simp)
        have c4 := hC.cell c04 (by simp)
        simp [relFacts, relR, Region.binds, -Int.reduceNeg] at hf hK h1 h3
        try go_split_ands
        have hw : IntKind.i64.wrap (108 - (d.size : Int)) = ((108 - d.size : Nat) : Int) := by rw [HZ.out, IntWalk.i64_left]; exact IntWalk.wrap64_in _ (by omega)
        go_simp
        exact hK _ _ rfl hC (Keep.refl _ _)
      · have h1 : a.tmps.getD 1 undef = .pointer (some ⟨w.heap.size, 0, none⟩) := hout 1 (by kernel_rfl)
        have h3 : a.tmps.getD 3 undef = .int .i64 3 := hout 3 (by kernel_rfl)
        clear hout
        have c0 := hC.cell c00 (by simp)
        have c1 := hC.cell c01 (by simp)
        have c4 := hC.cell c04 (by simp)
        simp [relFacts, relR, Region.binds, -Int.reduceNeg] at hf hK h1 h3
        try go_split_ands
        go_simp
        rw [make8 w' (108 - d.size) (by omega)]
        exact hK _ _ (make8_own w' (108 - d.size) 0 (by unfold maxLen; omega) (Nat.zero_le _)) (hC.alloc _) ((Keep.refl _ _).alloc _)
      · have h1 : a.tmps.getD 1 undef = .pointer (some ⟨w.heap.size, 0, none⟩) := hout 1 (by kernel_rfl)
        have h3 : a.tmps.getD 3 undef = .int .i64 3 := hout 3 (by kernel_rfl)
        clear hout
        have c0 := hC.cell c00 (by simp)
        have c1 := hC.cell c01 (by simp)
        have c4 := hC.cell c04 (by simp)
        simp [relFacts, relR, Region.binds, -Int.reduceNeg] at hf hK h1 h3
        try go_split_ands
        go_simp
        rw [own_str hf]
        exact hK _ _ rfl hC (Keep.refl _ _)
      · have h1 : a.tmps.getD 1 undef = .pointer (some ⟨w.heap.size, 0, none⟩) := hout 1 (by kernel_rfl)
        have h3 : a.tmps.getD 3 undef = .int .i64 3 := hout 3 (by kernel_rfl)
        clear hout
        have c0 := hC.cell c00 (by simp)
        have c1 := hC.cell c01 (by simp)
        have c4 := hC.cell c04 (by simp)
        simp [relFacts, relR, Region.binds, -Int.reduceNeg] at hf hK h1 h3
        try go_split_ands
        go_simp
        rw [if_neg (by simp only [beB_size, zerosB_size, show (oneB 83).size = 1 from rfl]; omega)]
        exact hK _ _ rfl hC (Keep.refl _ _)
      · have h1 : a.tmps.getD 1 undef = .pointer (some ⟨w.heap.size, 0, none⟩) := hout 1 (by kernel_rfl)
        have h3 : a.tmps.getD 3 undef = .int .i64 3 := hout 3 (by kernel_rfl)
        clear hout
        have c0 := hC.cell c00 (by simp)
        have c1 := hC.cell c01 (by simp)
        have c4 := hC.cell c04 (by simp)
        simp [relFacts, relR, Region.binds, -Int.reduceNeg] at hf hK h1 h3
        try go_split_ands
        go_simp
        exact hK _ _ rfl hC (Keep.refl _ _)
    · intro tm wx hC hsz hout hall
      have h0 : tm.getD 1 undef = .pointer (some ⟨w.heap.size, 0, none⟩) := hout 1 (by kernel_rfl)
      have h2 : tm.getD 4 undef = .string (oneB 83 ++ beB 1 3 ++ beB 4 E ++ beB 8 Q ++ beB 2 d.size ++ d ++ zerosB (108 - d.size)) := by
        simp only [relAll, relR] at hall
        exact hall.2.2.2.2.2.2.2.2.2.2.2.2.2.2.2.2.2.2.2.2.2.2.2.2.2.2.1
      clear hall hout
      have ht := tmps_out tm 44 hsz
      rw [show List.range 44 = [0, 1, 2, 3, 4, 5, 6, 7, 8, 9, 10, 11, 12, 13, 14, 15, 16, 17, 18, 19, 20, 21, 22, 23, 24, 25, 26, 27, 28, 29, 30, 31, 32, 33, 34, 35, 36, 37, 38, 39, 40, 41, 42, 43] from rfl] at ht
      simp only [List.map, h0, h2] at ht
      rw [ht]
      have hhead : oneB 83 ++ beB 1 3 ++ beB 4 E ++ beB 8 Q ++ beB 2 d.size ++ d ++ zerosB (108 - d.size) = slotHead ⟨E, Q, true, true, d⟩ := rfl
      rw [hhead]
      have hsh := slotHead_size (s := ⟨E, Q, true, true, d⟩) h5
      clear ht h0 h2 hhead
      have hcrc := crcOf_lt (slotHead ⟨E, Q, true, true, d⟩)
      have hfin : slotB ⟨E, Q, true, true, d⟩ = slotHead ⟨E, Q, true, true, d⟩ ++ beB 4 (crcOf (slotHead ⟨E, Q, true, true, d⟩)) := rfl
      have HFIN := Lib.hid hfin
      clear hfin
      generalize slotHead ⟨E, Q, true, true, d⟩ = hd at *
      go_wp2_with fail
      refine (refsum_any hd wx (by omega)).mono ?_
      rintro e w1 ⟨rfl, hk1⟩
      go_wp2_with fail
      refine (field4_any (crcOf hd) _ hcrc).mono ?_
      rintro e w2 ⟨rfl, hk2⟩
      have FIN := Lib.hid (hk0.trans (hC.trans (hk1.trans hk2)))
      have hb4 := beB_size 4 (crcOf hd)
      clear hk1 hk2 hC
      go_wp2
      go_ret
      exact ⟨by rw [HFIN.out]; rfl, FIN.out⟩
  case true.false =>
    go_wp2_with fail
    rw [← hW]
    clear hW
    refine wp_region_rel (by kernel_rfl) (by kernel_rfl) (fun w' => Keep [] W w') (fun a b => Keep [] a b) (relR
      [some (.int .i64 1), some (.string (beB 1 1)), some (.string (oneB 83 ++ beB 1 1)),
       some (.pointer (some ⟨w.heap.size, 0, none⟩)), some (.int .i64 E), some (.string (beB 4 E)), some (.string (oneB 83 ++ beB 1 1 ++ beB 4 E)),
       some (.pointer (some ⟨w.heap.size, 1, none⟩)), some (.int .i64 Q), some (.string (beB 8 Q)), some (.string (oneB 83 ++ beB 1 1 ++ beB 4 E ++ beB 8 Q)),
       some (.pointer (some ⟨w.heap.size, 4, none⟩)), some (.string d), some (.int .i64 d.size), some (.string (beB 2 d.size)), some (.string (oneB 83 ++ beB 1 1 ++ beB 4 E ++ beB 8 Q ++ beB 2 d.size)),
       some (.pointer (some ⟨w.heap.size, 4, none⟩)), some (.string d), some (.string (oneB 83 ++ beB 1 1 ++ beB 4 E ++ beB 8 Q ++ beB 2 d.size ++ d)),
       some (.pointer (some ⟨w.heap.size, 4, none⟩)), some (.string d), some (.int .i64 d.size), some (.int .i64 (108 - d.size : Nat)),
       none, some (.string (zerosB (108 - d.size))), some (.string (oneB 83 ++ beB 1 1 ++ beB 4 E ++ beB 8 Q ++ beB 2 d.size ++ d ++ zerosB (108 - d.size))),
       some (.string (oneB 83 ++ beB 1 1 ++ beB 4 E ++ beB 8 Q ++ beB 2 d.size ++ d ++ zerosB (108 - d.size)))]
      (fun _ v w' => w'.ownsRow 0 5 1 v (108 - d.size) (strCells (zerosB (108 - d.size))))) (relR_keep fun _ _ _ _ hk ho => hk.owns ho (by simp)) (Keep.refl _ _).drew ?_ ?_
    · repeat (refine relSteps_cons (fun a w' hC hout hf K Q' hK => ?_) ?_; rotate_left)
      · exact trivial
      · have h1 : a.tmps.getD 1 undef = .pointer (some ⟨w.heap.size, 0, none⟩) := hout 1 (by kernel_rfl)
        have h3 : a.tmps.getD 3 undef = .int .i64 1 := hout 3 (by kernel_rfl)
        clear hout
        have c0 := hC.cell c00 (by simp)
        have c1 := hC.cell c01 (by simp)
        have c4 := hC.cell c04 (by simp)
        simp [relFacts, relR, Region.binds, -Int.reduceNeg] at hf hK h1 h3
        try go_split_ands
        go_simp
        exact hK _ _ rfl hC (Keep.refl _ _)
      · have h1 : a.tmps.getD 1 undef = .pointer (some ⟨w.heap.size, 0, none⟩) := hout 1 (by kernel_rfl)
        have h3 : a.tmps.getD 3 undef = .int .i64 1 := hout 3 (by kernel_rfl)
        clear hout
        have c0 := hC.cell c00 (by simp)
        have c1 := hC.cell c01 (by simp)
        have c4 := hC.cell c04 (by simp)
        simp [relFacts, relR, Region.binds, -Int.reduceNeg] at hf hK h1 h3
        try go_split_ands
        go_simp
        refine (field1_any 1 _ (by decide)).mono ?_
        rintro e w1 ⟨rfl, hk⟩
        exact hK _ _ rfl (hC.trans hk) hk
      · have h1 : a.tmps.getD 1 undef = .pointer (some ⟨w.heap.size, 0, none⟩) := hout 1 (by kernel_rfl)
        have h3 : a.tmps.getD 3 undef = .int .i64 1 := hout 3 (by kernel_rfl)
        clear hout
        have c0 := hC.cell c00 (by simp)
        have c1 := hC.cell c01 (by simp)
        have c4 := hC.cell c04 (by simp)
        simp [relFacts, relR, Region.binds, -Int.reduceNeg] at hf hK h1 h3
        try go_split_ands
        go_simp
        exact hK _ _ rfl hC (Keep.refl _ _)
      · have h1 : a.tmps.getD 1 undef = .pointer (some ⟨w.heap.size, 0, none⟩) := hout 1 (by kernel_rfl)
        have h3 : a.tmps.getD 3 undef = .int .i64 1 := hout 3 (by kernel_rfl)
        clear hout
        have c0 := hC.cell c00 (by simp)
        have c1 := hC.cell c01 (by simp)
        have c4 := hC.cell c04 (by simp)
        simp [relFacts, relR, Region.binds, -Int.reduceNeg] at hf hK h1 h3
        try go_split_ands
        go_simp
        exact hK _ _ rfl hC (Keep.refl _ _)
      · have h1 : a.tmps.getD 1 undef = .pointer (some ⟨w.heap.size, 0, none⟩) := hout 1 (by kernel_rfl)
        have h3 : a.tmps.getD 3 undef = .int .i64 1 := hout 3 (by kernel_rfl)
        clear hout
        have c0 := hC.cell c00 (by simp)
        have c1 := hC.cell c01 (by simp)
        have c4 := hC.cell c04 (by simp)
        simp [relFacts, relR, Region.binds, -Int.reduceNeg] at hf hK h1 h3
        try go_split_ands
        go_simp
        exact hK _ _ rfl hC (Keep.refl _ _)
      · have h1 : a.tmps.getD 1 undef = .pointer (some ⟨w.heap.size, 0, none⟩) := hout 1 (by kernel_rfl)
        have h3 : a.tmps.getD 3 undef = .int .i64 1 := hout 3 (by kernel_rfl)
        clear hout
        have c0 := hC.cell c00 (by simp)
        have c1 := hC.cell c01 (by simp)
        have c4 := hC.cell c04 (by simp)
        simp [relFacts, relR, Region.binds, -Int.reduceNeg] at hf hK h1 h3
        try go_split_ands
        go_simp
        refine (field4_any E _ hE).mono ?_
        rintro e w1 ⟨rfl, hk⟩
        exact hK _ _ rfl (hC.trans hk) hk
      · have h1 : a.tmps.getD 1 undef = .pointer (some ⟨w.heap.size, 0, none⟩) := hout 1 (by kernel_rfl)
        have h3 : a.tmps.getD 3 undef = .int .i64 1 := hout 3 (by kernel_rfl)
        clear hout
        have c0 := hC.cell c00 (by simp)
        have c1 := hC.cell c01 (by simp)
        have c4 := hC.cell c04 (by simp)
        simp [relFacts, relR, Region.binds, -Int.reduceNeg] at hf hK h1 h3
        try go_split_ands
        go_simp
        exact hK _ _ rfl hC (Keep.refl _ _)
      · have h1 : a.tmps.getD 1 undef = .pointer (some ⟨w.heap.size, 0, none⟩) := hout 1 (by kernel_rfl)
        have h3 : a.tmps.getD 3 undef = .int .i64 1 := hout 3 (by kernel_rfl)
        clear hout
        have c0 := hC.cell c00 (by simp)
        have c1 := hC.cell c01 (by simp)
        have c4 := hC.cell c04 (by simp)
        simp [relFacts, relR, Region.binds, -Int.reduceNeg] at hf hK h1 h3
        try go_split_ands
        go_simp
        exact hK _ _ rfl hC (Keep.refl _ _)
      · have h1 : a.tmps.getD 1 undef = .pointer (some ⟨w.heap.size, 0, none⟩) := hout 1 (by kernel_rfl)
        have h3 : a.tmps.getD 3 undef = .int .i64 1 := hout 3 (by kernel_rfl)
        clear hout
        have c0 := hC.cell c00 (by simp)
        have c1 := hC.cell c01 (by simp)
        have c4 := hC.cell c04 (by simp)
        simp [relFacts, relR, Region.binds, -Int.reduceNeg] at hf hK h1 h3
        try go_split_ands
        go_simp
        exact hK _ _ rfl hC (Keep.refl _ _)
      · have h1 : a.tmps.getD 1 undef = .pointer (some ⟨w.heap.size, 0, none⟩) := hout 1 (by kernel_rfl)
        have h3 : a.tmps.getD 3 undef = .int .i64 1 := hout 3 (by kernel_rfl)
        clear hout
        have c0 := hC.cell c00 (by simp)
        have c1 := hC.cell c01 (by simp)
        have c4 := hC.cell c04 (by simp)
        simp [relFacts, relR, Region.binds, -Int.reduceNeg] at hf hK h1 h3
        try go_split_ands
        go_simp
        refine (field8_any Q _ hQ).mono ?_
        rintro e w1 ⟨rfl, hk⟩
        exact hK _ _ rfl (hC.trans hk) hk
      · have h1 : a.tmps.getD 1 undef = .pointer (some ⟨w.heap.size, 0, none⟩) := hout 1 (by kernel_rfl)
        have h3 : a.tmps.getD 3 undef = .int .i64 1 := hout 3 (by kernel_rfl)
        clear hout
        have c0 := hC.cell c00 (by simp)
        have c1 := hC.cell c01 (by simp)
        have c4 := hC.cell c04 (by simp)
        simp [relFacts, relR, Region.binds, -Int.reduceNeg] at hf hK h1 h3
        try go_split_ands
        go_simp
        exact hK _ _ rfl hC (Keep.refl _ _)
      · have h1 : a.tmps.getD 1 undef = .pointer (some ⟨w.heap.size, 0, none⟩) := hout 1 (by kernel_rfl)
        have h3 : a.tmps.getD 3 undef = .int .i64 1 := hout 3 (by kernel_rfl)
        clear hout
        have c0 := hC.cell c00 (by simp)
        have c1 := hC.cell c01 (by simp)
        have c4 := hC.cell c04 (by simp)
        simp [relFacts, relR, Region.binds, -Int.reduceNeg] at hf hK h1 h3
        try go_split_ands
        go_simp
        exact hK _ _ rfl hC (Keep.refl _ _)
      · have h1 : a.tmps.getD 1 undef = .pointer (some ⟨w.heap.size, 0, none⟩) := hout 1 (by kernel_rfl)
        have h3 : a.tmps.getD 3 undef = .int .i64 1 := hout 3 (by kernel_rfl)
        clear hout
        have c0 := hC.cell c00 (by simp)
        have c1 := hC.cell c01 (by simp)
        have c4 := hC.cell c04 (by simp)
        simp [relFacts, relR, Region.binds, -Int.reduceNeg] at hf hK h1 h3
        try go_split_ands
        go_simp
        exact hK _ _ rfl hC (Keep.refl _ _)
      · have h1 : a.tmps.getD 1 undef = .pointer (some ⟨w.heap.size, 0, none⟩) := hout 1 (by kernel_rfl)
        have h3 : a.tmps.getD 3 undef = .int .i64 1 := hout 3 (by kernel_rfl)
        clear hout
        have c0 := hC.cell c00 (by simp)
        have c1 := hC.cell c01 (by simp)
        have c4 := hC.cell c04 (by simp)
        simp [relFacts, relR, Region.binds, -Int.reduceNeg] at hf hK h1 h3
        try go_split_ands
        go_simp
        exact hK _ _ rfl hC (Keep.refl _ _)
      · have h1 : a.tmps.getD 1 undef = .pointer (some ⟨w.heap.size, 0, none⟩) := hout 1 (by kernel_rfl)
        have h3 : a.tmps.getD 3 undef = .int .i64 1 := hout 3 (by kernel_rfl)
        clear hout
        have c0 := hC.cell c00 (by simp)
        have c1 := hC.cell c01 (by simp)
        have c4 := hC.cell c04 (by simp)
        simp [relFacts, relR, Region.binds, -Int.reduceNeg] at hf hK h1 h3
        try go_split_ands
        go_simp
        refine (field2_any d.size _ (by omega)).mono ?_
        rintro e w1 ⟨rfl, hk⟩
        exact hK _ _ rfl (hC.trans hk) hk
      · have h1 : a.tmps.getD 1 undef = .pointer (some ⟨w.heap.size, 0, none⟩) := hout 1 (by kernel_rfl)
        have h3 : a.tmps.getD 3 undef = .int .i64 1 := hout 3 (by kernel_rfl)
        clear hout
        have c0 := hC.cell c00 (by simp)
        have c1 := hC.cell c01 (by simp)
        have c4 := hC.cell c04 (by simp)
        simp [relFacts, relR, Region.binds, -Int.reduceNeg] at hf hK h1 h3
        try go_split_ands
        go_simp
        exact hK _ _ rfl hC (Keep.refl _ _)
      · have h1 : a.tmps.getD 1 undef = .pointer (some ⟨w.heap.size, 0, none⟩) := hout 1 (by kernel_rfl)
        have h3 : a.tmps.getD 3 undef = .int .i64 1 := hout 3 (by kernel_rfl)
        clear hout
        have c0 := hC.cell c00 (by simp)
        have c1 := hC.cell c01 (by simp)
        have c4 := hC.cell c04 (by simp)
        simp [relFacts, relR, Region.binds, -Int.reduceNeg] at hf hK h1 h3
        try go_split_ands
        go_simp
        exact hK _ _ rfl hC (Keep.refl _ _)
      · have h1 : a.tmps.getD 1 undef = .pointer (some ⟨w.heap.size, 0, none⟩) := hout 1 (by kernel_rfl)
        have h3 : a.tmps.getD 3 undef = .int .i64 1 := hout 3 (by kernel_rfl)
        clear hout
        have c0 := hC.cell c00 (by simp)
        have c1 := hC.cell c01 (by simp)
        have c4 := hC.cell c04 (by simp)
        simp [relFacts, relR, Region.binds, -Int.reduceNeg] at hf hK h1 h3
        try go_split_ands
        go_simp
        exact hK _ _ rfl hC (Keep.refl _ _)
      · have h1 : a.tmps.getD 1 undef = .pointer (some ⟨w.heap.size, 0, none⟩) := hout 1 (by kernel_rfl)
        have h3 : a.tmps.getD 3 undef = .int .i64 1 := hout 3 (by kernel_rfl)
        clear hout
        have c0 := hC.cell c00 (by simp)
        have c1 := hC.cell c01 (by simp)
        have c4 := hC.cell c04 (by simp)
        simp [relFacts, relR, Region.binds, -Int.reduceNeg] at hf hK h1 h3
        try go_split_ands
        go_simp
        rw [if_neg (by simp only [beB_size, zerosB_size, show (oneB 83).size = 1 from rfl]; omega)]
        exact hK _ _ rfl hC (Keep.refl _ _)
      · have h1 : a.tmps.getD 1 undef = .pointer (some ⟨w.heap.size, 0, none⟩) := hout 1 (by kernel_rfl)
        have h3 : a.tmps.getD 3 undef = .int .i64 1 := hout 3 (by kernel_rfl)
        clear hout
        have c0 := hC.cell c00 (by simp)
        have c1 := hC.cell c01 (by simp)
        have c4 := hC.cell c04 (by simp)
        simp [relFacts, relR, Region.binds, -Int.reduceNeg] at hf hK h1 h3
        try go_split_ands
        go_simp
        exact hK _ _ rfl hC (Keep.refl _ _)
      · have h1 : a.tmps.getD 1 undef = .pointer (some ⟨w.heap.size, 0, none⟩) := hout 1 (by kernel_rfl)
        have h3 : a.tmps.getD 3 undef = .int .i64 1 := hout 3 (by kernel_rfl)
        clear hout
        have c0 := hC.cell c00 (by simp)
        have c1 := hC.cell c01 (by simp)
        have c4 := hC.cell c04 (by simp)
        simp [relFacts, relR, Region.binds, -Int.reduceNeg] at hf hK h1 h3
        try go_split_ands
        go_simp
        exact hK _ _ rfl hC (Keep.refl _ _)
      · have h1 : a.tmps.getD 1 undef = .pointer (some ⟨w.heap.size, 0, none⟩) := hout 1 (by kernel_rfl)
        have h3 : a.tmps.getD 3 undef = .int .i64 1 := hout 3 (by kernel_rfl)
        clear hout
        have c0 := hC.cell c00 (by simp)
        have c1 := hC.cell c01 (by simp)
        have c4 := hC.cell c04 (by simp)
        simp [relFacts, relR, Region.binds, -Int.reduceNeg] at hf hK h1 h3
        try go_split_ands
        go_simp
        exact hK _ _ rfl hC (Keep.refl _ _)
      · have h1 : a.tmps.getD 1 undef = .pointer (some ⟨w.heap.size, 0, none⟩) := hout 1 (by kernel_rfl)
        have h3 : a.tmps.getD 3 undef = .int .i64 1 := hout 3 (by kernel_rfl)
        clear hout
        have c0 := hC.cell c00 (by simp)
        have c1 := hC.cell c01 (by simp)
        have c4 := hC.cell c04 (by simp)
        simp [relFacts, relR, Region.binds, -Int.reduceNeg] at hf hK h1 h3
        try go_split_ands
        have hw : IntKind.i64.wrap (108 - (d.size : Int)) = ((108 - d.size : Nat) : Int) := by rw [HZ.out, IntWalk.i64_left]; exact IntWalk.wrap64_in _ (by omega)
        go_simp
        exact hK _ _ rfl hC (Keep.refl _ _)
      · have h1 : a.tmps.getD 1 undef = .pointer (some ⟨w.heap.size, 0, none⟩) := hout 1 (by kernel_rfl)
        have h3 : a.tmps.getD 3 undef = .int .i64 1 := hout 3 (by kernel_rfl)
        clear hout
        have c0 := hC.cell c00 (by simp)
        have c1 := hC.cell c01 (by simp)
        have c4 := hC.cell c04 (by simp)
        simp [relFacts, relR, Region.binds, -Int.reduceNeg] at hf hK h1 h3
        try go_split_ands
        go_simp
        rw [make8 w' (108 - d.size) (by omega)]
        exact hK _ _ (make8_own w' (108 - d.size) 0 (by unfold maxLen; omega) (Nat.zero_le _)) (hC.alloc _) ((Keep.refl _ _).alloc _)
      · have h1 : a.tmps.getD 1 undef = .pointer (some ⟨w.heap.size, 0, none⟩) := hout 1 (by kernel_rfl)
        have h3 : a.tmps.getD 3 undef = .int .i64 1 := hout 3 (by kernel_rfl)
        clear hout
        have c0 := hC.cell c00 (by simp)
        have c1 := hC.cell c01 (by simp)
        have c4 := hC.cell c04 (by simp)
        simp [relFacts, relR, Region.binds, -Int.reduceNeg] at hf hK h1 h3
        try go_split_ands
        go_simp
        rw [own_str hf]
        exact hK _ _ rfl hC (Keep.refl _ _)
      · have h1 : a.tmps.getD 1 undef = .pointer (some ⟨w.heap.size, 0, none⟩) := hout 1 (by kernel_rfl)
        have h3 : a.tmps.getD 3 undef = .int .i64 1 := hout 3 (by kernel_rfl)
        clear hout
        have c0 := hC.cell c00 (by simp)
        have c1 := hC.cell c01 (by simp)
        have c4 := hC.cell c04 (by simp)
        simp [relFacts, relR, Region.binds, -Int.reduceNeg] at hf hK h1 h3
        try go_split_ands
        go_simp
        rw [if_neg (by simp only [beB_size, zerosB_size, show (oneB 83).size = 1 from rfl]; omega)]
        exact hK _ _ rfl hC (Keep.refl _ _)
      · have h1 : a.tmps.getD 1 undef = .pointer (some ⟨w.heap.size, 0, none⟩) := hout 1 (by kernel_rfl)
        have h3 : a.tmps.getD 3 undef = .int .i64 1 := hout 3 (by kernel_rfl)
        clear hout
        have c0 := hC.cell c00 (by simp)
        have c1 := hC.cell c01 (by simp)
        have c4 := hC.cell c04 (by simp)
        simp [relFacts, relR, Region.binds, -Int.reduceNeg] at hf hK h1 h3
        try go_split_ands
        go_simp
        exact hK _ _ rfl hC (Keep.refl _ _)
    · intro tm wx hC hsz hout hall
      have h0 : tm.getD 1 undef = .pointer (some ⟨w.heap.size, 0, none⟩) := hout 1 (by kernel_rfl)
      have h2 : tm.getD 4 undef = .string (oneB 83 ++ beB 1 1 ++ beB 4 E ++ beB 8 Q ++ beB 2 d.size ++ d ++ zerosB (108 - d.size)) := by
        simp only [relAll, relR] at hall
        exact hall.2.2.2.2.2.2.2.2.2.2.2.2.2.2.2.2.2.2.2.2.2.2.2.2.2.2.1
      clear hall hout
      have ht := tmps_out tm 44 hsz
      rw [show List.range 44 = [0, 1, 2, 3, 4, 5, 6, 7, 8, 9, 10, 11, 12, 13, 14, 15, 16, 17, 18, 19, 20, 21, 22, 23, 24, 25, 26, 27, 28, 29, 30, 31, 32, 33, 34, 35, 36, 37, 38, 39, 40, 41, 42, 43] from rfl] at ht
      simp only [List.map, h0, h2] at ht
      rw [ht]
      have hhead : oneB 83 ++ beB 1 1 ++ beB 4 E ++ beB 8 Q ++ beB 2 d.size ++ d ++ zerosB (108 - d.size) = slotHead ⟨E, Q, true, false, d⟩ := rfl
      rw [hhead]
      have hsh := slotHead_size (s := ⟨E, Q, true, false, d⟩) h5
      clear ht h0 h2 hhead
      have hcrc := crcOf_lt (slotHead ⟨E, Q, true, false, d⟩)
      have hfin : slotB ⟨E, Q, true, false, d⟩ = slotHead ⟨E, Q, true, false, d⟩ ++ beB 4 (crcOf (slotHead ⟨E, Q, true, false, d⟩)) := rfl
      have HFIN := Lib.hid hfin
      clear hfin
      generalize slotHead ⟨E, Q, true, false, d⟩ = hd at *
      go_wp2_with fail
      refine (refsum_any hd wx (by omega)).mono ?_
      rintro e w1 ⟨rfl, hk1⟩
      go_wp2_with fail
      refine (field4_any (crcOf hd) _ hcrc).mono ?_
      rintro e w2 ⟨rfl, hk2⟩
      have FIN := Lib.hid (hk0.trans (hC.trans (hk1.trans hk2)))
      have hb4 := beB_size 4 (crcOf hd)
      clear hk1 hk2 hC
      go_wp2
      go_ret
      exact ⟨by rw [HFIN.out]; rfl, FIN.out⟩
  case false.true =>
    go_wp2_with fail
    rw [← hW]
    clear hW
    refine wp_region_rel (by kernel_rfl) (by kernel_rfl) (fun w' => Keep [] W w') (fun a b => Keep [] a b) (relR
      [some (.int .i64 2), some (.string (beB 1 2)), some (.string (oneB 83 ++ beB 1 2)),
       some (.pointer (some ⟨w.heap.size, 0, none⟩)), some (.int .i64 E), some (.string (beB 4 E)), some (.string (oneB 83 ++ beB 1 2 ++ beB 4 E)),
       some (.pointer (some ⟨w.heap.size, 1, none⟩)), some (.int .i64 Q), some (.string (beB 8 Q)), some (.string (oneB 83 ++ beB 1 2 ++ beB 4 E ++ beB 8 Q)),
       some (.pointer (some ⟨w.heap.size, 4, none⟩)), some (.string d), some (.int .i64 d.size), some (.string (beB 2 d.size)), some (.string (oneB 83 ++ beB 1 2 ++ beB 4 E ++ beB 8 Q ++ beB 2 d.size)),
       some (.pointer (some ⟨w.heap.size, 4, none⟩)), some (.string d), some (.string (oneB 83 ++ beB 1 2 ++ beB 4 E ++ beB 8 Q ++ beB 2 d.size ++ d)),
       some (.pointer (some ⟨w.heap.size, 4, none⟩)), some (.string d), some (.int .i64 d.size), some (.int .i64 (108 - d.size : Nat)),
       none, some (.string (zerosB (108 - d.size))), some (.string (oneB 83 ++ beB 1 2 ++ beB 4 E ++ beB 8 Q ++ beB 2 d.size ++ d ++ zerosB (108 - d.size))),
       some (.string (oneB 83 ++ beB 1 2 ++ beB 4 E ++ beB 8 Q ++ beB 2 d.size ++ d ++ zerosB (108 - d.size)))]
      (fun _ v w' => w'.ownsRow 0 5 1 v (108 - d.size) (strCells (zerosB (108 - d.size))))) (relR_keep fun _ _ _ _ hk ho => hk.owns ho (by simp)) (Keep.refl _ _).drew ?_ ?_
    · repeat (refine relSteps_cons (fun a w' hC hout hf K Q' hK => ?_) ?_; rotate_left)
      · exact trivial
      · have h1 : a.tmps.getD 1 undef = .pointer (some ⟨w.heap.size, 0, none⟩) := hout 1 (by kernel_rfl)
        have h3 : a.tmps.getD 3 undef = .int .i64 2 := hout 3 (by kernel_rfl)
        clear hout
        have c0 := hC.cell c00 (by simp)
        have c1 := hC.cell c01 (by simp)
        have c4 := hC.cell c04 (by simp)
        simp [relFacts, relR, Region.binds, -Int.reduceNeg] at hf hK h1 h3
        try go_split_ands
        go_simp
        exact hK _ _ rfl hC (Keep.refl _ _)
      · have h1 : a.tmps.getD 1 undef = .pointer (some ⟨w.heap.size, 0, none⟩) := hout 1 (by kernel_rfl)
        have h3 : a.tmps.getD 3 undef = .int .i64 2 := hout 3 (by kernel_rfl)
        clear hout
        have c0 := hC.cell c00 (by simp)
        have c1 := hC.cell c01 (by simp)
        have c4 := hC.cell c04 (by simp)
        simp [relFacts, relR, Region.binds, -Int.reduceNeg] at hf hK h1 h3
        try go_split_ands
        go_simp
        refine (field1_any 2 _ (by decide)).mono ?_
        rintro e w1 ⟨rfl, hk⟩
        exact hK _ _ rfl (hC.trans hk) hk
      · have h1 : a.tmps.getD 1 undef = .pointer (some ⟨w.heap.size, 0, none⟩) := hout 1 (by kernel_rfl)
        have h3 : a.tmps.getD 3 undef = .int .i64 2 := hout 3 (by kernel_rfl)
        clear hout
        have c0 := hC.cell c00 (by simp)
        have c1 := hC.cell c01 (by simp)
        have c4 := hC.cell c04 (by simp)
        simp [relFacts, relR, Region.binds, -Int.reduceNeg] at hf hK h1 h3
        try go_split_ands
        go_simp
        exact hK _ _ rfl hC (Keep.refl _ _)
      · have h1 : a.tmps.getD 1 undef = .pointer (some ⟨w.heap.size, 0, none⟩) := hout 1 (by kernel_rfl)
        have h3 : a.tmps.getD 3 undef = .int .i64 2 := hout 3 (by kernel_rfl)
        clear hout
        have c0 := hC.cell c00 (by simp)
        have c1 := hC.cell c01 (by simp)
        have c4 := hC.cell c04 (by simp)
        simp [relFacts, relR, Region.binds, -Int.reduceNeg] at hf hK h1 h3
        try go_split_ands
        go_simp
        exact hK _ _ rfl hC (Keep.refl _ _)
      · have h1 : a.tmps.getD 1 undef = .pointer (some ⟨w.heap.size, 0, none⟩) := hout 1 (by kernel_rfl)
        have h3 : a.tmps.getD 3 undef = .int .i64 2 := hout 3 (by kernel_rfl)
        clear hout
        have c0 := hC.cell c00 (by simp)
        have c1 := hC.cell c01 (by simp)
        have c4 := hC.cell c04 (by simp)
        simp [relFacts, relR, Region.binds, -Int.reduceNeg] at hf hK h1 h3
        try go_split_ands
        go_simp
        exact hK _ _ rfl hC (Keep.refl _ _)
      · have h1 : a.tmps.getD 1 undef = .pointer (some ⟨w.heap.size, 0, none⟩) := hout 1 (by kernel_rfl)
        have h3 : a.tmps.getD 3 undef = .int .i64 2 := hout 3 (by kernel_rfl)
        clear hout
        have c0 := hC.cell c00 (by simp)
        have c1 := hC.cell c01 (by simp)
        have c4 := hC.cell c04 (by simp)
        simp [relFacts, relR, Region.binds, -Int.reduceNeg] at hf hK h1 h3
        try go_split_ands
        go_simp
        refine (field4_any E _ hE).mono ?_
        rintro e w1 ⟨rfl, hk⟩
        exact hK _ _ rfl (hC.trans hk) hk
      · have h1 : a.tmps.getD 1 undef = .pointer (some ⟨w.heap.size, 0, none⟩) := hout 1 (by kernel_rfl)
        have h3 : a.tmps.getD 3 undef = .int .i64 2 := hout 3 (by kernel_rfl)
        clear hout
        have c0 := hC.cell c00 (by simp)
        have c1 := hC.cell c01 (by simp)
        have c4 := hC.cell c04 (by simp)
        simp [relFacts, relR, Region.binds, -Int.reduceNeg] at hf hK h1 h3
        try go_split_ands
        go_simp
        exact hK _ _ rfl hC (Keep.refl _ _)
      · have h1 : a.tmps.getD 1 undef = .pointer (some ⟨w.heap.size, 0, none⟩) := hout 1 (by kernel_rfl)
        have h3 : a.tmps.getD 3 undef = .int .i64 2 := hout 3 (by kernel_rfl)
        clear hout
        have c0 := hC.cell c00 (by simp)
        have c1 := hC.cell c01 (by simp)
        have c4 := hC.cell c04 (by simp)
        simp [relFacts, relR, Region.binds, -Int.reduceNeg] at hf hK h1 h3
        try go_split_ands
        go_simp
        exact hK _ _ rfl hC (Keep.refl _ _)
      · have h1 : a.tmps.getD 1 undef = .pointer (some ⟨w.heap.size, 0, none⟩) := hout 1 (by kernel_rfl)
        have h3 : a.tmps.getD 3 undef = .int .i64 2 := hout 3 (by kernel_rfl)
        clear hout
        have c0 := hC.cell c00 (by simp)
        have c1 := hC.cell c01 (by simp)
        have c4 := hC.cell c04 (by simp)
        simp [relFacts, relR, Region.binds, -Int.reduceNeg] at hf hK h1 h3
        try go_split_ands
        go_simp
        exact hK _ _ rfl hC (Keep.refl _ _)
      · have h1 : a.tmps.getD 1 undef = .pointer (some ⟨w.heap.size, 0, none⟩) := hout 1 (by kernel_rfl)
        have h3 : a.tmps.getD 3 undef = .int .i64 2 := hout 3 (by kernel_rfl)
        clear hout
        have c0 := hC.cell c00 (by simp)
        have c1 := hC.cell c01 (by simp)
        have c4 := hC.cell c04 (by simp)
        simp [relFacts, relR, Region.binds, -Int.reduceNeg] at hf hK h1 h3
        try go_split_ands
        go_simp
        refine (field8_any Q _ hQ).mono ?_
        rintro e w1 ⟨rfl, hk⟩
        exact hK _ _ rfl (hC.trans hk) hk
      · have h1 : a.tmps.getD 1 undef = .pointer (some ⟨w.heap.size, 0, none⟩) := hout 1 (by kernel_rfl)
        have h3 : a.tmps.getD 3 undef = .int .i64 2 := hout 3 (by kernel_rfl)
        clear hout
        have c0 := hC.cell c00 (by simp)
        have c1 := hC.cell c01 (by simp)
        have c4 := hC.cell c04 (by simp)
        simp [relFacts, relR, Region.binds, -Int.reduceNeg] at hf hK h1 h3
        try go_split_ands
        go_simp
        exact hK _ _ rfl hC (Keep.refl _ _)
      · have h1 : a.tmps.getD 1 undef = .pointer (some ⟨w.heap.size, 0, none⟩) := hout 1 (by kernel_rfl)
        have h3 : a.tmps.getD 3 undef = .int .i64 2 := hout 3 (by kernel_rfl)
        clear hout
        have c0 := hC.cell c00 (by simp)
        have c1 := hC.cell c01 (by simp)
        have c4 := hC.cell c04 (by simp)
        simp [relFacts, relR, Region.binds, -Int.reduceNeg] at hf hK h1 h3
        try go_split_ands
        go_simp
        exact hK _ _ rfl hC (Keep.refl _ _)
      · have h1 : a.tmps.getD 1 undef = .pointer (some ⟨w.heap.size, 0, none⟩) := hout 1 (by kernel_rfl)
        have h3 : a.tmps.getD 3 undef = .int .i64 2 := hout 3 (by kernel_rfl)
        clear hout
        have c0 := hC.cell c00 (by simp)
        have c1 := hC.cell c01 (by simp)
        have c4 := hC.cell c04 (by simp)
        simp [relFacts, relR, Region.binds, -Int.reduceNeg] at hf hK h1 h3
        try go_split_ands
        go_simp
        exact hK _ _ rfl hC (Keep.refl _ _)
      · have h1 : a.tmps.getD 1 undef = .pointer (some ⟨w.heap.size, 0, none⟩) := hout 1 (by kernel_rfl)
        have h3 : a.tmps.getD 3 undef = .int .i64 2 := hout 3 (by kernel_rfl)
        clear hout
        have c0 := hC.cell c00 (by simp)
        have c1 := hC.cell c01 (by simp)
        have c4 := hC.cell c04 (by simp)
        simp [relFacts, relR, Region.binds, -Int.reduceNeg] at hf hK h1 h3
        try go_split_ands
        go_simp
        exact hK _ _ rfl hC (Keep.refl _ _)
      · have h1 : a.tmps.getD 1 undef = .pointer (some ⟨w.heap.size, 0, none⟩) := hout 1 (by kernel_rfl)
        have h3 : a.tmps.getD 3 undef = .int .i64 2 := hout 3 (by kernel_rfl)
        clear hout
        have c0 := hC.cell c00 (by simp)
        have c1 := hC.cell c01 (by simp)
        have c4 := hC.cell c04 (by simp)
        simp [relFacts, relR, Region.binds, -Int.reduceNeg] at hf hK h1 h3
        try go_split_ands
        go_simp
        refine (field2_any d.size _ (by omega)).mono ?_
        rintro e w1 ⟨rfl, hk⟩
        exact hK _ _ rfl (hC.trans hk) hk
      · have h1 : a.tmps.getD 1 undef = .pointer (some ⟨w.heap.size, 0, none⟩) := hout 1 (by kernel_rfl)
        have h3 : a.tmps.getD 3 undef = .int .i64 2 := hout 3 (by kernel_rfl)
        clear hout
        have c0 := hC.cell c00 (by simp)
        have c1 := hC.cell c01 (by simp)
        have c4 := hC.cell c04 (by simp)
        simp [relFacts, relR, Region.binds, -Int.reduceNeg] at hf hK h1 h3
        try go_split_ands
        go_simp
        exact hK _ _ rfl hC (Keep.refl _ _)
      · have h1 : a.tmps.getD 1 undef = .pointer (some ⟨w.heap.size, 0, none⟩) := hout 1 (by kernel_rfl)
        have h3 : a.tmps.getD 3 undef = .int .i64 2 := hout 3 (by kernel_rfl)
        clear hout
        have c0 := hC.cell c00 (by simp)
        have c1 := hC.cell c01 (by simp)
        have c4 := hC.cell c04 (by simp)
        simp [relFacts, relR, Region.binds, -Int.reduceNeg] at hf hK h1 h3
        try go_split_ands
        go_simp
        exact hK _ _ rfl hC (Keep.refl _ _)
      · have h1 : a.tmps.getD 1 undef = .pointer (some ⟨w.heap.size, 0, none⟩) := hout 1 (by kernel_rfl)
        have h3 : a.tmps.getD 3 undef = .int .i64 2 := hout 3 (by kernel_rfl)
        clear hout
        have c0 := hC.cell c00 (by simp)
        have c1 := hC.cell c01 (by simp)
        have c4 := hC.cell c04 (by simp)
        simp [relFacts, relR, Region.binds, -Int.reduceNeg] at hf hK h1 h3
        try go_split_ands
        go_simp
        exact hK _ _ rfl hC (Keep.refl _ _)
      · have h1 : a.tmps.getD 1 undef = .pointer (some ⟨w.heap.size, 0, none⟩) := hout 1 (by kernel_rfl)
        have h3 : a.tmps.getD 3 undef = .int .i64 2 := hout 3 (by kernel_rfl)
        clear hout
        have c0 := hC.cell c00 (by simp)
        have c1 := hC.cell c01 (by simp)
        have c4 := hC.cell c04 (by simp)
        simp [relFacts, relR, Region.binds, -Int.reduceNeg] at hf hK h1 h3
        try go_split_ands
        go_simp
        rw [if_neg (by simp only [beB_size, zerosB_size, show (oneB 83).size = 1 from rfl]; omega)]
        exact hK _ _ rfl hC (Keep.refl _ _)
      · have h1 : a.tmps.getD 1 undef = .pointer (some ⟨w.heap.size, 0, none⟩) := hout 1 (by kernel_rfl)
        have h3 : a.tmps.getD 3 undef = .int .i64 2 := hout 3 (by kernel_rfl)
        clear hout
        have c0 := hC.cell c00 (by simp)
        have c1 := hC.cell c01 (by simp)
        have c4 := hC.cell c04 (by simp)
        simp [relFacts, relR, Region.binds, -Int.reduceNeg] at hf hK h1 h3
        try go_split_ands
        go_simp
        exact hK _ _ rfl hC (Keep.refl _ _)
      · have h1 : a.tmps.getD 1 undef = .pointer (some ⟨w.heap.size, 0, none⟩) := hout 1 (by kernel_rfl)
        have h3 : a.tmps.getD 3 undef = .int .i64 2 := hout 3 (by kernel_rfl)
        clear hout
        have c0 := hC.cell c00 (by simp)
        have c1 := hC.cell c01 (by simp)
        have c4 := hC.cell c04 (by simp)
        simp [relFacts, relR, Region.binds, -Int.reduceNeg] at hf hK h1 h3
        try go_split_ands
        go_simp
        exact hK _ _ rfl hC (Keep.refl _ _)
      · have h1 : a.tmps.getD 1 undef = .pointer (some ⟨w.heap.size, 0, none⟩) := hout 1 (by kernel_rfl)
        have h3 : a.tmps.getD 3 undef = .int .i64 2 := hout 3 (by kernel_rfl)
        clear hout
        have c0 := hC.cell c00 (by simp)
        have c1 := hC.cell c01 (by simp)
        have c4 := hC.cell c04 (by simp)
        simp [relFacts, relR, Region.binds, -Int.reduceNeg] at hf hK h1 h3
        try go_split_ands
        go_simp
        exact hK _ _ rfl hC (Keep.refl _ _)
      · have h1 : a.tmps.getD 1 undef = .pointer (some ⟨w.heap.size, 0, none⟩) := hout 1 (by kernel_rfl)
        have h3 : a.tmps.getD 3 undef = .int .i64 2 := hout 3 (by kernel_rfl)
        clear hout
        have c0 := hC.cell c00 (by simp)
        have c1 := hC.cell c01 (by simp)
        have c4 := hC.cell c04 (by simp)
        simp [relFacts, relR, Region.binds, -Int.reduceNeg] at hf hK h1 h3
        try go_split_ands
        have hw : IntKind.i64.wrap (108 - (d.size : Int)) = ((108 - d.size : Nat) : Int) := by rw [HZ.out, IntWalk.i64_left]; exact IntWalk.wrap64_in _ (by omega)
        go_simp
        exact hK _ _ rfl hC (Keep.refl _ _)
      · have h1 : a.tmps.getD 1 undef = .pointer (some ⟨w.heap.size, 0, none⟩) := hout 1 (by kernel_rfl)
        have h3 : a.tmps.getD 3 undef = .int .i64 2 := hout 3 (by kernel_rfl)
        clear hout
        have c0 := hC.cell c00 (by simp)
        have c1 := hC.cell c01 (by simp)
        have c4 := hC.cell c04 (by simp)
        simp [relFacts, relR, Region.binds, -Int.reduceNeg] at hf hK h1 h3
        try go_split_ands
        go_simp
        rw [make8 w' (108 - d.size) (by omega)]
        exact hK _ _ (make8_own w' (108 - d.size) 0 (by unfold maxLen; omega) (Nat.zero_le _)) (hC.alloc _) ((Keep.refl _ _).alloc _)
      · have h1 : a.tmps.getD 1 undef = .pointer (some ⟨w.heap.size, 0, none⟩) := hout 1 (by kernel_rfl)
        have h3 : a.tmps.getD 3 undef = .int .i64 2 := hout 3 (by kernel_rfl)
        clear hout
        have c0 := hC.cell c00 (by simp)
        have c1 := hC.cell c01 (by simp)
        have c4 := hC.cell c04 (by simp)
        simp [relFacts, relR, Region.binds, -Int.reduceNeg] at hf hK h1 h3
        try go_split_ands
        go_simp
        rw [own_str hf]
        exact hK _ _ rfl hC (Keep.refl _ _)
      · have h1 : a.tmps.getD 1 undef = .pointer (some ⟨w.heap.size, 0, none⟩) := hout 1 (by kernel_rfl)
        have h3 : a.tmps.getD 3 undef = .int .i64 2 := hout 3 (by kernel_rfl)
        clear hout
        have c0 := hC.cell c00 (by simp)
        have c1 := hC.cell c01 (by simp)
        have c4 := hC.cell c04 (by simp)
        simp [relFacts, relR, Region.binds, -Int.reduceNeg] at hf hK h1 h3
        try go_split_ands
        go_simp
        rw [if_neg (by simp only [beB_size, zerosB_size, show (oneB 83).size = 1 from rfl]; omega)]
        exact hK _ _ rfl hC (Keep.refl _ _)
      · have h1 : a.tmps.getD 1 undef = .pointer (some ⟨w.heap.size, 0, none⟩) := hout 1 (by kernel_rfl)
        have h3 : a.tmps.getD 3 undef = .int .i64 2 := hout 3 (by kernel_rfl)
        clear hout
        have c0 := hC.cell c00 (by simp)
        have c1 := hC.cell c01 (by simp)
        have c4 := hC.cell c04 (by simp)
        simp [relFacts, relR, Region.binds, -Int.reduceNeg] at hf hK h1 h3
        try go_split_ands
        go_simp
        exact hK _ _ rfl hC (Keep.refl _ _)
    · intro tm wx hC hsz hout hall
      have h0 : tm.getD 1 undef = .pointer (some ⟨w.heap.size, 0, none⟩) := hout 1 (by kernel_rfl)
      have h2 : tm.getD 4 undef = .string (oneB 83 ++ beB 1 2 ++ beB 4 E ++ beB 8 Q ++ beB 2 d.size ++ d ++ zerosB (108 - d.size)) := by
        simp only [relAll, relR] at hall
        exact hall.2.2.2.2.2.2.2.2.2.2.2.2.2.2.2.2.2.2.2.2.2.2.2.2.2.2.1
      clear hall hout
      have ht := tmps_out tm 44 hsz
      rw [show List.range 44 = [0, 1, 2, 3, 4, 5, 6, 7, 8, 9, 10, 11, 12, 13, 14, 15, 16, 17, 18, 19, 20, 21, 22, 23, 24, 25, 26, 27, 28, 29, 30, 31, 32, 33, 34, 35, 36, 37, 38, 39, 40, 41, 42, 43] from rfl] at ht
      simp only [List.map, h0, h2] at ht
      rw [ht]
      have hhead : oneB 83 ++ beB 1 2 ++ beB 4 E ++ beB 8 Q ++ beB 2 d.size ++ d ++ zerosB (108 - d.size) = slotHead ⟨E, Q, false, true, d⟩ := rfl
      rw [hhead]
      have hsh := slotHead_size (s := ⟨E, Q, false, true, d⟩) h5
      clear ht h0 h2 hhead
      have hcrc := crcOf_lt (slotHead ⟨E, Q, false, true, d⟩)
      have hfin : slotB ⟨E, Q, false, true, d⟩ = slotHead ⟨E, Q, false, true, d⟩ ++ beB 4 (crcOf (slotHead ⟨E, Q, false, true, d⟩)) := rfl
      have HFIN := Lib.hid hfin
      clear hfin
      generalize slotHead ⟨E, Q, false, true, d⟩ = hd at *
      go_wp2_with fail
      refine (refsum_any hd wx (by omega)).mono ?_
      rintro e w1 ⟨rfl, hk1⟩
      go_wp2_with fail
      refine (field4_any (crcOf hd) _ hcrc).mono ?_
      rintro e w2 ⟨rfl, hk2⟩
      have FIN := Lib.hid (hk0.trans (hC.trans (hk1.trans hk2)))
      have hb4 := beB_size 4 (crcOf hd)
      clear hk1 hk2 hC
      go_wp2
      go_ret
      exact ⟨by rw [HFIN.out]; rfl, FIN.out⟩
  case false.false =>
    go_wp2_with fail
    rw [← hW]
    clear hW
    refine wp_region_rel (by kernel_rfl) (by kernel_rfl) (fun w' => Keep [] W w') (fun a b => Keep [] a b) (relR
      [some (.int .i64 0), some (.string (beB 1 0)), some (.string (oneB 83 ++ beB 1 0)),
       some (.pointer (some ⟨w.heap.size, 0, none⟩)), some (.int .i64 E), some (.string (beB 4 E)), some (.string (oneB 83 ++ beB 1 0 ++ beB 4 E)),
       some (.pointer (some ⟨w.heap.size, 1, none⟩)), some (.int .i64 Q), some (.string (beB 8 Q)), some (.string (oneB 83 ++ beB 1 0 ++ beB 4 E ++ beB 8 Q)),
       some (.pointer (some ⟨w.heap.size, 4, none⟩)), some (.string d), some (.int .i64 d.size), some (.string (beB 2 d.size)), some (.string (oneB 83 ++ beB 1 0 ++ beB 4 E ++ beB 8 Q ++ beB 2 d.size)),
       some (.pointer (some ⟨w.heap.size, 4, none⟩)), some (.string d), some (.string (oneB 83 ++ beB 1 0 ++ beB 4 E ++ beB 8 Q ++ beB 2 d.size ++ d)),
       some (.pointer (some ⟨w.heap.size, 4, none⟩)), some (.string d), some (.int .i64 d.size), some (.int .i64 (108 - d.size : Nat)),
       none, some (.string (zerosB (108 - d.size))), some (.string (oneB 83 ++ beB 1 0 ++ beB 4 E ++ beB 8 Q ++ beB 2 d.size ++ d ++ zerosB (108 - d.size))),
       some (.string (oneB 83 ++ beB 1 0 ++ beB 4 E ++ beB 8 Q ++ beB 2 d.size ++ d ++ zerosB (108 - d.size)))]
      (fun _ v w' => w'.ownsRow 0 5 1 v (108 - d.size) (strCells (zerosB (108 - d.size))))) (relR_keep fun _ _ _ _ hk ho => hk.owns ho (by simp)) (Keep.refl _ _).drew ?_ ?_
    · repeat (refine relSteps_cons (fun a w' hC hout hf K Q' hK => ?_) ?_; rotate_left)
      · exact trivial
      · have h1 : a.tmps.getD 1 undef = .pointer (some ⟨w.heap.size, 0, none⟩) := hout 1 (by kernel_rfl)
        have h3 : a.tmps.getD 3 undef = .int .i64 0 := hout 3 (by kernel_rfl)
        clear hout
        have c0 := hC.cell c00 (by simp)
        have c1 := hC.cell c01 (by simp)
        have c4 := hC.cell c04 (by simp)
        simp [relFacts, relR, Region.binds, -Int.reduceNeg] at hf hK h1 h3
        try go_split_ands
        go_simp
        exact hK _ _ rfl hC (Keep.refl _ _)
      · have h1 : a.tmps.getD 1 undef = .pointer (some ⟨w.heap.size, 0, none⟩) := hout 1 (by kernel_rfl)
        have h3 : a.tmps.getD 3 undef = .int .i64 0 := hout 3 (by kernel_rfl)
        clear hout
        have c0 := hC.cell c00 (by simp)
        have c1 := hC.cell c01 (by simp)
        have c4 := hC.cell c04 (by simp)
        simp [relFacts, relR, Region.binds, -Int.reduceNeg] at hf hK h1 h3
        try go_split_ands
        go_simp
        refine (field1_any 0 _ (by decide)).mono ?_
        rintro e w1 ⟨rfl, hk⟩
        exact hK _ _ rfl (hC.trans hk) hk
      · have h1 : a.tmps.getD 1 undef = .pointer (some ⟨w.heap.size, 0, none⟩) := hout 1 (by kernel_rfl)
        have h3 : a.tmps.getD 3 undef = .int .i64 0 := hout 3 (by kernel_rfl)
        clear hout
        have c0 := hC.cell c00 (by simp)
        have c1 := hC.cell c01 (by simp)
        have c4 := hC.cell c04 (by simp)
        simp [relFacts, relR, Region.binds, -Int.reduceNeg] at hf hK h1 h3
        try go_split_ands
        go_simp
        exact hK _ _ rfl hC (Keep.refl _ _)
      · have h1 : a.tmps.getD 1 undef = .pointer (some ⟨w.heap.size, 0, none⟩) := hout 1 (by kernel_rfl)
        have h3 : a.tmps.getD 3 undef = .int .i64 0 := hout 3 (by kernel_rfl)
        clear hout
        have c0 := hC.cell c00 (by simp)
        have c1 := hC.cell c01 (by simp)
        have c4 := hC.cell c04 (by simp)
        simp [relFacts, relR, Region.binds, -Int.reduceNeg] at hf hK h1 h3
        try go_split_ands
        go_simp
        exact hK _ _ rfl hC (Keep.refl _ _)
      · have h1 : a.tmps.getD 1 undef = .pointer (some ⟨w.heap.size, 0, none⟩) := hout 1 (by kernel_rfl)
        have h3 : a.tmps.getD 3 undef = .int .i64 0 := hout 3 (by kernel_rfl)
        clear hout
        have c0 := hC.cell c00 (by simp)
        have c1 := hC.cell c01 (by simp)
        have c4 := hC.cell c04 (by simp)
        simp [relFacts, relR, Region.binds, -Int.reduceNeg] at hf hK h1 h3
        try go_split_ands
        go_simp
        exact hK _ _ rfl hC (Keep.refl _ _)
      · have h1 : a.tmps.getD 1 undef = .pointer (some ⟨w.heap.size, 0, none⟩) := hout 1 (by kernel_rfl)
        have h3 : a.tmps.getD 3 undef = .int .i64 0 := hout 3 (by kernel_rfl)
        clear hout
        have c0 := hC.cell c00 (by simp)
        have c1 := hC.cell c01 (by simp)
        have c4 := hC.cell c04 (by simp)
        simp [relFacts, relR, Region.binds, -Int.reduceNeg] at hf hK h1 h3
        try go_split_ands
        go_simp
        refine (field4_any E _ hE).mono ?_
        rintro e w1 ⟨rfl, hk⟩
        exact hK _ _ rfl (hC.trans hk) hk
      · have h1 : a.tmps.getD 1 undef = .pointer (some ⟨w.heap.size, 0, none⟩) := hout 1 (by kernel_rfl)
        have h3 : a.tmps.getD 3 undef = .int .i64 0 := hout 3 (by kernel_rfl)
        clear hout
        have c0 := hC.cell c00 (by simp)
        have c1 := hC.cell c01 (by simp)
        have c4 := hC.cell c04 (by simp)
        simp [relFacts, relR, Region.binds, -Int.reduceNeg] at hf hK h1 h3
        try go_split_ands
        go_simp
        exact hK _ _ rfl hC (Keep.refl _ _)
      · have h1 : a.tmps.getD 1 undef = .pointer (some ⟨w.heap.size, 0, none⟩) := hout 1 (by kernel_rfl)
        have h3 : a.tmps.getD 3 undef = .int .i64 0 := hout 3 (by kernel_rfl)
        clear hout
        have c0 := hC.cell c00 (by simp)
        have c1 := hC.cell c01 (by simp)
        have c4 := hC.cell c04 (by simp)
        simp [relFacts, relR, Region.binds, -Int.reduceNeg] at hf hK h1 h3
        try go_split_ands
        go_simp
        exact hK _ _ rfl hC (Keep.refl _ _)
      · have h1 : a.tmps.getD 1 undef = .pointer (some ⟨w.heap.size, 0, none⟩) := hout 1 (by kernel_rfl)
        have h3 : a.tmps.getD 3 undef = .int .i64 0 := hout 3 (by kernel_rfl)
        clear hout
        have c0 := hC.cell c00 (by simp)
        have c1 := hC.cell c01 (by simp)
        have c4 := hC.cell c04 (by simp)
        simp [relFacts, relR, Region.binds, -Int.reduceNeg] at hf hK h1 h3
        try go_split_ands
        go_simp
        exact hK _ _ rfl hC (Keep.refl _ _)
      · have h1 : a.tmps.getD 1 undef = .pointer (some ⟨w.heap.size, 0, none⟩) := hout 1 (by kernel_rfl)
        have h3 : a.tmps.getD 3 undef = .int .i64 0 := hout 3 (by kernel_rfl)
        clear hout
        have c0 := hC.cell c00 (by simp)
        have c1 := hC.cell c01 (by simp)
        have c4 := hC.cell c04 (by simp)
        simp [relFacts, relR, Region.binds, -Int.reduceNeg] at hf hK h1 h3
        try go_split_ands
        go_simp
        refine (field8_any Q _ hQ).mono ?_
        rintro e w1 ⟨rfl, hk⟩
        exact hK _ _ rfl (hC.trans hk) hk
      · have h1 : a.tmps.getD 1 undef = .pointer (some ⟨w.heap.size, 0, none⟩) := hout 1 (by kernel_rfl)
        have h3 : a.tmps.getD 3 undef = .int .i64 0 := hout 3 (by kernel_rfl)
        clear hout
        have c0 := hC.cell c00 (by simp)
        have c1 := hC.cell c01 (by simp)
        have c4 := hC.cell c04 (by simp)
        simp [relFacts, relR, Region.binds, -Int.reduceNeg] at hf hK h1 h3
        try go_split_ands
        go_simp
        exact hK _ _ rfl hC (Keep.refl _ _)
      · have h1 : a.tmps.getD 1 undef = .pointer (some ⟨w.heap.size, 0, none⟩) := hout 1 (by kernel_rfl)
        have h3 : a.tmps.getD 3 undef = .int .i64 0 := hout 3 (by kernel_rfl)
        clear hout
        have c0 := hC.cell c00 (by simp)
        have c1 := hC.cell c01 (by simp)
        have c4 := hC.cell c04 (by simp)
        simp [relFacts, relR, Region.binds, -Int.reduceNeg] at hf hK h1 h3
        try go_split_ands
        go_simp
        exact hK _ _ rfl hC (Keep.refl _ _)
      · have h1 : a.tmps.getD 1 undef = .pointer (some ⟨w.heap.size, 0, none⟩) := hout 1 (by kernel_rfl)
        have h3 : a.tmps.getD 3 undef = .int .i64 0 := hout 3 (by kernel_rfl)
        clear hout
        have c0 := hC.cell c00 (by simp)
        have c1 := hC.cell c01 (by simp)
        have c4 := hC.cell c04 (by simp)
        simp [relFacts, relR, Region.binds, -Int.reduceNeg] at hf hK h1 h3
        try go_split_ands
        go_simp
        exact hK _ _ rfl hC (Keep.refl _ _)
      · have h1 : a.tmps.getD 1 undef = .pointer (some ⟨w.heap.size, 0, none⟩) := hout 1 (by kernel_rfl)
        have h3 : a.tmps.getD 3 undef = .int .i64 0 := hout 3 (by kernel_rfl)
        clear hout
        have c0 := hC.cell c00 (by simp)
        have c1 := hC.cell c01 (by simp)
        have c4 := hC.cell c04 (by simp)
        simp [relFacts, relR, Region.binds, -Int.reduceNeg] at hf hK h1 h3
        try go_split_ands
        go_simp
        exact hK _ _ rfl hC (Keep.refl _ _)
      · have h1 : a.tmps.getD 1 undef = .pointer (some ⟨w.heap.size, 0, none⟩) := hout 1 (by kernel_rfl)
        have h3 : a.tmps.getD 3 undef = .int .i64 0 := hout 3 (by kernel_rfl)
        clear hout
        have c0 := hC.cell c00 (by simp)
        have c1 := hC.cell c01 (by simp)
        have c4 := hC.cell c04 (by simp)
        simp [relFacts, relR, Region.binds, -Int.reduceNeg] at hf hK h1 h3
        try go_split_ands
        go_simp
        refine (field2_any d.size _ (by omega)).mono ?_
        rintro e w1 ⟨rfl, hk⟩
        exact hK _ _ rfl (hC.trans hk) hk
      · have h1 : a.tmps.getD 1 undef = .pointer (some ⟨w.heap.size, 0, none⟩) := hout 1 (by kernel_rfl)
        have h3 : a.tmps.getD 3 undef = .int .i64 0 := hout 3 (by kernel_rfl)
        clear hout
        have c0 := hC.cell c00 (by simp)
        have c1 := hC.cell c01 (by simp)
        have c4 := hC.cell c04 (by simp)
        simp [relFacts, relR, Region.binds, -Int.reduceNeg] at hf hK h1 h3
        try go_split_ands
        go_simp
        exact hK _ _ rfl hC (Keep.refl _ _)
      · have h1 : a.tmps.getD 1 undef = .pointer (some ⟨w.heap.size, 0, none⟩) := hout 1 (by kernel_rfl)
        have h3 : a.tmps.getD 3 undef = .int .i64 0 := hout 3 (by kernel_rfl)
        clear hout
        have c0 := hC.cell c00 (by simp)
        have c1 := hC.cell c01 (by simp)
        have c4 := hC.cell c04 (by simp)
        simp [relFacts, relR, Region.binds, -Int.reduceNeg] at hf hK h1 h3
        try go_split_ands
        go_simp
        exact hK _ _ rfl hC (Keep.refl _ _)
      · have h1 : a.tmps.getD 1 undef = .pointer (some ⟨w.heap.size, 0, none⟩) := hout 1 (by kernel_rfl)
        have h3 : a.tmps.getD 3 undef = .int .i64 0 := hout 3 (by kernel_rfl)
        clear hout
        have c0 := hC.cell c00 (by simp)
        have c1 := hC.cell c01 (by simp)
        have c4 := hC.cell c04 (by simp)
        simp [relFacts, relR, Region.binds, -Int.reduceNeg] at hf hK h1 h3
        try go_split_ands
        go_simp
        exact hK _ _ rfl hC (Keep.refl _ _)
      · have h1 : a.tmps.getD 1 undef = .pointer (some ⟨w.heap.size, 0, none⟩) := hout 1 (by kernel_rfl)
        have h3 : a.tmps.getD 3 undef = .int .i64 0 := hout 3 (by kernel_rfl)
        clear hout
        have c0 := hC.cell c00 (by simp)
        have c1 := hC.cell c01 (by simp)
        have c4 := hC.cell c04 (by simp)
        simp [relFacts, relR, Region.binds, -Int.reduceNeg] at hf hK h1 h3
        try go_split_ands
        go_simp
        rw [if_neg (by simp only [beB_size, zerosB_size, show (oneB 83).size = 1 from rfl]; omega)]
        exact hK _ _ rfl hC (Keep.refl _ _)
      · have h1 : a.tmps.getD 1 undef = .pointer (some ⟨w.heap.size, 0, none⟩) := hout 1 (by kernel_rfl)
        have h3 : a.tmps.getD 3 undef = .int .i64 0 := hout 3 (by kernel_rfl)
        clear hout
        have c0 := hC.cell c00 (by simp)
        have c1 := hC.cell c01 (by simp)
        have c4 := hC.cell c04 (by simp)
        simp [relFacts, relR, Region.binds, -Int.reduceNeg] at hf hK h1 h3
        try go_split_ands
        go_simp
        exact hK _ _ rfl hC (Keep.refl _ _)
      · have h1 : a.tmps.getD 1 undef = .pointer (some ⟨w.heap.size, 0, none⟩) := hout 1 (by kernel_rfl)
        have h3 : a.tmps.getD 3 undef = .int .i64 0 := hout 3 (by kernel_rfl)
        clear hout
        have c0 := hC.cell c00 (by simp)
        have c1 := hC.cell c01 (by simp)
        have c4 := hC.cell c04 (by simp)
        simp [relFacts, relR, Region.binds, -Int.reduceNeg] at hf hK h1 h3
        try go_split_ands
        go_simp
        exact hK _ _ rfl hC (Keep.refl _ _)
      · have h1 : a.tmps.getD 1 undef = .pointer (some ⟨w.heap.size, 0, none⟩) := hout 1 (by kernel_rfl)
        have h3 : a.tmps.getD 3 undef = .int .i64 0 := hout 3 (by kernel_rfl)
        clear hout
        have c0 := hC.cell c00 (by simp)
        have c1 := hC.cell c01 (by simp)
        have c4 := hC.cell c04 (by simp)
        simp [relFacts, relR, Region.binds, -Int.reduceNeg] at hf hK h1 h3
        try go_split_ands
        go_simp
        exact hK _ _ rfl hC (Keep.refl _ _)
      · have h1 : a.tmps.getD 1 undef = .pointer (some ⟨w.heap.size, 0, none⟩) := hout 1 (by kernel_rfl)
        have h3 : a.tmps.getD 3 undef = .int .i64 0 := hout 3 (by kernel_rfl)
        clear hout
        have c0 := hC.cell c00 (by simp)
        have c1 := hC.cell c01 (by simp)
        have c4 := hC.cell c04 (by simp)
        simp [relFacts, relR, Region.binds, -Int.reduceNeg] at hf hK h1 h3
        try go_split_ands
        have hw : IntKind.i64.wrap (108 - (d.size : Int)) = ((108 - d.size : Nat) : Int) := by rw [HZ.out, IntWalk.i64_left]; exact IntWalk.wrap64_in _ (by omega)
        go_simp
        exact hK _ _ rfl hC (Keep.refl _ _)
      · have h1 : a.tmps.getD 1 undef = .pointer (some ⟨w.heap.size, 0, none⟩) := hout 1 (by kernel_rfl)
        have h3 : a.tmps.getD 3 undef = .int .i64 0 := hout 3 (by kernel_rfl)
        clear hout
        have c0 := hC.cell c00 (by simp)
        have c1 := hC.cell c01 (by simp)
        have c4 := hC.cell c04 (by simp)
        simp [relFacts, relR, Region.binds, -Int.reduceNeg] at hf hK h1 h3
        try go_split_ands
        go_simp
        rw [make8 w' (108 - d.size) (by omega)]
        exact hK _ _ (make8_own w' (108 - d.size) 0 (by unfold maxLen; omega) (Nat.zero_le _)) (hC.alloc _) ((Keep.refl _ _).alloc _)
      · have h1 : a.tmps.getD 1 undef = .pointer (some ⟨w.heap.size, 0, none⟩) := hout 1 (by kernel_rfl)
        have h3 : a.tmps.getD 3 undef = .int .i64 0 := hout 3 (by kernel_rfl)
        clear hout
        have c0 := hC.cell c00 (by simp)
        have c1 := hC.cell c01 (by simp)
        have c4 := hC.cell c04 (by simp)
        simp [relFacts, relR, Region.binds, -Int.reduceNeg] at hf hK h1 h3
        try go_split_ands
        go_simp
        rw [own_str hf]
        exact hK _ _ rfl hC (Keep.refl _ _)
      · have h1 : a.tmps.getD 1 undef = .pointer (some ⟨w.heap.size, 0, none⟩) := hout 1 (by kernel_rfl)
        have h3 : a.tmps.getD 3 undef = .int .i64 0 := hout 3 (by kernel_rfl)
        clear hout
        have c0 := hC.cell c00 (by simp)
        have c1 := hC.cell c01 (by simp)
        have c4 := hC.cell c04 (by simp)
        simp [relFacts, relR, Region.binds, -Int.reduceNeg] at hf hK h1 h3
        try go_split_ands
        go_simp
        rw [if_neg (by simp only [beB_size, zerosB_size, show (oneB 83).size = 1 from rfl]; omega)]
        exact hK _ _ rfl hC (Keep.refl _ _)
      · have h1 : a.tmps.getD 1 undef = .pointer (some ⟨w.heap.size, 0, none⟩) := hout 1 (by kernel_rfl)
        have h3 : a.tmps.getD 3 undef = .int .i64 0 := hout 3 (by kernel_rfl)
        clear hout
        have c0 := hC.cell c00 (by simp)
        have c1 := hC.cell c01 (by simp)
        have c4 := hC.cell c04 (by simp)
        simp [relFacts, relR, Region.binds, -Int.reduceNeg] at hf hK h1 h3
        try go_split_ands
        go_simp
        exact hK _ _ rfl hC (Keep.refl _ _)
    · intro tm wx hC hsz hout hall
      have h0 : tm.getD 1 undef = .pointer (some ⟨w.heap.size, 0, none⟩) := hout 1 (by kernel_rfl)
      have h2 : tm.getD 4 undef = .string (oneB 83 ++ beB 1 0 ++ beB 4 E ++ beB 8 Q ++ beB 2 d.size ++ d ++ zerosB (108 - d.size)) := by
        simp only [relAll, relR] at hall
        exact hall.2.2.2.2.2.2.2.2.2.2.2.2.2.2.2.2.2.2.2.2.2.2.2.2.2.2.1
      clear hall hout
      have ht := tmps_out tm 44 hsz
      rw [show List.range 44 = [0, 1, 2, 3, 4, 5, 6, 7, 8, 9, 10, 11, 12, 13, 14, 15, 16, 17, 18, 19, 20, 21, 22, 23, 24, 25, 26, 27, 28, 29, 30, 31, 32, 33, 34, 35, 36, 37, 38, 39, 40, 41, 42, 43] from rfl] at ht
      simp only [List.map, h0, h2] at ht
      rw [ht]
      have hhead : oneB 83 ++ beB 1 0 ++ beB 4 E ++ beB 8 Q ++ beB 2 d.size ++ d ++ zerosB (108 - d.size) = slotHead ⟨E, Q, false, false, d⟩ := rfl
      rw [hhead]
      have hsh := slotHead_size (s := ⟨E, Q, false, false, d⟩) h5
      clear ht h0 h2 hhead
      have hcrc := crcOf_lt (slotHead ⟨E, Q, false, false, d⟩)
      have hfin : slotB ⟨E, Q, false, false, d⟩ = slotHead ⟨E, Q, false, false, d⟩ ++ beB 4 (crcOf (slotHead ⟨E, Q, false, false, d⟩)) := rfl
      have HFIN := Lib.hid hfin
      clear hfin
      generalize slotHead ⟨E, Q, false, false, d⟩ = hd at *
      go_wp2_with fail
      refine (refsum_any hd wx (by omega)).mono ?_
      rintro e w1 ⟨rfl, hk1⟩
      go_wp2_with fail
      refine (field4_any (crcOf hd) _ hcrc).mono ?_
      rintro e w2 ⟨rfl, hk2⟩
      have FIN := Lib.hid (hk0.trans (hC.trans (hk1.trans hk2)))
      have hb4 := beB_size 4 (crcOf hd)
      clear hk1 hk2 hC
      go_wp2
      go_ret
      exact ⟨by rw [HFIN.out]; rfl, FIN.out⟩

theorem refbytes_bad (ep sq : Int) (f l : Bool) (d : ByteArray) (w : World) (hm : d.size ≤ 9223372036854775807) (h : okSlot ⟨ep, sq, f, l, d⟩ = false) :
    Calls Try.prog 30 #[.agg #[.int .i64 ep, .int .i64 sq, .bool f, .bool l, .string d]] w fun e w' => e = .returned (.tuple #[.string ByteArray.empty, .int .i64 2]) ∧ Keep [] w w' := by
  go_enter Try.func30, Try.ntmps30
  go_wp2_with fail
  refine (right_bad ep sq f l d _ hm h).mono ?_
  rintro e w1 ⟨rfl, rfl⟩
  go_wp2
  go_ret2
  exact ⟨rfl, ((Keep.refl _ _).alloc _).alloc _⟩
theorem refbytes_ok (E Q : Nat) (f l : Bool) (d : ByteArray) (w : World) (h : okSlot ⟨E, Q, f, l, d⟩ = true) :
    Calls Try.prog 30 #[.agg #[.int .i64 E, .int .i64 Q, .bool f, .bool l, .string d]] w fun e w' => e = .returned (.tuple #[.string (slotB ⟨E, Q, f, l, d⟩), .int .i64 0]) ∧ Keep [] w w' := by
  have HOK := Lib.hid h
  clear h
  go_enter Try.func30, Try.ntmps30
  go_wp2_with fail
  refine (right_ok E Q f l d _ HOK.out).mono ?_
  rintro e w1 ⟨rfl, rfl⟩
  go_wp2_with fail
  refine (refput_any E Q f l d _ HOK.out).mono ?_
  rintro e w1 ⟨rfl, hk⟩
  have FIN := Lib.hid ((((Keep.refl _ w).alloc _).alloc _).trans hk)
  clear hk
  go_wp2
  go_ret2
  exact ⟨rfl, FIN.out⟩
def slotBytesF (s : SlotV) : ByteArray := if okSlot s then slotB s else ByteArray.empty
theorem refbytes_any (s : SlotV) (w : World) (hm : s.data.size ≤ 9223372036854775807) :
    Calls Try.prog 30 #[s.val] w fun e w' => e = .returned (.tuple #[.string (slotBytesF s), .int .i64 (if okSlot s then 0 else 2)]) ∧ Keep [] w w' := by
  unfold slotBytesF
  obtain ⟨ep, sq, f, l, d⟩ := s
  cases h : okSlot ⟨ep, sq, f, l, d⟩ with
  | true =>
    obtain ⟨h1, h2, h3, h4, h5⟩ := of_decide_eq_true h
    obtain ⟨E, rfl⟩ := Int.eq_ofNat_of_zero_le h1
    obtain ⟨Q, rfl⟩ := Int.eq_ofNat_of_zero_le h3
    exact refbytes_ok E Q f l d w h
  | false => exact refbytes_bad ep sq f l d w hm h

theorem refcheck_any (s : SlotV) (w : World) (hm : s.data.size ≤ 9223372036854775807) :
    Calls Try.prog 32 #[s.val] w fun e w' => e = .returned (.int .i64 (if okSlot s then 0 else 2)) ∧ Keep [] w w' := by
  obtain ⟨ep, sq, f, l, d⟩ := s
  unfold SlotV.val
  cases h : okSlot ⟨ep, sq, f, l, d⟩ with
  | true =>
    have HOK := Lib.hid h
    clear h
    dsimp only
    go_enter Try.func32, Try.ntmps32
    go_wp2_with fail
    refine (right_ok ep sq f l d _ HOK.out).mono ?_
    rintro e w1 ⟨rfl, rfl⟩
    go_wp2
    go_ret
    exact ⟨rfl, ((Keep.refl _ _).alloc _).alloc _⟩
  | false =>
    have HOK := Lib.hid h
    clear h
    dsimp only at hm ⊢
    go_enter Try.func32, Try.ntmps32
    go_wp2_with fail
    refine (right_bad ep sq f l d _ hm HOK.out).mono ?_
    rintro e w1 ⟨rfl, rfl⟩
    go_wp2
    go_ret
    exact ⟨rfl, ((Keep.refl _ _).alloc _).alloc _⟩
end Go.Proofs.Ytkhggpopohkjfaa
