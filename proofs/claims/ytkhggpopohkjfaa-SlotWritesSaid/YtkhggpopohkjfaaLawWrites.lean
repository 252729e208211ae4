/- ambrylaw05.SlotWrites returns true whatever the input. Premise: the string's size fits memory. -/
import Derived.Test.YtkhggpopohkjfaaBytesOf
import Derived.Test.YtkhggpopohkjfaaRefPut
import Derived.Test.YtkhggpopohkjfaaLives5
namespace Go.Proofs.Ytkhggpopohkjfaa
open Go.RowKit Go.Proofs Go.Lib

theorem bytes_str (s : SlotV) (w : World) (hm : s.data.size ≤ 9223372036854775807) :
    Calls Try.prog 29 #[s.val] w fun e w' => ∃ v n, e = .returned (.tuple #[v, .int .i64 (if okSlot s then 0 else 2)]) ∧ Keep [] w w' ∧ w'.ownsRow w.heap.size 5 1 v n (strCells (slotBytesF s)) := by
  refine (bytes_any s w hm).mono ?_
  rintro e w' ⟨v, he, hk, ho⟩
  unfold slotBytesF
  cases h : okSlot s with
  | true => rw [h] at ho he; exact ⟨v, _, he, hk, ho⟩
  | false => rw [h] at ho he; exact ⟨v, _, he, hk, ho⟩

set_option maxRecDepth 100000 in
set_option maxHeartbeats 2000000 in
theorem writes_walk (ep sq : Int) (f l : Bool) (d : ByteArray) (w : World) (hm : d.size ≤ 9223372036854775807) :
    Calls Try.prog 6 #[.agg #[.int .i64 ep, .int .i64 sq, .bool f, .bool l, .string d]] w fun e w' => e = .returned (.bool true) ∧ Keep [] w w' := by
  have hb := fun w => bytes_str ⟨ep, sq, f, l, d⟩ w hm
  have hr := fun w => refbytes_any ⟨ep, sq, f, l, d⟩ w hm
  have hc := fun w => check_any ⟨ep, sq, f, l, d⟩ w hm
  have hrc := fun w => refcheck_any ⟨ep, sq, f, l, d⟩ w hm
  generalize slotBytesF ⟨ep, sq, f, l, d⟩ = B at *
  generalize (if okSlot ⟨ep, sq, f, l, d⟩ = true then (0 : Int) else 2) = E at *
  simp only [SlotV.val] at hb hr hc hrc
  have HB := Lib.hid hb
  have HR := Lib.hid hr
  have HC := Lib.hid hc
  have HRC := Lib.hid hrc
  clear hb hr hc hrc
  obtain ⟨W, hW⟩ : ∃ W, W = w.alloc (.cells #[.int .i64 ep, .int .i64 sq, .bool f, .bool l, .string d] 41) := ⟨_, rfl⟩
  have hb0 : W.heap[w.heap.size]? = some (.cells #[.int .i64 ep, .int .i64 sq, .bool f, .bool l, .string d] 41) := by rw [hW]; exact heap_alloc_new w _
  have hk0 : Keep [] w W := by rw [hW]; exact (Keep.refl _ _).alloc _
  go_enter Try.func6, Try.ntmps6
  go_wp2_with fail
  rw [← hW]
  clear hW
  refine (HB.out _).mono ?_
  rintro e w1 ⟨v1, n1, rfl, hk1, ho1⟩
  have hb1 := hk1.heap hb0 (by simp)
  have c10 := (cell_of_row _ _ 0 _ _ _ hb1).trans rfl
  have c11 := (cell_of_row _ _ 1 _ _ _ hb1).trans rfl
  have c12 := (cell_of_row _ _ 2 _ _ _ hb1).trans rfl
  have c13 := (cell_of_row _ _ 3 _ _ _ hb1).trans rfl
  have c14 := (cell_of_row _ _ 4 _ _ _ hb1).trans rfl
  go_wp2_with fail
  refine (HR.out _).mono ?_
  rintro e w2 ⟨rfl, hk2⟩
  have hb2 := hk2.heap hb1 (by simp)
  have ho2 := hk2.owns ho1 (by simp)
  have c20 := fam_box hb2
  have C0 : ∀ n : Fam w2, n.at_.cell? ⟨w.heap.size, 0, none⟩ = some (.int .i64 ep) := fun n => c20 n 0 _ rfl
  have C1 : ∀ n : Fam w2, n.at_.cell? ⟨w.heap.size, 1, none⟩ = some (.int .i64 sq) := fun n => c20 n 1 _ rfl
  have C2 : ∀ n : Fam w2, n.at_.cell? ⟨w.heap.size, 2, none⟩ = some (.bool f) := fun n => c20 n 2 _ rfl
  have C3 : ∀ n : Fam w2, n.at_.cell? ⟨w.heap.size, 3, none⟩ = some (.bool l) := fun n => c20 n 3 _ rfl
  have C4 : ∀ n : Fam w2, n.at_.cell? ⟨w.heap.size, 4, none⟩ = some (.string d) := fun n => c20 n 4 _ rfl
  have hcv : ∀ n : Fam w2, (convert 42 9 v1).run Try.prog n.at_ = .ok (.string B) n.at_ := fun n => own_str (n.keep.owns ho2 (by simp))
  have hc1 : ∀ n : Fam w2, Calls Try.prog 31 #[.agg #[.int .i64 ep, .int .i64 sq, .bool f, .bool l, .string d]] n.at_ fun e w'' => e = .returned (.int .i64 E) ∧ ∃ m : Fam w2, w'' = m.at_ := fun n =>
    calls_fam ((HC.out n.at_).mono fun e w' ⟨he, hw⟩ => ⟨he, hw ▸ (Keep.refl _ _).alloc _⟩)
  have hc2 : ∀ n : Fam w2, Calls Try.prog 32 #[.agg #[.int .i64 ep, .int .i64 sq, .bool f, .bool l, .string d]] n.at_ fun e w'' => e = .returned (.int .i64 E) ∧ ∃ m : Fam w2, w'' = m.at_ := fun n => calls_fam (HRC.out n.at_)
  have hc3 : ∀ n : Fam w2, Calls Try.prog 27 #[] n.at_ fun e w'' => e = .returned (.bool true) ∧ ∃ m : Fam w2, w'' = m.at_ := fun n => calls_fam (lives5 n.at_)
  clear c10 c11 c12 c13 c14 c20
  go_wp2_with fail
  refine wp_region_fam (by kernel_rfl) (by kernel_rfl) ?_
  repeat (go_big_quiet_step (first | exact hc1 _ | exact hc2 _ | exact hc3 _))
  refine wpQuiet_nil ?_
  rintro _ ⟨nq, rfl⟩
  have FIN := Lib.hid (hk0.trans (hk1.trans (hk2.trans nq.keep)))
  go_wp2
  go_ret
  exact ⟨rfl, FIN.out⟩
end Go.Proofs.Ytkhggpopohkjfaa
