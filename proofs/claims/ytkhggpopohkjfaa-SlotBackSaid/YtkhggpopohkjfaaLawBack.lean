/- ambrylaw05.SlotBack returns true whatever the input. Premise: strings and bytes are no more than memory holds. -/
import Derived.Test.YtkhggpopohkjfaaBytesIn
import Derived.Test.YtkhggpopohkjfaaBackLaw
import Derived.Test.YtkhggpopohkjfaaBytesOf
import Derived.Test.YtkhggpopohkjfaaLives5
import Derived.Deep.Cut
namespace Go.Proofs.Ytkhggpopohkjfaa
open Go.RowKit Go.Proofs Go.Lib
set_option linter.unusedVariables false
set_option linter.unusedSimpArgs false

theorem ofOwn_form {w : World} {base n : Nat} {v : Value} {s : ByteArray} (h : w.ownsRow base 5 1 v n (strCells s)) : ∃ A c, v = .slice A n c ∧ BytesIn w A n c s := by
  obtain ⟨A, c, rfl⟩ : ∃ A c, v = .slice A n c := by
    rcases h.2 with ⟨h1, h2⟩ | ⟨g, cap', cur, h1, _⟩
    · exact ⟨none, 0, by rw [h1, h2]⟩
    · exact ⟨_, _, h1⟩
  exact ⟨A, c, rfl, BytesIn.of_own h⟩

theorem BytesIn.read {w : World} {A : Option Addr} {n cap : Nat} {s : ByteArray} (h : BytesIn w A n cap s) :
    Calls Try.prog 59 #[.slice A n cap] w fun e w' => e = .returned (.tuple #[(readS s).val, .int .i64 (readE s)]) ∧ Keep [] w w' := by
  obtain ⟨r, o, hA, hS⟩ := h.at
  exact read_any A r o n cap s w hA h.size h.hcap h.hmax hS

/-- The tail: bytes read, and what is read written. -/
def backPost (w : World) (e : Ending) (w' : World) : Prop := e = .returned (.bool true) ∧ Keep [] w w'

set_option maxRecDepth 100000 in
set_option maxHeartbeats 4000000 in
theorem back_tail (A : Option Addr) (n cap : Nat) (s : ByteArray) (w w6 : World) (tm : Array Value) (hsz : tm.size = 79) (t1 : tm.getD 1 undef = .slice A n cap) (t4 : tm.getD 4 undef = .bool false)
    (h : BytesIn w6 A n cap s) (K6 : Keep [] w w6) :
    Code.wp Try.prog (headOf (tailOf 2 (Try.f15.body.getD .skip))) (Exit.then (Code.wp Try.prog (tailOf 3 (Try.f15.body.getD .skip)) (bodyPost Try.prog Try.f15 (backPost w))) (bodyPost Try.prog Try.f15 (backPost w))) ⟨tm, []⟩ w6 := by
  have ht := tmps_out tm 79 hsz
  rw [show List.range 79 = [0, 1, 2, 3, 4, 5, 6, 7, 8, 9, 10, 11, 12, 13, 14, 15, 16, 17, 18, 19, 20, 21, 22, 23, 24, 25, 26, 27, 28, 29, 30, 31, 32, 33, 34, 35, 36, 37, 38, 39, 40, 41, 42, 43, 44, 45, 46, 47, 48, 49, 50, 51, 52, 53, 54, 55, 56, 57, 58, 59, 60, 61, 62, 63, 64, 65, 66, 67, 68, 69, 70, 71, 72, 73, 74, 75, 76, 77, 78] from rfl] at ht
  simp only [List.map, t1, t4] at ht
  rw [ht]
  clear ht t1 t4
  simp only [Try.f15, Option.getD_some, tailOf, headOf]
  have hrd := h.read
  cases hok : readOk s with
  | true =>
    obtain ⟨hokS, hsB⟩ := slotB_readS s hok
    have hE : readE s = 0 := by simp [readE, hok]
    have hby := fun w => bytes_any (readS s) w (by have := (of_decide_eq_true hokS).2.2.2.2; omega)
    rw [hokS, hsB, if_pos rfl, if_pos rfl, if_pos rfl] at hby
    rw [hE] at hrd
    generalize readS s = S at *
    obtain ⟨ep, sq, f, l, d⟩ := S
    simp only [SlotV.val] at hrd hby
    have HBY := Lib.hid hby
    have HRD := Lib.hid hrd
    have HB := Lib.hid h
    clear hrd hby h hE hsB hokS hok
    go_wp2_with fail
    refine HRD.out.mono ?_
    rintro e w7 ⟨rfl, hk7⟩
    have hk7' : Keep [] w6 (w7.alloc (.cells #[.int .i64 ep, .int .i64 sq, .bool f, .bool l, .string d] 41)) := hk7.alloc _
    have hb7 := heap_alloc_new w7 (.cells #[.int .i64 ep, .int .i64 sq, .bool f, .bool l, .string d] 41)
    have c0 := (cell_of_row _ _ 0 _ _ _ hb7).trans rfl
    have c1 := (cell_of_row _ _ 1 _ _ _ hb7).trans rfl
    have c2 := (cell_of_row _ _ 2 _ _ _ hb7).trans rfl
    have c3 := (cell_of_row _ _ 3 _ _ _ hb7).trans rfl
    have c4 := (cell_of_row _ _ 4 _ _ _ hb7).trans rfl
    go_wp2_with fail
    refine (HBY.out _).mono ?_
    rintro e w8 ⟨v, rfl, hk8, hown⟩
    have hcv := own_str hown
    have hcs := (HB.out.keep0 (hk7'.trans hk8)).conv
    have hK8 := K6.trans (hk7'.trans hk8)
    have hss : (s.toList == s.toList) = true := beq_self_eq_true _
    clear hb7 c0 c1 c2 c3 c4 hk7' hk7 hk8 hown
    go_wp2_with fail
    refine (lives5 _).mono ?_
    rintro e w9 ⟨rfl, hk9⟩
    have FIN := Lib.hid (hK8.trans hk9)
    go_wp2
    go_ret
    exact ⟨rfl, FIN.out⟩
  | false =>
    have hE : readE s = 4 := by simp [readE, hok]
    have hS : readS s = zero0 := by simp [readS, hok]
    rw [hE, hS] at hrd
    unfold zero0 at hrd
    simp only [SlotV.val] at hrd
    have HRD := Lib.hid hrd
    clear hrd h hE hS hok
    go_wp2_with fail
    refine HRD.out.mono ?_
    rintro e w7 ⟨rfl, hk7⟩
    have hb7 := heap_alloc_new w7 (.cells #[.int .i64 0, .int .i64 0, .bool false, .bool false, .string ByteArray.empty] 41)
    have c0 := (cell_of_row _ _ 0 _ _ _ hb7).trans rfl
    have c1 := (cell_of_row _ _ 1 _ _ _ hb7).trans rfl
    have c2 := (cell_of_row _ _ 2 _ _ _ hb7).trans rfl
    have c3 := (cell_of_row _ _ 3 _ _ _ hb7).trans rfl
    have c4 := (cell_of_row _ _ 4 _ _ _ hb7).trans rfl
    have he1 := fun w => eql41 0 0 false false ByteArray.empty 0 0 false false ByteArray.empty w
    rw [show slotEq 0 0 false false ByteArray.empty 0 0 false false ByteArray.empty = true from slotEq_refl _ _ _ _ _] at he1
    have hK7 := K6.trans (hk7.alloc (.cells #[.int .i64 0, .int .i64 0, .bool false, .bool false, .string ByteArray.empty] 41))
    go_wp2_with fail
    refine (lives5 _).mono ?_
    rintro e w9 ⟨rfl, hk9⟩
    have FIN := Lib.hid (hK7.trans hk9)
    go_wp2
    go_ret
    exact ⟨rfl, FIN.out⟩

set_option maxRecDepth 100000 in
set_option maxHeartbeats 4000000 in
theorem back_walk (ep sq : Int) (f l : Bool) (d : ByteArray) (A : Option Addr) (n cap : Nat) (s : ByteArray) (w : World) (hm : d.size ≤ 9223372036854775807) (h : BytesIn w A n cap s) :
    Calls Try.prog 15 #[.agg #[.int .i64 ep, .int .i64 sq, .bool f, .bool l, .string d], .slice A n cap] w (backPost w) := by
  obtain ⟨W, hW⟩ : ∃ W, W = w.alloc (.cells #[.int .i64 ep, .int .i64 sq, .bool f, .bool l, .string d] 41) := ⟨_, rfl⟩
  have hb0 : W.heap[w.heap.size]? = some (.cells #[.int .i64 ep, .int .i64 sq, .bool f, .bool l, .string d] 41) := by rw [hW]; exact heap_alloc_new w _
  have hk0 : Keep [] w W := by rw [hW]; exact (Keep.refl _ _).alloc _
  have HB := Lib.hid h
  clear h
  have hby := fun w => bytes_any ⟨ep, sq, f, l, d⟩ w hm
  have hch := fun w => check_any ⟨ep, sq, f, l, d⟩ w hm
  cases hok : okSlot ⟨ep, sq, f, l, d⟩ with
  | true =>
    have hrS := readS_slotB _ hok
    have hrE := readE_slotB _ hok
    have hn : (slotB ⟨ep, sq, f, l, d⟩).size = 128 := slotB_size (of_decide_eq_true hok).2.2.2.2
    rw [hok, if_pos rfl, if_pos rfl, if_pos rfl] at hby
    simp only [SlotV.val] at hby
    generalize slotB ⟨ep, sq, f, l, d⟩ = B at *
    have HBY := Lib.hid hby
    have HR := Lib.hid (And.intro hrS hrE)
    clear hby hrS hrE hok hch
    go_enter Try.func15, Try.ntmps15
    go_wp2_with fail
    rw [← hW]
    clear hW
    have c0 := (cell_of_row _ _ 0 _ _ _ hb0).trans rfl
    have c1 := (cell_of_row _ _ 1 _ _ _ hb0).trans rfl
    have c2 := (cell_of_row _ _ 2 _ _ _ hb0).trans rfl
    have c3 := (cell_of_row _ _ 3 _ _ _ hb0).trans rfl
    have c4 := (cell_of_row _ _ 4 _ _ _ hb0).trans rfl
    go_wp2_with fail
    refine (HBY.out _).mono ?_
    rintro e w1 ⟨v, rfl, hk1, hown⟩
    obtain ⟨A1, cp1, rfl, hB1⟩ := ofOwn_form hown
    have hrd := hB1.read
    rw [HR.out.1, HR.out.2] at hrd
    simp only [SlotV.val] at hrd
    have HRD := Lib.hid hrd
    have hb1 := hk1.heap hb0 (by simp)
    clear hrd hB1 hown c0 c1 c2 c3 c4
    go_wp2_with fail
    refine HRD.out.mono ?_
    rintro e w2 ⟨rfl, hk2⟩
    have hb2 : (w2.alloc (.cells #[.int .i64 ep, .int .i64 sq, .bool f, .bool l, .string d] 41)).heap[w.heap.size]? = some (.cells #[.int .i64 ep, .int .i64 sq, .bool f, .bool l, .string d] 41) := past (hk2.heap hb1 (by simp))
    have hb3 := heap_alloc_new w2 (.cells #[.int .i64 ep, .int .i64 sq, .bool f, .bool l, .string d] 41)
    have hK3 : Keep [] w (w2.alloc (.cells #[.int .i64 ep, .int .i64 sq, .bool f, .bool l, .string d] 41)) := (hk0.trans (hk1.trans hk2)).alloc _
    have hlt := heap_lt (hk2.heap hb1 (by simp))
    have he1 := fun w => neq41 ep sq f l d ep sq f l d w
    rw [show slotEq ep sq f l d ep sq f l d = true from slotEq_refl _ _ _ _ _] at he1
    simp only [Bool.not_true] at he1
    have c0 := (cell_of_row _ _ 0 _ _ _ hb2).trans rfl
    have c1 := (cell_of_row _ _ 1 _ _ _ hb2).trans rfl
    have c2 := (cell_of_row _ _ 2 _ _ _ hb2).trans rfl
    have c3 := (cell_of_row _ _ 3 _ _ _ hb2).trans rfl
    have c4 := (cell_of_row _ _ 4 _ _ _ hb2).trans rfl
    go_upto_region 8 with (fail)
    refine Code.wp_mono ?_ (back_tail A n cap s w _ _ ?_ ?_ ?_ (HB.out.keep0 hK3) hK3)
    · intro e a wz h
      cases e with
      | normal => exact (by assumption : ∀ a w, Code.wp Try.prog (tailOf 3 (Try.f15.body.getD .skip)) _ a w → _) a wz h
      | _ => exact h
    all_goals rfl
  | false =>
    rw [hok, if_neg (by simp), if_neg (by simp), if_neg (by simp)] at hby
    rw [hok, if_neg (by simp)] at hch
    simp only [SlotV.val] at hby hch
    have HBY := Lib.hid hby
    have HCH := Lib.hid hch
    clear hby hch hok
    go_enter Try.func15, Try.ntmps15
    go_wp2_with fail
    rw [← hW]
    clear hW
    have c0 := (cell_of_row _ _ 0 _ _ _ hb0).trans rfl
    have c1 := (cell_of_row _ _ 1 _ _ _ hb0).trans rfl
    have c2 := (cell_of_row _ _ 2 _ _ _ hb0).trans rfl
    have c3 := (cell_of_row _ _ 3 _ _ _ hb0).trans rfl
    have c4 := (cell_of_row _ _ 4 _ _ _ hb0).trans rfl
    go_wp2_with fail
    refine (HBY.out _).mono ?_
    rintro e w1 ⟨v, rfl, hk1, hown⟩
    have hown2 : w1.ownsRow W.heap.size 5 1 v 0 (strCells ByteArray.empty) := hown
    obtain ⟨A1, cp1, rfl, hB1⟩ := ofOwn_form hown2
    have hb1 := hk1.heap hb0 (by simp)
    clear hB1 hown hown2 c0 c1 c2 c3 c4
    have c0 := (cell_of_row _ _ 0 _ _ _ hb1).trans rfl
    have c1 := (cell_of_row _ _ 1 _ _ _ hb1).trans rfl
    have c2 := (cell_of_row _ _ 2 _ _ _ hb1).trans rfl
    have c3 := (cell_of_row _ _ 3 _ _ _ hb1).trans rfl
    have c4 := (cell_of_row _ _ 4 _ _ _ hb1).trans rfl
    go_wp2_with fail
    refine (HCH.out _).mono ?_
    rintro e w2 ⟨rfl, hw2⟩
    have hK3 : Keep [] w w2 := (hk0.trans hk1).trans (hw2 ▸ (Keep.refl _ _).alloc _)
    clear hw2 c0 c1 c2 c3 c4
    go_upto_region 8 with (fail)
    refine Code.wp_mono ?_ (back_tail A n cap s w _ _ ?_ ?_ ?_ (HB.out.keep0 hK3) hK3)
    · intro e a wz h
      cases e with
      | normal => exact (by assumption : ∀ a w, Code.wp Try.prog (tailOf 3 (Try.f15.body.getD .skip)) _ a w → _) a wz h
      | _ => exact h
    all_goals rfl
end Go.Proofs.Ytkhggpopohkjfaa
