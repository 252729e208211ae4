/- ambrylaw05.SlotReads returns true whatever the bytes. Premise: they are no more than memory holds. -/
import Derived.Test.YtkhggpopohkjfaaBytesIn
import Derived.Test.YtkhggpopohkjfaaReadLaw
import Derived.Test.YtkhggpopohkjfaaLives5
namespace Go.Proofs.Ytkhggpopohkjfaa
open Go.RowKit Go.Proofs Go.Lib
set_option linter.unusedVariables false
set_option linter.unusedSimpArgs false

set_option maxRecDepth 100000 in
set_option maxHeartbeats 2000000 in
theorem reads_walk (A : Option Addr) (n cap : Nat) (s : ByteArray) (w : World) (h : BytesIn w A n cap s) (hreach : n ≤ 140737488351232) :
    Calls Try.prog 14 #[.slice A n cap] w fun e w' => e = .returned (.bool true) ∧ Keep [] w w' := by
  have hr0 : (w.alloc (.cells #[] 5)).ownsRow w.heap.size 5 1 (.slice (some ⟨w.heap.size, 0, none⟩) 0 0) 0 [] := World.ownsRow_lit (base := w.heap.size) (size := 1) (e := 5) w #[] 0 (Nat.le_refl _) (by decide) rfl
  have hk0 : Keep [] w (w.alloc (.cells #[] 5)) := (Keep.refl _ _).alloc _
  have HB := Lib.hid h
  have hcv := h.conv
  have hrr := fun w => refread_any s w
  rw [← readS_eq, ← readE_eq] at hrr
  generalize hS : readS s = S at hrr
  generalize hE : readE s = E at hrr
  obtain ⟨ep, sq, f, l, d⟩ := S
  have HRR := Lib.hid hrr
  have HSE := Lib.hid (And.intro hS hE)
  have hcvx : ∀ wx, Keep [] w wx → (convert 42 9 (.slice A n cap)).run Try.prog wx = .ok (.string s) wx := fun wx hk => (h.keep0 hk).conv
  have HCV := Lib.hid hcvx
  clear h hcv hrr hS hE hcvx
  go_enter Try.func14, Try.ntmps14
  go_wp2_with (at_builtin; refine wpList_append_in rfl _ _ rfl w.heap.size _ 0 [] rfl hr0 rfl (HB.out.keep0 hk0) (by have := HB.out.hcap; have := HB.out.hmax; unfold maxLen at *; omega) (by omega) (by simp) ?_; intro v1 w1 hown1 hgrow1)
  have hk1 : Keep [] w w1 := hk0.grown hgrow1 (fun j e => .inr (by have := (hr0.lt j e).1; omega))
  rw [List.nil_append, Nat.zero_add] at hown1
  obtain ⟨A1, c1, rfl⟩ : ∃ A1 c1, v1 = .slice A1 n c1 := by
    rcases hown1.2 with ⟨h1, h2⟩ | ⟨g, cap', cur, h1, _⟩
    · exact ⟨none, 0, by rw [h1, h2]⟩
    · exact ⟨_, _, h1⟩
  have hB1 := BytesIn.of_own hown1
  obtain ⟨r1, o1, hA1, hS1⟩ := hB1.at
  have hrd := read_any A1 r1 o1 n c1 s w1 hA1 hB1.size hB1.hcap hB1.hmax hS1
  rw [HSE.out.1, HSE.out.2] at hrd
  have HRD := Lib.hid hrd
  clear hrd hB1 hS1 hA1 hown1 hgrow1
  go_wp2_with fail
  simp only [SlotV.val] at HRD HRR
  refine HRD.out.mono ?_
  rintro e w2 ⟨rfl, hk2⟩
  have hk2' : Keep [] w (w2.alloc (.cells #[.int .i64 ep, .int .i64 sq, .bool f, .bool l, .string d] 41)) := (hk1.trans hk2).alloc _
  have hb2 := heap_alloc_new w2 (.cells #[.int .i64 ep, .int .i64 sq, .bool f, .bool l, .string d] 41)
  have hcv2 := HCV.out _ hk2'
  go_wp2_with fail
  generalize w2.alloc _ = w3 at *
  refine (HRR.out w3).mono ?_
  rintro e w4 ⟨rfl, hk4⟩
  have hb4 := hk4.heap hb2 (by simp)
  have hk4' := hk2'.trans hk4
  have hlt : w2.heap.size < w4.heap.size := heap_lt hb4
  clear hcv2 hb2 hk2 hk2' hk4
  have he1 := fun w => eql41 ep sq f l d ep sq f l d w
  rw [show slotEq ep sq f l d ep sq f l d = true from slotEq_refl _ _ _ _ _] at he1
  have hb5 : (w4.alloc (.cells #[.int .i64 ep, .int .i64 sq, .bool f, .bool l, .string d] 41)).heap[w2.heap.size]? = some (.cells #[.int .i64 ep, .int .i64 sq, .bool f, .bool l, .string d] 41) := past hb4
  have hb6 := heap_alloc_new w4 (.cells #[.int .i64 ep, .int .i64 sq, .bool f, .bool l, .string d] 41)
  have hk6 := hk4'.alloc (.cells #[.int .i64 ep, .int .i64 sq, .bool f, .bool l, .string d] 41)
  have c0 := (cell_of_row _ _ 0 _ _ _ hb5).trans rfl
  have c1 := (cell_of_row _ _ 1 _ _ _ hb5).trans rfl
  have c2 := (cell_of_row _ _ 2 _ _ _ hb5).trans rfl
  have c3 := (cell_of_row _ _ 3 _ _ _ hb5).trans rfl
  have c4 := (cell_of_row _ _ 4 _ _ _ hb5).trans rfl
  go_wp2_with fail
  refine (lives5 _).mono ?_
  rintro e w5 ⟨rfl, hk5⟩
  have FIN := Lib.hid (hk6.trans hk5)
  go_wp2
  go_ret
  exact ⟨rfl, FIN.out⟩
end Go.Proofs.Ytkhggpopohkjfaa
