/- Supers on no disk; chapter 11's lives; ambrylaw11.SuperNil returns true. No condition. -/
import Derived.Test.YtkhggpopohkjfaaSupAll
namespace Go.Proofs.Ytkhggpopohkjfaa
open Go.RowKit Go.Proofs Go.Lib
set_option linter.unusedVariables false
set_option linter.unusedSimpArgs false

set_option maxRecDepth 100000 in
theorem find_un {p : Option Addr} {w : World} (h : Unmade p w) : Calls Try.prog 69 #[.pointer p] w fun e w' => e = .returned (.tuple #[sup0.val, .int .i64 0, .int .i64 1]) ∧ Keep [] w w' := by
  have hI0 : FindI w found0 ((w.alloc sup0.obj).alloc (.cells found0.toArray 168)) := ⟨past (heap_at _ _ _ rfl), heap_at _ _ _ (by simp), ((Keep.refl _ _).alloc _).alloc _⟩
  have HI0 := Lib.hid hI0
  have HU := Lib.hid h
  clear hI0 h
  go_enter Try.func69, Try.ntmps69
  go_wp2_with fail
  go_loopw [9] (fun i wr => i = .int .i64 0 ∧ Hid (FindI w found0 wr)) (fun _ _ => 1)
  case atStart => exact ⟨rfl, HI0⟩
  case round =>
    obtain ⟨rfl, HS⟩ := hrel
    clear HI0
    go_wp2_with fail
    refine (look_un (HU.out.keep HS.out.keep) 0).mono ?_
    rintro e w2 ⟨rfl, hk2⟩
    have HS2 := Lib.hid (HS.out.more hk2)
    clear hk2 HS
    rw [show found0.toArray = (#[.int .i64 0, .int .i64 0, .int .i64 0, .int .i64 0, .int .i64 0, .int .i64 0, .int .i64 0, .bool false] : Array Value) from rfl]
    have HB := Lib.hid (HS2.out.more ((Keep.refl _ _).alloc (.cells found0.toArray 168))).res
    go_wp2_with (first | ((with_reducible show wpList _ _ _ (⟨none, Op.store 100 (Operand.tmp 2) _, _, _, _, _⟩ :: _) _ _); refine wpList_store_at rfl 100 _ _ rfl w.heap.size 0 [.int .i64 0, .int .i64 0, .int .i64 0, .int .i64 0, .int .i64 0, .int .i64 0] rfl rfl [.int .i64 0, .int .i64 0, .int .i64 0, .int .i64 0, .int .i64 0, .int .i64 0] 100 HB.out (by decide) size100 (by simp [Value.oneCell']) ?_; dsimp only [Act.put]))
    refine find_end (b := w.heap.size) (sv := sup0) (x := 0) (y := 1) ?_ ?_ ?_ (setRow_same HB.out _) ?_
    · rfl
    · rfl
    · rfl
    · exact ⟨rfl, ((HS2.out.more ((Keep.refl _ _).alloc _)).keep).putRow _ (.inr (Nat.le_refl _))⟩

set_option maxRecDepth 100000 in
theorem save_un {p : Option Addr} {w : World} (h : Unmade p w) (s : SupV) : Calls Try.prog 68 #[.pointer p, s.val] w fun e w' => e = .returned (.tuple #[sup0.val, .int .i64 1]) ∧ Keep [] w w' := by
  have hk1 : Keep [] w ((w.alloc s.obj).alloc sup0.obj) := ((Keep.refl _ _).alloc _).alloc _
  have h4 : ((w.alloc s.obj).alloc sup0.obj).heap[w.heap.size + 1]? = some sup0.obj := heap_at _ _ _ (by simp)
  have HC := Lib.hid (find_un (h.keep hk1))
  have H1 := Lib.hid (And.intro h4 hk1)
  clear h hk1 h4
  obtain ⟨s0, s1, s2, s3, s4, s5⟩ := s
  unfold SupV.val SupV.obj sup0 at HC
  unfold SupV.val
  dsimp only at HC ⊢
  go_enter Try.func68, Try.ntmps68
  go_wp2_with fail
  refine HC.out.mono ?_
  rintro e w2 ⟨rfl, hk2⟩
  have H2 := Lib.hid (And.intro (hk2.heap H1.out.1 (by simp)) (H1.out.2.trans hk2))
  clear hk2 HC H1
  go_wp2_with (first | ((with_reducible show wpList _ _ _ (⟨none, Op.store 100 (Operand.tmp 4) _, _, _, _, _⟩ :: _) _ _); refine wpList_store_at rfl 100 _ _ rfl (w.heap.size + 1) 0 [.int .i64 0, .int .i64 0, .int .i64 0, .int .i64 0, .int .i64 0, .int .i64 0] rfl rfl [.int .i64 0, .int .i64 0, .int .i64 0, .int .i64 0, .int .i64 0, .int .i64 0] 100 (by exact past H2.out.1) (by decide) size100 (by simp [Value.oneCell']) ?_; dsimp only [Act.put]))
  refine save_end (b := w.heap.size + 1) (sv := sup0) (x := 1) ?_ ?_ (setRow_same (past H2.out.1) _) ?_
  · rfl
  · rfl
  · exact ⟨rfl, (H2.out.2.alloc _).putRow _ (.inr (Nat.le_succ _))⟩
end Go.Proofs.Ytkhggpopohkjfaa

namespace Go.Proofs.Ytkhggpopohkjfaa
open Go.RowKit Go.Proofs Go.Lib
set_option linter.unusedVariables false
set_option linter.unusedSimpArgs false

def l11s (r : Int) : SupV := ⟨0, r, 0, 0, 0, 0⟩
def l11z : DiskV := newV 2
def l11a : DiskV := ⟨[supB ⟨0, 5, 0, 0, 0, 0⟩, zerosB 128], [], -1, false⟩
def l11b : DiskV := ⟨[supB ⟨0, 5, 0, 0, 0, 0⟩, supB ⟨1, 6, 0, 0, 0, 0⟩], [], -1, false⟩
def l11c : DiskV := ⟨[supB ⟨0, 5, 0, 0, 0, 0⟩, supB ⟨1, 6, 0, 0, 0, 0⟩], [], 0, false⟩
def l11d : DiskV := ⟨[supB ⟨0, 5, 0, 0, 0, 0⟩, supB ⟨1, 6, 0, 0, 0, 0⟩], [], 0, true⟩
theorem l11_1 : findR l11z = (sup0, 0, 4) := by kernel_rfl
theorem l11_2 : saveR l11z (l11s 5) = (⟨0, 5, 0, 0, 0, 0⟩, 0, l11a) := by kernel_rfl
theorem l11_3 : saveR l11a (l11s 6) = (⟨1, 6, 0, 0, 0, 0⟩, 0, l11b) := by kernel_rfl
theorem l11_4 : findR l11b = (⟨1, 6, 0, 0, 0, 0⟩, 1, 0) := by kernel_rfl
theorem l11_5 : (saveR l11c (l11s 7)).2 = (20, l11d) := by kernel_rfl
theorem l11_6 : l11b.armV 0 = l11c ∧ l11d.crashV [] = l11b := ⟨by kernel_rfl, by kernel_rfl⟩
theorem l11_e1 (w : World) : (binOp .eql 100 (.agg #[.int .i64 0, .int .i64 5, .int .i64 0, .int .i64 0, .int .i64 0, .int .i64 0]) (.agg #[.int .i64 0, .int .i64 5, .int .i64 0, .int .i64 0, .int .i64 0, .int .i64 0])).run Try.prog w = .ok (.bool true) w := by rw [eql100]; rfl
theorem l11_e2 (w : World) : (binOp .eql 100 (.agg #[.int .i64 1, .int .i64 6, .int .i64 0, .int .i64 0, .int .i64 0, .int .i64 0]) (.agg #[.int .i64 1, .int .i64 6, .int .i64 0, .int .i64 0, .int .i64 0, .int .i64 0])).run Try.prog w = .ok (.bool true) w := by rw [eql100]; rfl

theorem hb_new (w : World) (o : Obj) : ∀ b ∈ (heldBox w.heap.size o).B, w.heap.size ≤ b ∧ b < (w.alloc o).heap.size := by
  intro b hb
  have hb2 : b = w.heap.size := by simpa [heldBox] using hb
  subst hb2
  simp
def sv100 (a b : Int) : Value := .agg #[.int .i64 a, .int .i64 b, .int .i64 0, .int .i64 0, .int .i64 0, .int .i64 0]
section
variable {w0 w : World} {g : Nat} {hs : List Held}
theorem l11_w1 (h : StH w0 w g l11z hs) : Calls Try.prog 69 #[.pointer (some ⟨g, 0, none⟩)] w fun e w' => e = .returned (.tuple #[.agg #[.int .i64 0, .int .i64 0, .int .i64 0, .int .i64 0, .int .i64 0, .int .i64 0], .int .i64 0, .int .i64 4]) ∧ StH w0 w' g l11z hs := by
  have hf := find_any h
  rw [l11_1] at hf
  exact hf.mono fun e w' hx => ⟨hx.1, h.keep0 hx.2⟩
theorem l11_w2 (h : StH w0 w g l11z hs) : Calls Try.prog 68 #[.pointer (some ⟨g, 0, none⟩), .agg #[.int .i64 0, .int .i64 5, .int .i64 0, .int .i64 0, .int .i64 0, .int .i64 0]] w fun e w' => e = .returned (.tuple #[.agg #[.int .i64 0, .int .i64 5, .int .i64 0, .int .i64 0, .int .i64 0, .int .i64 0], .int .i64 0]) ∧ StH w0 w' g l11a hs := by
  have hf := save_any h (by decide) (l11s 5)
  rw [l11_2] at hf
  exact hf
theorem l11_w3 (h : StH w0 w g l11a hs) : Calls Try.prog 68 #[.pointer (some ⟨g, 0, none⟩), .agg #[.int .i64 0, .int .i64 6, .int .i64 0, .int .i64 0, .int .i64 0, .int .i64 0]] w fun e w' => e = .returned (.tuple #[.agg #[.int .i64 1, .int .i64 6, .int .i64 0, .int .i64 0, .int .i64 0, .int .i64 0], .int .i64 0]) ∧ StH w0 w' g l11b hs := by
  have hf := save_any h (by decide) (l11s 6)
  rw [l11_3] at hf
  exact hf
theorem l11_w4 (h : StH w0 w g l11b hs) : Calls Try.prog 69 #[.pointer (some ⟨g, 0, none⟩)] w fun e w' => e = .returned (.tuple #[.agg #[.int .i64 1, .int .i64 6, .int .i64 0, .int .i64 0, .int .i64 0, .int .i64 0], .int .i64 1, .int .i64 0]) ∧ StH w0 w' g l11b hs := by
  have hf := find_any h
  rw [l11_4] at hf
  exact hf.mono fun e w' hx => ⟨hx.1, h.keep0 hx.2⟩
theorem l11_w5 (h : StH w0 w g l11c hs) : Calls Try.prog 68 #[.pointer (some ⟨g, 0, none⟩), .agg #[.int .i64 0, .int .i64 7, .int .i64 0, .int .i64 0, .int .i64 0, .int .i64 0]] w fun e w' => (∃ a0 a1 a2 a3 a4 a5, e = .returned (.tuple #[.agg #[.int .i64 a0, .int .i64 a1, .int .i64 a2, .int .i64 a3, .int .i64 a4, .int .i64 a5], .int .i64 20])) ∧ StH w0 w' g l11d hs := by
  have hf := save_any h (by decide) (l11s 7)
  refine hf.mono fun e w' hx => ?_
  obtain ⟨h1, h2⟩ := hx
  rw [l11_5] at h1 h2
  exact ⟨⟨_, _, _, _, _, _, h1⟩, h2⟩
end

set_option maxRecDepth 100000 in
theorem lives11_any (w : World) : Calls Try.prog 65 #[] w fun e w' => e = .returned (.bool true) ∧ Keep [] w w' := by
  have HN := Lib.hid (st_new (w0 := w) (w := w) (hs := []) 2 (by decide) (by decide) (Keep.refl _ _) (by simp))
  have r1 := l11_e1
  have r2 := l11_e2
  go_enter Try.func65, Try.ntmps65
  go_wp2_with fail
  refine HN.out.mono ?_
  rintro e w1 ⟨g, rfl, hst⟩
  have H1 : Hid (StH w w1 g l11z []) := Lib.hid hst
  clear hst HN
  go_wp2_with fail
  refine (l11_w1 H1.out).mono ?_
  rintro e w2 ⟨rfl, hst⟩
  have H2 := Lib.hid hst
  clear hst H1
  go_wp2_with fail
  refine (l11_w2 (H2.out.keep0 ((Keep.refl _ _).alloc _))).mono ?_
  rintro e w3 ⟨rfl, hst⟩
  have H3 := Lib.hid hst
  clear hst H2
  go_wp2_with fail
  refine (l11_w3 (H3.out.hold ((Keep.refl _ _).alloc _) (heldBox w3.heap.size (.cells #[.int .i64 0, .int .i64 5, .int .i64 0, .int .i64 0, .int .i64 0, .int .i64 0] 100)) (heap_alloc_new w3 _) (hb_new w3 _))).mono ?_
  rintro e w4 ⟨rfl, hst⟩
  have H4 := Lib.hid hst
  clear hst H3
  go_wp2_with fail
  refine (l11_w4 (H4.out.hold ((Keep.refl _ _).alloc _) (heldBox w4.heap.size (.cells #[.int .i64 1, .int .i64 6, .int .i64 0, .int .i64 0, .int .i64 0, .int .i64 0] 100)) (heap_alloc_new w4 _) (hb_new w4 _))).mono ?_
  rintro e w5 ⟨rfl, hst⟩
  have H5 := Lib.hid hst
  clear hst H4
  go_wp2_with fail
  refine (st_arm (H5.out.hold ((Keep.refl _ _).alloc _) (heldBox w5.heap.size (.cells #[.int .i64 1, .int .i64 6, .int .i64 0, .int .i64 0, .int .i64 0, .int .i64 0] 100)) (heap_alloc_new w5 _) (hb_new w5 _)) 0 (by decide)).mono ?_
  rintro e w6 ⟨rfl, hst⟩
  rw [l11_6.1] at hst
  have H6 := Lib.hid hst
  clear hst H5
  generalize DiskV.armE _ = xa
  go_wp2_with fail
  refine (l11_w5 H6.out).mono ?_
  rintro e w7 ⟨⟨a0, a1, a2, a3, a4, a5, rfl⟩, hst⟩
  have H7 := Lib.hid hst
  clear hst H6
  go_wp2_with fail
  refine (st_crash_nil (H7.out.keep0 ((Keep.refl _ _).alloc _))).mono ?_
  rintro e w8 ⟨rfl, hst⟩
  rw [l11_6.2] at hst
  have H8 := Lib.hid hst
  clear hst H7
  go_wp2_with fail
  refine (l11_w4 H8.out).mono ?_
  rintro e w9 ⟨rfl, hst⟩
  have H9 := Lib.hid (hst.keep0 ((Keep.refl _ _).alloc (.cells #[.int .i64 1, .int .i64 6, .int .i64 0, .int .i64 0, .int .i64 0, .int .i64 0] 100)))
  clear hst H8
  have pa : (w9.alloc (.cells #[.int .i64 1, .int .i64 6, .int .i64 0, .int .i64 0, .int .i64 0, .int .i64 0] 100)).heap[w3.heap.size]? = some (.cells #[.int .i64 0, .int .i64 5, .int .i64 0, .int .i64 0, .int .i64 0, .int .i64 0] 100) := H9.out.mem 2 _ rfl
  have pb : (w9.alloc (.cells #[.int .i64 1, .int .i64 6, .int .i64 0, .int .i64 0, .int .i64 0, .int .i64 0] 100)).heap[w4.heap.size]? = some (.cells #[.int .i64 1, .int .i64 6, .int .i64 0, .int .i64 0, .int .i64 0, .int .i64 0] 100) := H9.out.mem 1 _ rfl
  have pc : (w9.alloc (.cells #[.int .i64 1, .int .i64 6, .int .i64 0, .int .i64 0, .int .i64 0, .int .i64 0] 100)).heap[w5.heap.size]? = some (.cells #[.int .i64 1, .int .i64 6, .int .i64 0, .int .i64 0, .int .i64 0, .int .i64 0] 100) := H9.out.mem 0 _ rfl
  have pa0 : (w9.alloc (.cells #[.int .i64 1, .int .i64 6, .int .i64 0, .int .i64 0, .int .i64 0, .int .i64 0] 100)).cell? ⟨w3.heap.size, 0, none⟩ = some (.int .i64 0) := (cell_of_row _ _ 0 _ _ _ pa).trans rfl
  have pa1 : (w9.alloc (.cells #[.int .i64 1, .int .i64 6, .int .i64 0, .int .i64 0, .int .i64 0, .int .i64 0] 100)).cell? ⟨w3.heap.size, 1, none⟩ = some (.int .i64 5) := (cell_of_row _ _ 1 _ _ _ pa).trans rfl
  have pa2 : (w9.alloc (.cells #[.int .i64 1, .int .i64 6, .int .i64 0, .int .i64 0, .int .i64 0, .int .i64 0] 100)).cell? ⟨w3.heap.size, 2, none⟩ = some (.int .i64 0) := (cell_of_row _ _ 2 _ _ _ pa).trans rfl
  have pa3 : (w9.alloc (.cells #[.int .i64 1, .int .i64 6, .int .i64 0, .int .i64 0, .int .i64 0, .int .i64 0] 100)).cell? ⟨w3.heap.size, 3, none⟩ = some (.int .i64 0) := (cell_of_row _ _ 3 _ _ _ pa).trans rfl
  have pa4 : (w9.alloc (.cells #[.int .i64 1, .int .i64 6, .int .i64 0, .int .i64 0, .int .i64 0, .int .i64 0] 100)).cell? ⟨w3.heap.size, 4, none⟩ = some (.int .i64 0) := (cell_of_row _ _ 4 _ _ _ pa).trans rfl
  have pa5 : (w9.alloc (.cells #[.int .i64 1, .int .i64 6, .int .i64 0, .int .i64 0, .int .i64 0, .int .i64 0] 100)).cell? ⟨w3.heap.size, 5, none⟩ = some (.int .i64 0) := (cell_of_row _ _ 5 _ _ _ pa).trans rfl
  have pb0 : (w9.alloc (.cells #[.int .i64 1, .int .i64 6, .int .i64 0, .int .i64 0, .int .i64 0, .int .i64 0] 100)).cell? ⟨w4.heap.size, 0, none⟩ = some (.int .i64 1) := (cell_of_row _ _ 0 _ _ _ pb).trans rfl
  have pb1 : (w9.alloc (.cells #[.int .i64 1, .int .i64 6, .int .i64 0, .int .i64 0, .int .i64 0, .int .i64 0] 100)).cell? ⟨w4.heap.size, 1, none⟩ = some (.int .i64 6) := (cell_of_row _ _ 1 _ _ _ pb).trans rfl
  have pb2 : (w9.alloc (.cells #[.int .i64 1, .int .i64 6, .int .i64 0, .int .i64 0, .int .i64 0, .int .i64 0] 100)).cell? ⟨w4.heap.size, 2, none⟩ = some (.int .i64 0) := (cell_of_row _ _ 2 _ _ _ pb).trans rfl
  have pb3 : (w9.alloc (.cells #[.int .i64 1, .int .i64 6, .int .i64 0, .int .i64 0, .int .i64 0, .int .i64 0] 100)).cell? ⟨w4.heap.size, 3, none⟩ = some (.int .i64 0) := (cell_of_row _ _ 3 _ _ _ pb).trans rfl
  have pb4 : (w9.alloc (.cells #[.int .i64 1, .int .i64 6, .int .i64 0, .int .i64 0, .int .i64 0, .int .i64 0] 100)).cell? ⟨w4.heap.size, 4, none⟩ = some (.int .i64 0) := (cell_of_row _ _ 4 _ _ _ pb).trans rfl
  have pb5 : (w9.alloc (.cells #[.int .i64 1, .int .i64 6, .int .i64 0, .int .i64 0, .int .i64 0, .int .i64 0] 100)).cell? ⟨w4.heap.size, 5, none⟩ = some (.int .i64 0) := (cell_of_row _ _ 5 _ _ _ pb).trans rfl
  have pc0 : (w9.alloc (.cells #[.int .i64 1, .int .i64 6, .int .i64 0, .int .i64 0, .int .i64 0, .int .i64 0] 100)).cell? ⟨w5.heap.size, 0, none⟩ = some (.int .i64 1) := (cell_of_row _ _ 0 _ _ _ pc).trans rfl
  have pc1 : (w9.alloc (.cells #[.int .i64 1, .int .i64 6, .int .i64 0, .int .i64 0, .int .i64 0, .int .i64 0] 100)).cell? ⟨w5.heap.size, 1, none⟩ = some (.int .i64 6) := (cell_of_row _ _ 1 _ _ _ pc).trans rfl
  have pc2 : (w9.alloc (.cells #[.int .i64 1, .int .i64 6, .int .i64 0, .int .i64 0, .int .i64 0, .int .i64 0] 100)).cell? ⟨w5.heap.size, 2, none⟩ = some (.int .i64 0) := (cell_of_row _ _ 2 _ _ _ pc).trans rfl
  have pc3 : (w9.alloc (.cells #[.int .i64 1, .int .i64 6, .int .i64 0, .int .i64 0, .int .i64 0, .int .i64 0] 100)).cell? ⟨w5.heap.size, 3, none⟩ = some (.int .i64 0) := (cell_of_row _ _ 3 _ _ _ pc).trans rfl
  have pc4 : (w9.alloc (.cells #[.int .i64 1, .int .i64 6, .int .i64 0, .int .i64 0, .int .i64 0, .int .i64 0] 100)).cell? ⟨w5.heap.size, 4, none⟩ = some (.int .i64 0) := (cell_of_row _ _ 4 _ _ _ pc).trans rfl
  have pc5 : (w9.alloc (.cells #[.int .i64 1, .int .i64 6, .int .i64 0, .int .i64 0, .int .i64 0, .int .i64 0] 100)).cell? ⟨w5.heap.size, 5, none⟩ = some (.int .i64 0) := (cell_of_row _ _ 5 _ _ _ pc).trans rfl
  have HK := Lib.hid H9.out.keep
  clear H9 pa pb pc
  go_wp2
  go_ret
  exact ⟨rfl, HK.out⟩
end Go.Proofs.Ytkhggpopohkjfaa

namespace Go.Proofs.Ytkhggpopohkjfaa
open Go.RowKit Go.Proofs Go.Lib
set_option linter.unusedVariables false
set_option linter.unusedSimpArgs false

set_option maxRecDepth 100000 in
theorem supernil_none (s : SupV) (w : World) : Calls Try.prog 21 #[s.val, .bool false] w fun e w' => e = .returned (.bool true) ∧ Keep [] w w' := by
  have HLV := Lib.hid lives11_any
  have r0 : ∀ w : World, (binOp .eql 100 (.agg #[.int .i64 0, .int .i64 0, .int .i64 0, .int .i64 0, .int .i64 0, .int .i64 0]) (.agg #[.int .i64 0, .int .i64 0, .int .i64 0, .int .i64 0, .int .i64 0, .int .i64 0])).run Try.prog w = .ok (.bool true) w := fun w => by rw [eql100]; rfl
  have HU : Hid (Unmade none (w.alloc s.obj)) := Lib.hid (.inl rfl)
  have HK0 : Hid (Keep [] w (w.alloc s.obj) ∧ (w.alloc s.obj).heap[w.heap.size]? = some s.obj) := Lib.hid ⟨(Keep.refl _ _).alloc _, heap_alloc_new w _⟩
  obtain ⟨s0, s1, s2, s3, s4, s5⟩ := s
  have HF := Lib.hid (find_un HU.out)
  unfold SupV.val SupV.obj sup0 at *
  dsimp only at *
  go_enter Try.func21, Try.ntmps21
  go_wp2_with fail
  refine HF.out.mono ?_
  rintro e w1 ⟨rfl, hk⟩
  have hk2 := hk.alloc (.cells #[.int .i64 0, .int .i64 0, .int .i64 0, .int .i64 0, .int .i64 0, .int .i64 0] 100)
  have hbx := hk2.heap HK0.out.2 (by simp)
  have hzx : (w1.alloc (.cells #[.int .i64 0, .int .i64 0, .int .i64 0, .int .i64 0, .int .i64 0, .int .i64 0] 100)).heap[w1.heap.size]? = some (.cells #[.int .i64 0, .int .i64 0, .int .i64 0, .int .i64 0, .int .i64 0, .int .i64 0] 100) := heap_alloc_new w1 _
  have c0 : (w1.alloc (.cells #[.int .i64 0, .int .i64 0, .int .i64 0, .int .i64 0, .int .i64 0, .int .i64 0] 100)).cell? ⟨w.heap.size, 0, none⟩ = some (.int .i64 s0) := (cell_of_row _ _ 0 _ _ _ hbx).trans rfl
  have c1 : (w1.alloc (.cells #[.int .i64 0, .int .i64 0, .int .i64 0, .int .i64 0, .int .i64 0, .int .i64 0] 100)).cell? ⟨w.heap.size, 1, none⟩ = some (.int .i64 s1) := (cell_of_row _ _ 1 _ _ _ hbx).trans rfl
  have c2 : (w1.alloc (.cells #[.int .i64 0, .int .i64 0, .int .i64 0, .int .i64 0, .int .i64 0, .int .i64 0] 100)).cell? ⟨w.heap.size, 2, none⟩ = some (.int .i64 s2) := (cell_of_row _ _ 2 _ _ _ hbx).trans rfl
  have c3 : (w1.alloc (.cells #[.int .i64 0, .int .i64 0, .int .i64 0, .int .i64 0, .int .i64 0, .int .i64 0] 100)).cell? ⟨w.heap.size, 3, none⟩ = some (.int .i64 s3) := (cell_of_row _ _ 3 _ _ _ hbx).trans rfl
  have c4 : (w1.alloc (.cells #[.int .i64 0, .int .i64 0, .int .i64 0, .int .i64 0, .int .i64 0, .int .i64 0] 100)).cell? ⟨w.heap.size, 4, none⟩ = some (.int .i64 s4) := (cell_of_row _ _ 4 _ _ _ hbx).trans rfl
  have c5 : (w1.alloc (.cells #[.int .i64 0, .int .i64 0, .int .i64 0, .int .i64 0, .int .i64 0, .int .i64 0] 100)).cell? ⟨w.heap.size, 5, none⟩ = some (.int .i64 s5) := (cell_of_row _ _ 5 _ _ _ hbx).trans rfl
  have H1 := Lib.hid (And.intro (HK0.out.1.trans hk2) (And.intro (HU.out.keep hk2) hzx))
  clear hk hk2 hbx hzx HF
  go_wp2_with fail
  refine (save_un H1.out.2.1 ⟨s0, s1, s2, s3, s4, s5⟩).mono ?_
  rintro e w2 ⟨rfl, hk⟩
  unfold SupV.val sup0
  dsimp only
  have hk2 := hk.alloc (.cells #[.int .i64 0, .int .i64 0, .int .i64 0, .int .i64 0, .int .i64 0, .int .i64 0] 100)
  have hzx := hk2.heap H1.out.2.2 (by simp)
  have d0 : (w2.alloc (.cells #[.int .i64 0, .int .i64 0, .int .i64 0, .int .i64 0, .int .i64 0, .int .i64 0] 100)).cell? ⟨w1.heap.size, 0, none⟩ = some (.int .i64 0) := (cell_of_row _ _ 0 _ _ _ hzx).trans rfl
  have d1 : (w2.alloc (.cells #[.int .i64 0, .int .i64 0, .int .i64 0, .int .i64 0, .int .i64 0, .int .i64 0] 100)).cell? ⟨w1.heap.size, 1, none⟩ = some (.int .i64 0) := (cell_of_row _ _ 1 _ _ _ hzx).trans rfl
  have d2 : (w2.alloc (.cells #[.int .i64 0, .int .i64 0, .int .i64 0, .int .i64 0, .int .i64 0, .int .i64 0] 100)).cell? ⟨w1.heap.size, 2, none⟩ = some (.int .i64 0) := (cell_of_row _ _ 2 _ _ _ hzx).trans rfl
  have d3 : (w2.alloc (.cells #[.int .i64 0, .int .i64 0, .int .i64 0, .int .i64 0, .int .i64 0, .int .i64 0] 100)).cell? ⟨w1.heap.size, 3, none⟩ = some (.int .i64 0) := (cell_of_row _ _ 3 _ _ _ hzx).trans rfl
  have d4 : (w2.alloc (.cells #[.int .i64 0, .int .i64 0, .int .i64 0, .int .i64 0, .int .i64 0, .int .i64 0] 100)).cell? ⟨w1.heap.size, 4, none⟩ = some (.int .i64 0) := (cell_of_row _ _ 4 _ _ _ hzx).trans rfl
  have d5 : (w2.alloc (.cells #[.int .i64 0, .int .i64 0, .int .i64 0, .int .i64 0, .int .i64 0, .int .i64 0] 100)).cell? ⟨w1.heap.size, 5, none⟩ = some (.int .i64 0) := (cell_of_row _ _ 5 _ _ _ hzx).trans rfl
  have H2 := Lib.hid (H1.out.1.trans hk2)
  clear hk hk2 hzx c0 c1 c2 c3 c4 c5
  go_wp2_with fail
  refine (HLV.out _).mono ?_
  rintro e wl ⟨rfl, hkl⟩
  have HL := Lib.hid (H2.out.trans hkl)
  clear hkl
  go_wp2
  go_ret
  exact ⟨rfl, HL.out⟩
set_option maxRecDepth 100000 in
theorem supernil_zero (s : SupV) (w : World) : Calls Try.prog 21 #[s.val, .bool true] w fun e w' => e = .returned (.bool true) ∧ Keep [] w w' := by
  have HLV := Lib.hid lives11_any
  have r0 : ∀ w : World, (binOp .eql 100 (.agg #[.int .i64 0, .int .i64 0, .int .i64 0, .int .i64 0, .int .i64 0, .int .i64 0]) (.agg #[.int .i64 0, .int .i64 0, .int .i64 0, .int .i64 0, .int .i64 0, .int .i64 0])).run Try.prog w = .ok (.bool true) w := fun w => by rw [eql100]; rfl
  have HU : Hid (Unmade (some ⟨w.heap.size + 1, 0, none⟩) ((w.alloc s.obj).alloc (.cells zeroHd 90))) := Lib.hid (.inr ⟨_, rfl, heap_at _ _ _ (by simp)⟩)
  have HK0 : Hid (Keep [] w ((w.alloc s.obj).alloc (.cells zeroHd 90)) ∧ ((w.alloc s.obj).alloc (.cells zeroHd 90)).heap[w.heap.size]? = some s.obj) := Lib.hid ⟨((Keep.refl _ _).alloc _).alloc _, past (heap_alloc_new w _)⟩
  obtain ⟨s0, s1, s2, s3, s4, s5⟩ := s
  have HF := Lib.hid (find_un HU.out)
  unfold SupV.val SupV.obj sup0 at *
  dsimp only at *
  go_enter Try.func21, Try.ntmps21
  go_wp2_with fail
  refine HF.out.mono ?_
  rintro e w1 ⟨rfl, hk⟩
  have hk2 := hk.alloc (.cells #[.int .i64 0, .int .i64 0, .int .i64 0, .int .i64 0, .int .i64 0, .int .i64 0] 100)
  have hbx := hk2.heap HK0.out.2 (by simp)
  have hzx : (w1.alloc (.cells #[.int .i64 0, .int .i64 0, .int .i64 0, .int .i64 0, .int .i64 0, .int .i64 0] 100)).heap[w1.heap.size]? = some (.cells #[.int .i64 0, .int .i64 0, .int .i64 0, .int .i64 0, .int .i64 0, .int .i64 0] 100) := heap_alloc_new w1 _
  have c0 : (w1.alloc (.cells #[.int .i64 0, .int .i64 0, .int .i64 0, .int .i64 0, .int .i64 0, .int .i64 0] 100)).cell? ⟨w.heap.size, 0, none⟩ = some (.int .i64 s0) := (cell_of_row _ _ 0 _ _ _ hbx).trans rfl
  have c1 : (w1.alloc (.cells #[.int .i64 0, .int .i64 0, .int .i64 0, .int .i64 0, .int .i64 0, .int .i64 0] 100)).cell? ⟨w.heap.size, 1, none⟩ = some (.int .i64 s1) := (cell_of_row _ _ 1 _ _ _ hbx).trans rfl
  have c2 : (w1.alloc (.cells #[.int .i64 0, .int .i64 0, .int .i64 0, .int .i64 0, .int .i64 0, .int .i64 0] 100)).cell? ⟨w.heap.size, 2, none⟩ = some (.int .i64 s2) := (cell_of_row _ _ 2 _ _ _ hbx).trans rfl
  have c3 : (w1.alloc (.cells #[.int .i64 0, .int .i64 0, .int .i64 0, .int .i64 0, .int .i64 0, .int .i64 0] 100)).cell? ⟨w.heap.size, 3, none⟩ = some (.int .i64 s3) := (cell_of_row _ _ 3 _ _ _ hbx).trans rfl
  have c4 : (w1.alloc (.cells #[.int .i64 0, .int .i64 0, .int .i64 0, .int .i64 0, .int .i64 0, .int .i64 0] 100)).cell? ⟨w.heap.size, 4, none⟩ = some (.int .i64 s4) := (cell_of_row _ _ 4 _ _ _ hbx).trans rfl
  have c5 : (w1.alloc (.cells #[.int .i64 0, .int .i64 0, .int .i64 0, .int .i64 0, .int .i64 0, .int .i64 0] 100)).cell? ⟨w.heap.size, 5, none⟩ = some (.int .i64 s5) := (cell_of_row _ _ 5 _ _ _ hbx).trans rfl
  have H1 := Lib.hid (And.intro (HK0.out.1.trans hk2) (And.intro (HU.out.keep hk2) hzx))
  clear hk hk2 hbx hzx HF
  go_wp2_with fail
  refine (save_un H1.out.2.1 ⟨s0, s1, s2, s3, s4, s5⟩).mono ?_
  rintro e w2 ⟨rfl, hk⟩
  unfold SupV.val sup0
  dsimp only
  have hk2 := hk.alloc (.cells #[.int .i64 0, .int .i64 0, .int .i64 0, .int .i64 0, .int .i64 0, .int .i64 0] 100)
  have hzx := hk2.heap H1.out.2.2 (by simp)
  have d0 : (w2.alloc (.cells #[.int .i64 0, .int .i64 0, .int .i64 0, .int .i64 0, .int .i64 0, .int .i64 0] 100)).cell? ⟨w1.heap.size, 0, none⟩ = some (.int .i64 0) := (cell_of_row _ _ 0 _ _ _ hzx).trans rfl
  have d1 : (w2.alloc (.cells #[.int .i64 0, .int .i64 0, .int .i64 0, .int .i64 0, .int .i64 0, .int .i64 0] 100)).cell? ⟨w1.heap.size, 1, none⟩ = some (.int .i64 0) := (cell_of_row _ _ 1 _ _ _ hzx).trans rfl
  have d2 : (w2.alloc (.cells #[.int .i64 0, .int .i64 0, .int .i64 0, .int .i64 0, .int .i64 0, .int .i64 0] 100)).cell? ⟨w1.heap.size, 2, none⟩ = some (.int .i64 0) := (cell_of_row _ _ 2 _ _ _ hzx).trans rfl
  have d3 : (w2.alloc (.cells #[.int .i64 0, .int .i64 0, .int .i64 0, .int .i64 0, .int .i64 0, .int .i64 0] 100)).cell? ⟨w1.heap.size, 3, none⟩ = some (.int .i64 0) := (cell_of_row _ _ 3 _ _ _ hzx).trans rfl
  have d4 : (w2.alloc (.cells #[.int .i64 0, .int .i64 0, .int .i64 0, .int .i64 0, .int .i64 0, .int .i64 0] 100)).cell? ⟨w1.heap.size, 4, none⟩ = some (.int .i64 0) := (cell_of_row _ _ 4 _ _ _ hzx).trans rfl
  have d5 : (w2.alloc (.cells #[.int .i64 0, .int .i64 0, .int .i64 0, .int .i64 0, .int .i64 0, .int .i64 0] 100)).cell? ⟨w1.heap.size, 5, none⟩ = some (.int .i64 0) := (cell_of_row _ _ 5 _ _ _ hzx).trans rfl
  have H2 := Lib.hid (H1.out.1.trans hk2)
  clear hk hk2 hzx c0 c1 c2 c3 c4 c5
  go_wp2_with fail
  refine (HLV.out _).mono ?_
  rintro e wl ⟨rfl, hkl⟩
  have HL := Lib.hid (H2.out.trans hkl)
  clear hkl
  go_wp2
  go_ret
  exact ⟨rfl, HL.out⟩
theorem supernil_any (s : SupV) (b : Bool) (w : World) : Calls Try.prog 21 #[s.val, .bool b] w fun e w' => e = .returned (.bool true) ∧ Keep [] w w' := by
  cases b
  · exact supernil_none s w
  · exact supernil_zero s w
end Go.Proofs.Ytkhggpopohkjfaa
