/- slot.Read, its end: from the second reader on. -/
import Derived.Test.YtkhggpopohkjfaaReadAid
import Derived.Test.YtkhggpopohkjfaaRel
import Derived.Deep.RegionHeld3
namespace Go.Proofs.Ytkhggpopohkjfaa
open Go.RowKit Go.Proofs Go.Lib
set_option linter.unusedSectionVars false
set_option linter.unusedVariables false
set_option linter.unusedSimpArgs false

def bx41 (s : SlotV) : Obj := .cells #[.int .i64 s.epoch, .int .i64 s.seq, .bool s.first, .bool s.last, .string s.data] 41

set_option maxRecDepth 100000 in
set_option maxHeartbeats 4000000 in
theorem read_first (r o cap : Nat) (s : ByteArray) (w : World) (hn : s.size = 128) (hc : Str8 w r o s) (h0 : numAt s 0 1 ≠ 83) :
    Calls Try.prog 59 #[.slice (some ⟨r, o, none⟩) 128 cap] w fun e w' => e = .returned (.tuple #[zero0.val, .int .i64 4]) ∧ Keep [] w w' := by
  rw [numAt_one s 0 (by omega)] at h0
  have c0 := hc 0 (by omega)
  rw [Nat.add_zero] at c0
  obtain ⟨b0, hb0⟩ : ∃ b : Nat, (s[0]'(by omega)).toNat = b := ⟨_, rfl⟩
  have hbb : b0 < 256 := by have := (s[0]'(by omega)).toNat_lt; omega
  rw [hb0] at c0 h0
  have h1 : ¬ ((b0 : Int) = 83) := by omega
  have hrl : r < w.heap.size := by
    rcases Nat.lt_or_ge r w.heap.size with h | h
    · exact h
    · rw [World.cell?] at c0
      simp [Array.getElem?_eq_none h] at c0
  unfold zero0 SlotV.val
  clear h0 hb0 hc
  go_enter Try.func59, Try.ntmps59
  go_wp2
  refine bodyPost_ret (v := .tuple #[.agg #[.int .i64 0, .int .i64 0, .bool false, .bool false, .string ByteArray.empty], .int .i64 4]) ?_ rfl ⟨rfl, (Keep.refl _ _).alloc _⟩
  rw [results_cell_tmp rfl]
  go_simp
  rfl

theorem Keep.setRow {S : List Nat} {w w1 : World} (h : Keep S w w1) {r : Nat} (cs : Array Value) (hr : r ∈ S ∨ w.heap.size ≤ r) : Keep S w (w1.setRow r cs) :=
  ⟨h.os, h.tape, h.output, Nat.le_trans h.size (by simp), fun i hi hn => (setRow_other w1 r i cs (fun e => by subst e; rcases hr with h1 | h1; exact hn h1; omega)).trans (h.block i hi hn)⟩
theorem size41 : (Try.prog.info? 41).map (·.size) = some 5 := by kernel_rfl

/-- Where slot.Read ends: the box holds what it held, or was told so. -/
theorem read_end {w wx : World} {tm : Array Value} {sv : SlotV} {x : Int} {R : Ending → World → Prop} (h0 : tm.getD 2 undef = .pointer (some ⟨w.heap.size, 0, none⟩)) (h1 : tm.getD 3 undef = .int .i64 x)
    (hb : wx.heap[w.heap.size]? = some (bx41 sv)) (hR : R (.returned (.tuple #[sv.val, .int .i64 x])) wx) : bodyPost Try.prog Try.f59 R .ret ⟨tm, []⟩ wx := by
  refine bodyPost_ret (v := .tuple #[sv.val, .int .i64 x]) ?_ rfl hR
  rw [results_cell_tmp rfl]
  have hl := run_loadVar_row (P := Try.prog) wx w.heap.size 41 41 _ (0, 0) _ hb Try.underlying41 rfl size41
  show ((asAddr (tm.getD 2 undef)).run Try.prog wx).andThen _ = _
  rw [h0, h1]
  simp only [asAddr, Sem.run_pure, Result.andThen_ok, hl]
  rfl

def set5 (w : World) (g : Nat) (a b c d e : Value) : World := ((((w.setCell ⟨g, 0, none⟩ a).setCell ⟨g, 1, none⟩ b).setCell ⟨g, 2, none⟩ c).setCell ⟨g, 3, none⟩ d).setCell ⟨g, 4, none⟩ e
theorem heap_set5 {w : World} {g : Nat} {x0 x1 x2 x3 x4 : Value} (h : w.heap[g]? = some (.cells #[x0, x1, x2, x3, x4] 41)) (a b c d e : Value) : (set5 w g a b c d e).heap[g]? = some (.cells #[a, b, c, d, e] 41) :=
  heap_setCell_same _ g 4 _ 41 e (heap_setCell_same _ g 3 _ 41 d (heap_setCell_same _ g 2 _ 41 c (heap_setCell_same _ g 1 _ 41 b (heap_setCell_same _ g 0 _ 41 a h))))
theorem Keep.set5 {S : List Nat} {w w1 : World} (h : Keep S w w1) {g : Nat} (hg : g ∈ S ∨ w.heap.size ≤ g) (a b c d e : Value) : Keep S w (set5 w1 g a b c d e) :=
  ((((h.setCell hg a).setCell hg b).setCell hg c).setCell hg d).setCell hg e
theorem readBad {s : ByteArray} {x : Value} (h : readOk s = false) (hx : x = .tuple #[zero0.val, .int .i64 4]) : x = .tuple #[(readS s).val, .int .i64 (readE s)] := by
  rw [hx]
  simp [readS, readE, h]

/-- While a reader reads: the bytes, a box of ours, the reader, its row. -/
structure Rdg (s s1 : ByteArray) (r o B g r1 cap1 n1 : Nat) (obj : Obj) (p : Nat) (w : World) : Prop where
  src : Str8 w r o s
  box : w.heap[B]? = some obj
  rd : w.heap[g]? = some (rdr (.slice (some ⟨r1, 0, none⟩) n1 cap1) (p : Int))
  row : ∀ i (h : i < s1.size), w.cell? ⟨r1, i, none⟩ = some (.int .u8 (s1[i]'h).toNat)
theorem Rdg.step {s s1 : ByteArray} {r o B g r1 cap1 n1 : Nat} {obj : Obj} {p k : Nat} {w w' : World} (h : Rdg s s1 r o B g r1 cap1 n1 obj p w) (h1 : r ≠ g) (h2 : B ≠ g) (h3 : r1 ≠ g)
    (hr : w'.heap[g]? = some (rdr (.slice (some ⟨r1, 0, none⟩) n1 cap1) ((p + k : Nat) : Int))) (hk : Keep [g] w w') : Rdg s s1 r o B g r1 cap1 n1 obj (p + k) w' :=
  ⟨h.src.keep hk (by simpa using h1), hk.heap h.box (by simpa using h2), hr, fun i hi => hk.cell (h.row i hi) (by simpa using h3)⟩
theorem Rdg.alloc {s s1 : ByteArray} {r o B g r1 cap1 n1 : Nat} {obj : Obj} {p : Nat} {w : World} (h : Rdg s s1 r o B g r1 cap1 n1 obj p w) (x : Obj) : Rdg s s1 r o B g r1 cap1 n1 obj p (w.alloc x) :=
  have hk : Keep [] w (w.alloc x) := (Keep.refl _ _).alloc x
  ⟨h.src.keep hk (by simp), hk.heap h.box (by simp), hk.heap h.rd (by simp), fun i hi => hk.cell (h.row i hi) (by simp)⟩
theorem bit1 (F : Nat) (h : F < 256) : (bits .and .i64 (F : Int) 1 != 0) = decide (F % 2 = 1) := by
  have : ∀ F : Fin 256, (bits .and .i64 ((F : Nat) : Int) 1 != 0) = decide ((F : Nat) % 2 = 1) := by decide +kernel
  exact this ⟨F, h⟩
theorem bit2 (F : Nat) (h : F < 256) : (bits .and .i64 (F : Int) 2 != 0) = decide (F / 2 % 2 = 1) := by
  have : ∀ F : Fin 256, (bits .and .i64 ((F : Nat) : Int) 2 != 0) = decide ((F : Nat) / 2 % 2 = 1) := by decide +kernel
  exact this ⟨F, h⟩

def headOf : Code → Code
  | .seq a _ => a
  | c => c
def tailOf : Nat → Code → Code
  | n + 1, .seq _ b => tailOf n b
  | _, c => c

/-- A frame of 94 slots, written out. -/
theorem tmps94 (tm : Array Value) (h : tm.size = 94) : tm = ([0, 1, 2, 3, 4, 5, 6, 7, 8, 9, 10, 11, 12, 13, 14, 15, 16, 17, 18, 19, 20, 21, 22, 23, 24, 25, 26, 27, 28, 29, 30, 31, 32, 33, 34, 35, 36, 37, 38, 39, 40, 41, 42, 43, 44, 45, 46, 47, 48, 49, 50, 51, 52, 53, 54, 55, 56, 57, 58, 59, 60, 61, 62, 63, 64, 65, 66, 67, 68, 69, 70, 71, 72, 73, 74, 75, 76, 77, 78, 79, 80, 81, 82, 83, 84, 85, 86, 87, 88, 89, 90, 91, 92, 93].map fun t => tm.getD t undef).toArray := tmps_out tm 94 h

set_option maxRecDepth 100000 in
set_option maxHeartbeats 8000000 in
theorem read_tail (r o cap E N F S0 : Nat) (Q : Int) (B1 B2 : Bool) (D s : ByteArray) (w w6 : World) (tm : Array Value) (hsz : tm.size = 94)
    (t0 : tm.getD 0 undef = .slice (some ⟨r, o, none⟩) 128 cap) (t2 : tm.getD 2 undef = .pointer (some ⟨w.heap.size, 0, none⟩)) (t3 : tm.getD 3 undef = .int .i64 0) (t6 : tm.getD 6 undef = .pointer (some ⟨S0, 0, none⟩)) (t8 : tm.getD 8 undef = .int .i64 16)
    (hn : s.size = 128) (hcap : 128 ≤ cap) (hcap2 : cap ≤ 9223372036854775807) (hrl : r < w.heap.size) (hDs : D.size = N) (hN1 : N ≤ 108) (hF3 : F ≤ 3) (hsB : w.heap.size < S0)
    (H0 : Hid (numAt s 0 1 = 83)) (HEQ : Hid (numAt s 1 1 = F ∧ numAt s 2 4 = E ∧ numAt s 14 2 = N)) (HQ : Hid (wrap64 (numAt s 6 8 : Nat) = Q)) (HB : Hid (decide (F % 2 = 1) = B1 ∧ decide (F / 2 % 2 = 1) = B2)) (HD : Hid (s.extract 16 (16 + N) = D)) (HNG : Hid (noughts s (16 + N) 124 = true))
    (hB6 : w6.heap[w.heap.size]? = some (bx41 zero0)) (hS6 : w6.heap[S0]? = some (bx41 ⟨E, Q, B1, B2, D⟩)) (S6 : Str8 w6 r o s) (K6 : Keep [] w w6) :
    Code.wp Try.prog (headOf (tailOf 10 (Try.f59.body.getD .skip))) (Exit.then (Code.wp Try.prog (tailOf 11 (Try.f59.body.getD .skip)) (bodyPost Try.prog Try.f59 fun e w' => e = .returned (.tuple #[(readS s).val, .int .i64 (readE s)]) ∧ Keep [] w w')) (bodyPost Try.prog Try.f59 fun e w' => e = .returned (.tuple #[(readS s).val, .int .i64 (readE s)]) ∧ Keep [] w w')) ⟨tm, []⟩ w6 := by
  have hnr2 := newrd_any r (o + 124) 4 (cap - 124) (s.extract 124 128) w6 (by simp [hn]) (by decide) (by decide) (S6.extract 124 128 (by omega))
  have HNR2 := Lib.hid hnr2
  clear hnr2
  have ht := tmps94 tm hsz
  simp only [List.map, t0, t2, t3, t6, t8] at ht
  rw [ht]
  clear ht t0 t2 t3 t6 t8
  simp only [Try.f59, Option.getD_some, tailOf, headOf]
  have hc124 : ¬ cap = 124 := by omega
  obtain ⟨T, hT, hT2⟩ : ∃ T, numAt s 124 4 = T ∧ T < 4294967296 := ⟨_, rfl, numAt_lt s 124 4 (by omega)⟩
  have eT4 : wrap64 ((beNum (bytesAt (s.extract 124 128) 0 4) : Nat) : Int) = T := by
    rw [show beNum (bytesAt (s.extract 124 128) 0 4) = T from by rw [← hT]; exact numAt_extract s 124 128 0 4 (by decide) (by omega)]
    exact IntWalk.wrap64_in _ (by omega)
  obtain ⟨C, hC⟩ : ∃ C, crcOf (s.extract 0 124) = C := ⟨_, rfl⟩
  have eC : (crcGo 4294967295 (s.extract 0 124).data.toList ^^^ 4294967295) = C := hC
  have HTC := Lib.hid (And.intro hT hC)
  clear hT hC
  go_wp2_with fail
  refine HNR2.out.mono ?_
  rintro e w7 ⟨g2, r2, cap2, rfl, hg2, hr2, hgr2, hcc2, hcm2, hh2, hs2, hk7⟩
  have hlB := heap_lt hB6
  have hlS := heap_lt hS6
  have hlr : r < w6.heap.size := by have := K6.size; omega
  have hB7 := hk7.heap hB6 (by simp)
  have hS7 := hk7.heap hS6 (by simp)
  have S7 := S6.keep hk7 (by simp)
  have K7 := K6.trans hk7
  have hrow2 : ∀ i (h : i < (s.extract 124 128).size), w7.cell? ⟨r2, i, none⟩ = some (.int .u8 ((s.extract 124 128)[i]'h).toNat) := fun i hi => by have := hs2 i hi; rwa [Nat.zero_add] at this
  have m0 := (cell_of_row _ _ 0 _ _ _ hS7).trans rfl
  have m1 := (cell_of_row _ _ 1 _ _ _ hS7).trans rfl
  have m2 := (cell_of_row _ _ 2 _ _ _ hS7).trans rfl
  have m3 := (cell_of_row _ _ 3 _ _ _ hS7).trans rfl
  have m4 := (cell_of_row _ _ 4 _ _ _ hS7).trans rfl
  have hdec : decS s = ⟨E, Q, B1, B2, D⟩ := by
    unfold decS
    rw [HEQ.out.1, HEQ.out.2.1, HEQ.out.2.2, HQ.out, HB.out.1, HB.out.2, HD.out]
  have HDEC := Lib.hid hdec
  clear hdec HNR2 hs2
  cases hok : okSlot ⟨E, Q, B1, B2, D⟩ with
  | false =>
    have HOK := Lib.hid hok
    clear hok
    have hbad : readOk s = false := by simp [readOk, HDEC.out, HOK.out]
    have HBAD := Lib.hid hbad
    clear hbad
    have hdm : D.size ≤ 9223372036854775807 := by omega
    have C0 : ∀ n : Fam w7, n.at_.cell? ⟨S0, 0, none⟩ = some (.int .i64 E) := fun n => fam_box hS7 n 0 _ rfl
    have C1 : ∀ n : Fam w7, n.at_.cell? ⟨S0, 1, none⟩ = some (.int .i64 Q) := fun n => fam_box hS7 n 1 _ rfl
    have C2 : ∀ n : Fam w7, n.at_.cell? ⟨S0, 2, none⟩ = some (.bool B1) := fun n => fam_box hS7 n 2 _ rfl
    have C3 : ∀ n : Fam w7, n.at_.cell? ⟨S0, 3, none⟩ = some (.bool B2) := fun n => fam_box hS7 n 3 _ rfl
    have C4 : ∀ n : Fam w7, n.at_.cell? ⟨S0, 4, none⟩ = some (.string D) := fun n => fam_box hS7 n 4 _ rfl
    have hc1 : ∀ n : Fam w7, Calls Try.prog 31 #[.agg #[.int .i64 E, .int .i64 Q, .bool B1, .bool B2, .string D]] n.at_ fun e w'' => e = .returned (.int .i64 2) ∧ ∃ m : Fam w7, w'' = m.at_ := fun n =>
      calls_fam ((check_bad E Q B1 B2 D n.at_ hdm HOK.out).mono fun e w' ⟨he, hw⟩ => ⟨he, hw ▸ (Keep.refl _ _).alloc _⟩)
    go_wp2_with fail
    refine wp_region_fam (by kernel_rfl) (by kernel_rfl) ?_
    repeat (go_big_quiet_step (exact hc1 _))
    refine wpQuiet_nil ?_
    rintro _ ⟨nq, rfl⟩
    have hB8 := nq.keep.heap hB7 (by simp)
    have K8 := K7.trans nq.keep
    clear C0 C1 C2 C3 C4 hc1
    have c80 := (cell_of_row _ _ 0 _ _ _ hB8).trans rfl
    have c81 := (cell_of_row _ _ 1 _ _ _ hB8).trans rfl
    have c82 := (cell_of_row _ _ 2 _ _ _ hB8).trans rfl
    have c83 := (cell_of_row _ _ 3 _ _ _ hB8).trans rfl
    have c84 := (cell_of_row _ _ 4 _ _ _ hB8).trans rfl
    have f80 := frozen_of_row nq.at_ w.heap.size 0 _ _ hB8
    have f81 := frozen_of_row nq.at_ w.heap.size 1 _ _ hB8
    have f82 := frozen_of_row nq.at_ w.heap.size 2 _ _ hB8
    have f83 := frozen_of_row nq.at_ w.heap.size 3 _ _ hB8
    have f84 := frozen_of_row nq.at_ w.heap.size 4 _ _ hB8
    go_wp2
    exact read_end (sv := zero0) rfl rfl (heap_set5 hB8 (.int .i64 0) (.int .i64 0) (.bool false) (.bool false) (.string ByteArray.empty)) ⟨congrArg Ending.returned (readBad HBAD.out rfl), K8.set5 (.inr (Nat.le_refl _)) (.int .i64 0) (.int .i64 0) (.bool false) (.bool false) (.string ByteArray.empty)⟩
  | true =>
    have HOK := Lib.hid hok
    clear hok
    have hsum0 : ∀ wx : World, Str8 wx r o s → Calls Try.prog 83 #[.slice (some ⟨r, o, none⟩) 124 cap] wx fun e w' => e = .returned (.int .i64 C) ∧ Keep [] wx w' := fun wx hx => by
      have h := sum_any ⟨r, o, none⟩ 124 cap (s.extract 0 124).data.toList wx (by simp [hn]) (by decide) (fun i hi => (hx.extract 0 124 (by omega)).news i _ (by simp only [strCells, List.getElem?_map]; rw [List.getElem?_eq_getElem hi]; rfl))
      rw [eC] at h
      exact h
    have HSUM := Lib.hid hsum0
    clear hsum0
    have hcz : ¬ cap = 0 := by omega
    have hwA : IntKind.i64.wrap (16 + 108) = 124 := by rw [IntWalk.i64_left]; exact IntWalk.wrap64_in _ (by decide)
    have hwB : IntKind.i64.wrap 124 = 124 := by rw [IntWalk.i64_left]; exact IntWalk.wrap64_in _ (by decide)
    have hwC : wrap64 124 = 124 := IntWalk.wrap64_in _ (by decide)
    have hwD : wrap64 (16 + 108) = 124 := IntWalk.wrap64_in _ (by decide)
    have hcz2 : ¬ 0 = cap := by omega
    have h124 : 124 ≤ cap := by omega
    have h124i : (124 : Int) ≤ (cap : Int) := by omega
    have h124n : ¬ (cap < 124) := by omega
    go_wp2_with fail
    go_region_held3 (fun w' : World => w'.cell? ⟨S0, 0, none⟩ = some (.int .i64 E) ∧ w'.cell? ⟨S0, 1, none⟩ = some (.int .i64 Q) ∧ w'.cell? ⟨S0, 2, none⟩ = some (.bool B1) ∧ w'.cell? ⟨S0, 3, none⟩ = some (.bool B2) ∧ w'.cell? ⟨S0, 4, none⟩ = some (.string D)) (go_keep) (first
      | (go_at_call 31; refine (check_ok E Q B1 B2 D _ HOK.out).mono ?_; rintro e w8 ⟨rfl, hw8⟩; have hk8 : Keep [] w7 w8 := hw8 ▸ ((Keep.refl _ _).drew).alloc _; have hS8 := hk8.heap hS7 (by simp); have x80 := (cell_of_row _ _ 0 _ _ _ hS8).trans rfl; have x81 := (cell_of_row _ _ 1 _ _ _ hS8).trans rfl; have x82 := (cell_of_row _ _ 2 _ _ _ hS8).trans rfl; have x83 := (cell_of_row _ _ 3 _ _ _ hS8).trans rfl; have x84 := (cell_of_row _ _ 4 _ _ _ hS8).trans rfl)
      | (go_at_call 108; refine (ru32_any g2 r2 cap2 4 0 (s.extract 124 128) w8 (by simp [hn]) hcc2 hcm2 (by decide) (by decide) (hk8.heap hh2 (by simp)) (fun i hi => hk8.cell (hrow2 i hi) (by simp))).mono ?_; rintro e w9 ⟨rfl, hh9, hk9⟩; rw [eT4]; have hS9 := hk9.heap hS8 (by simp; omega); have x90 := (cell_of_row _ _ 0 _ _ _ hS9).trans rfl; have x91 := (cell_of_row _ _ 1 _ _ _ hS9).trans rfl; have x92 := (cell_of_row _ _ 2 _ _ _ hS9).trans rfl; have x93 := (cell_of_row _ _ 3 _ _ _ hS9).trans rfl; have x94 := (cell_of_row _ _ 4 _ _ _ hS9).trans rfl)
      | (go_at_call 83; refine (HSUM.out w9 ((S7.keep hk8 (by simp)).keep hk9 (by simp; omega))).mono ?_; rintro e w10 ⟨rfl, hk10⟩; have hS10 := hk10.heap hS9 (by simp); have x100 := (cell_of_row _ _ 0 _ _ _ hS10).trans rfl; have x101 := (cell_of_row _ _ 1 _ _ _ hS10).trans rfl; have x102 := (cell_of_row _ _ 2 _ _ _ hS10).trans rfl; have x103 := (cell_of_row _ _ 3 _ _ _ hS10).trans rfl; have x104 := (cell_of_row _ _ 4 _ _ _ hS10).trans rfl))
    rename_i hHeld
    have hB10 := hk10.heap (hk9.heap (hk8.heap hB7 (by simp)) (by simp; omega)) (by simp)
    have K10 : Keep [] w w10 := ((K7.trans hk8).trans' hk9 (by simp; omega)).trans hk10
    clear hHeld x80 x81 x82 x83 x84 x90 x91 x92 x93 x94 x100 x101 x102 x103 x104 m0 m1 m2 m3 m4 hS8 hS9 hh9 hk8 hk9 hk10 hw8 hrow2 hB7 hS7 S7 K7 hwA hwB hwC hwD hcz hcz2 h124 h124i h124n eT4 eC hB6 hS6 S6 K6 hh2 hk7 HSUM
    have c100 := (cell_of_row _ _ 0 _ _ _ hB10).trans rfl
    have f100 := frozen_of_row w10 w.heap.size 0 _ _ hB10
    have c101 := (cell_of_row _ _ 1 _ _ _ hB10).trans rfl
    have f101 := frozen_of_row w10 w.heap.size 1 _ _ hB10
    have c102 := (cell_of_row _ _ 2 _ _ _ hB10).trans rfl
    have f102 := frozen_of_row w10 w.heap.size 2 _ _ hB10
    have c103 := (cell_of_row _ _ 3 _ _ _ hB10).trans rfl
    have f103 := frozen_of_row w10 w.heap.size 3 _ _ hB10
    have c104 := (cell_of_row _ _ 4 _ _ _ hB10).trans rfl
    have f104 := frozen_of_row w10 w.heap.size 4 _ _ hB10
    by_cases hTC : T = C
    · have hgood : readOk s = true := by
        have a1 := HTC.out.1
        have a2 := HTC.out.2
        have a3 := HEQ.out.1
        have a4 := HEQ.out.2.2
        have a5 := HNG.out
        have a6 := H0.out
        simp [readOk, HDEC.out, HOK.out, a1, a2, a3, a4, a5, a6, hTC, hn, hN1, hF3]
      have HG := Lib.hid hgood
      clear hgood HTC HOK
      have d100 := (cell_of_row _ _ 0 _ _ _ hS10).trans rfl
      have d101 := (cell_of_row _ _ 1 _ _ _ hS10).trans rfl
      have d102 := (cell_of_row _ _ 2 _ _ _ hS10).trans rfl
      have d103 := (cell_of_row _ _ 3 _ _ _ hS10).trans rfl
      have d104 := (cell_of_row _ _ 4 _ _ _ hS10).trans rfl
      go_wp2
      exact read_end (sv := ⟨E, Q, B1, B2, D⟩) rfl rfl (heap_set5 hB10 (.int .i64 E) (.int .i64 Q) (.bool B1) (.bool B2) (.string D)) ⟨by simp only [readS, readE, HG.out, if_true, HDEC.out], K10.set5 (.inr (Nat.le_refl _)) (.int .i64 E) (.int .i64 Q) (.bool B1) (.bool B2) (.string D)⟩
    · have hbad : readOk s = false := by
        have a1 := HTC.out.1
        have a2 := HTC.out.2
        simp [readOk, a1, a2, hTC]
      have HBAD := Lib.hid hbad
      clear hbad HOK HDEC HTC hS10
      go_wp2
      exact read_end (sv := zero0) rfl rfl (heap_set5 hB10 (.int .i64 0) (.int .i64 0) (.bool false) (.bool false) (.string ByteArray.empty)) ⟨congrArg Ending.returned (readBad HBAD.out rfl), K10.set5 (.inr (Nat.le_refl _)) (.int .i64 0) (.int .i64 0) (.bool false) (.bool false) (.string ByteArray.empty)⟩
end Go.Proofs.Ytkhggpopohkjfaa
