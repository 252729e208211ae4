/- Disks among what is held; disks that nothing made; super.look, Find, Save. Premise: the disk is right. -/
import Derived.Test.YtkhggpopohkjfaaSt
import Derived.Test.YtkhggpopohkjfaaLives4
import Derived.Test.YtkhggpopohkjfaaSupRead
namespace Go.Proofs.Ytkhggpopohkjfaa
open Go.RowKit Go.Proofs Go.Lib
set_option linter.unusedVariables false
set_option linter.unusedSimpArgs false

/-- A block that is held. -/
def heldBox (b : Nat) (o : Obj) : Held where
  P := fun w => w.heap[b]? = some o
  B := [b]
  stable := fun w w' _ hb h => (hb b (by simp)).trans h

variable {w0 w w' : World} {g : Nat} {V V' : DiskV} {hs : List Held}
/-- What is new, is held: several at once. -/
theorem StH.holds (h : StH w0 w g V hs) (hk : Keep [] w w') (xs : List Held) (hx : ∀ x ∈ xs, x.P w' ∧ ∀ b ∈ x.B, w.heap.size ≤ b ∧ b < w'.heap.size) : StH w0 w' g V (xs ++ hs) := by
  have h' := h.keep0 hk
  obtain ⟨S, hD, hS, hB⟩ := h.ex
  refine ⟨⟨S, hD.keep0 hk, hS, fun y hy b hb2 => ?_⟩, h'.keep, fun y hy => ?_⟩
  · rcases List.mem_append.1 hy with hy | hy
    · intro hm
      have := hD.lt b hm
      have := ((hx y hy).2 b hb2).1
      omega
    · exact hB y hy b hb2
  · rcases List.mem_append.1 hy with hy | hy
    · exact ⟨(hx y hy).1, fun b hb2 => ((hx y hy).2 b hb2).2⟩
    · exact h'.held y hy
/-- A block that is held is turned, and let go. -/
theorem StH.poke {x : Held} {b : Nat} (h : StH w0 w g V (x :: hs)) (hk : Keep [b] w w') (hb : b ∈ x.B) (hd : ∀ y ∈ hs, ∀ c ∈ y.B, c ≠ b) (h0 : w0.heap.size ≤ b) : StH w0 w' g V hs := by
  obtain ⟨S, hD, hS, hB⟩ := h.ex
  have hbS : b ∉ S := hB x List.mem_cons_self b hb
  refine ⟨⟨S, hD.keep hk (fun k hk2 => by simp; rintro rfl; exact hbS hk2), hS, fun y hy => hB y (List.mem_cons_of_mem _ hy)⟩, h.keep.trans' hk (fun i hi => by simp at hi; subst hi; exact .inr h0), fun y hy => ?_⟩
  obtain ⟨hp, hl⟩ := h.held y (List.mem_cons_of_mem _ hy)
  refine ⟨y.stable w w' hk.size (fun k hk2 => hk.block k (hl k hk2) (by simp; exact hd y hy k hk2)) hp, fun c hc => ?_⟩
  have := hl c hc
  have := hk.size
  omega
/-- Only what is held counts. -/
theorem StH.sub {hs' : List Held} (h : StH w0 w g V hs) (hh : ∀ y ∈ hs', y ∈ hs) : StH w0 w g V hs' := by
  obtain ⟨S, hD, hS, hB⟩ := h.ex
  exact ⟨⟨S, hD, hS, fun y hy => hB y (hh y hy)⟩, h.keep, fun y hy => h.held y (hh y hy)⟩
end Go.Proofs.Ytkhggpopohkjfaa

namespace Go.Proofs.Ytkhggpopohkjfaa
open Go.RowKit Go.Proofs Go.Lib
set_option linter.unusedVariables false
set_option linter.unusedSimpArgs false

/-- No disk, or one that nothing made. -/
def Unmade (p : Option Addr) (w : World) : Prop := p = none ∨ ∃ g, p = some ⟨g, 0, none⟩ ∧ w.heap[g]? = some (.cells zeroHd 90)
theorem Unmade.keep {p : Option Addr} {w w' : World} (h : Unmade p w) (hk : Keep [] w w') : Unmade p w' := by
  rcases h with h | ⟨g, h1, h2⟩
  · exact .inl h
  · exact .inr ⟨g, h1, hk.heap h2 (by simp)⟩
theorem un_made {p : Option Addr} {w : World} (h : Unmade p w) : Calls Try.prog 86 #[.pointer p] w fun e w' => e = .returned (.bool false) ∧ w = w' := by
  rcases h with rfl | ⟨g, rfl, h⟩
  · exact made_nil w
  · exact made_zero h

variable {p : Option Addr} {w : World}
theorem un_may (h : Unmade p w) : Calls Try.prog 92 #[.pointer p] w fun e w' => e = .returned (.int .i64 1) ∧ w = w' := by
  have HM := Lib.hid (un_made h)
  clear h
  go_enter Try.func92, Try.ntmps92
  go_wp2_with fail
  refine HM.out.mono ?_
  rintro e w1 ⟨rfl, rfl⟩
  go_wp2
  go_ret
  exact ⟨rfl, rfl⟩
theorem un_within (h : Unmade p w) (i : Int) : Calls Try.prog 90 #[.pointer p, .int .i64 i] w fun e w' => e = .returned (.int .i64 1) ∧ w = w' := by
  have HM := Lib.hid (un_may h)
  clear h
  go_enter Try.func90, Try.ntmps90
  go_wp2_with fail
  refine HM.out.mono ?_
  rintro e w1 ⟨rfl, rfl⟩
  go_wp2
  go_ret
  exact ⟨rfl, rfl⟩
theorem un_read (h : Unmade p w) (i : Int) : Calls Try.prog 39 #[.pointer p, .int .i64 i] w fun e w' => e = .returned (.tuple #[.slice none 0 0, .int .i64 1]) ∧ Keep [] w w' := by
  have hk : Keep [] w (w.alloc (.cells #[.int .i64 i] 3)) := (Keep.refl _ _).alloc _
  have HM := Lib.hid (un_within (h.keep hk) i)
  have HK := Lib.hid hk
  clear h hk
  go_enter Try.func39, Try.ntmps39
  go_wp2_with fail
  refine HM.out.mono ?_
  rintro e w1 ⟨rfl, rfl⟩
  go_wp2
  go_ret2
  exact ⟨rfl, HK.out⟩
theorem un_write (h : Unmade p w) (i : Int) (A : Option Addr) (n c : Nat) : Calls Try.prog 35 #[.pointer p, .int .i64 i, .slice A n c] w fun e w' => e = .returned (.int .i64 1) ∧ w = w' := by
  have HM := Lib.hid (un_within h i)
  clear h
  go_enter Try.func35, Try.ntmps35
  go_wp2_with fail
  refine HM.out.mono ?_
  rintro e w1 ⟨rfl, rfl⟩
  go_wp2
  go_ret
  exact ⟨rfl, rfl⟩
theorem un_flush (h : Unmade p w) : Calls Try.prog 36 #[.pointer p] w fun e w' => e = .returned (.int .i64 1) ∧ w = w' := by
  have HM := Lib.hid (un_may h)
  clear h
  go_enter Try.func36, Try.ntmps36
  go_wp2_with fail
  refine HM.out.mono ?_
  rintro e w1 ⟨rfl, rfl⟩
  go_wp2
  go_ret
  exact ⟨rfl, rfl⟩
theorem un_arm (h : Unmade p w) (i : Int) : Calls Try.prog 38 #[.pointer p, .int .i64 i] w fun e w' => e = .returned (.int .i64 1) ∧ w = w' := by
  have HM := Lib.hid (un_may h)
  clear h
  go_enter Try.func38, Try.ntmps38
  go_wp2_with fail
  refine HM.out.mono ?_
  rintro e w1 ⟨rfl, rfl⟩
  go_wp2
  go_ret
  exact ⟨rfl, rfl⟩
theorem un_crash (h : Unmade p w) (A : Option Addr) (n c : Nat) : Calls Try.prog 34 #[.pointer p, .slice A n c] w fun e w' => e = .returned (.int .i64 1) ∧ Keep [] w w' := by
  have hk : Keep [] w (w.alloc (.cells #[.slice A n c] 32)) := (Keep.refl _ _).alloc _
  have HM := Lib.hid (un_made (h.keep hk))
  have HK := Lib.hid hk
  clear h hk
  go_enter Try.func34, Try.ntmps34
  go_wp2_with fail
  refine HM.out.mono ?_
  rintro e w1 ⟨rfl, rfl⟩
  go_wp2
  go_ret
  exact ⟨rfl, HK.out⟩
theorem un_size (h : Unmade p w) : Calls Try.prog 56 #[.pointer p] w fun e w' => e = .returned (.int .i64 0) ∧ w = w' := by
  have HM := Lib.hid (un_made h)
  clear h
  go_enter Try.func56, Try.ntmps56
  go_wp2_with fail
  refine HM.out.mono ?_
  rintro e w1 ⟨rfl, rfl⟩
  go_wp2
  go_ret
  exact ⟨rfl, rfl⟩
theorem un_pending (h : Unmade p w) : Calls Try.prog 49 #[.pointer p] w fun e w' => e = .returned (.int .i64 0) ∧ w = w' := by
  have HM := Lib.hid (un_made h)
  clear h
  go_enter Try.func49, Try.ntmps49
  go_wp2_with fail
  refine HM.out.mono ?_
  rintro e w1 ⟨rfl, rfl⟩
  go_wp2
  go_ret
  exact ⟨rfl, rfl⟩
theorem un_dead (h : Unmade p w) : Calls Try.prog 52 #[.pointer p] w fun e w' => e = .returned (.bool false) ∧ w = w' := by
  have HM := Lib.hid (un_made h)
  clear h
  go_enter Try.func52, Try.ntmps52
  go_wp2_with fail
  refine HM.out.mono ?_
  rintro e w1 ⟨rfl, rfl⟩
  go_wp2
  go_ret
  exact ⟨rfl, rfl⟩
theorem un_copy (h : Unmade p w) : Calls Try.prog 58 #[.pointer p] w fun e w' => e = .returned (.pointer none) ∧ w = w' := by
  have HM := Lib.hid (un_made h)
  clear h
  go_enter Try.func58, Try.ntmps58
  go_wp2_with fail
  refine HM.out.mono ?_
  rintro e w1 ⟨rfl, rfl⟩
  go_wp2
  go_ret
  exact ⟨rfl, rfl⟩

end Go.Proofs.Ytkhggpopohkjfaa

namespace Go.Proofs.Ytkhggpopohkjfaa
open Go.RowKit Go.Proofs Go.Lib
set_option linter.unusedVariables false
set_option linter.unusedSimpArgs false

/-- What look finds: a super, its sector, is there one? -/
def foundC (s : SupV) (i : Int) (b : Bool) : List Value := [.int .i64 s.gen, .int .i64 s.root, .int .i64 s.start, .int .i64 s.epoch, .int .i64 s.last, .int .i64 s.mark, .int .i64 i, .bool b]
def found0 : List Value := foundC sup0 0 false
theorem size168 : (Try.prog.info? 168).map (·.size) = some 8 := by kernel_rfl

theorem look_end {b : Nat} {wx : World} {tm : Array Value} {C : List Value} {x : Int} {R : Ending → World → Prop} (h0 : tm.getD 4 undef = .pointer (some ⟨b, 0, none⟩)) (h1 : tm.getD 5 undef = .int .i64 x)
    (hb : wx.heap[b]? = some (.cells C.toArray 168)) (hl : C.length = 8) (hR : R (.returned (.tuple #[.agg C.toArray, .int .i64 x])) wx) : bodyPost Try.prog Try.f117 R .ret ⟨tm, []⟩ wx := by
  refine bodyPost_ret (v := .tuple #[.agg C.toArray, .int .i64 x]) ?_ rfl hR
  rw [results_cell_tmp rfl]
  have hl := run_loadVar_row (P := Try.prog) wx b 168 168 C.toArray (0, 0) _ hb Try.underlying168 rfl (by rw [size168]; simp [hl])
  show ((asAddr (tm.getD 4 undef)).run Try.prog wx).andThen _ = _
  rw [h0, h1]
  simp only [asAddr, Sem.run_pure, Result.andThen_ok, hl]

set_option maxRecDepth 100000 in
theorem look_un {p : Option Addr} {w : World} (h : Unmade p w) (i : Int) : Calls Try.prog 117 #[.pointer p, .int .i64 i] w fun e w' => e = .returned (.tuple #[.agg found0.toArray, .int .i64 1]) ∧ Keep [] w w' := by
  have hk : Keep [] w (w.alloc (.cells found0.toArray 168)) := (Keep.refl _ _).alloc _
  have hb : (w.alloc (.cells found0.toArray 168)).heap[w.heap.size]? = some (.cells found0.toArray 168) := heap_alloc_new w _
  have HM := Lib.hid (un_read (h.keep hk) i)
  have HK := Lib.hid (And.intro hk hb)
  clear h hk hb
  go_enter Try.func117, Try.ntmps117
  go_wp2_with fail
  refine HM.out.mono ?_
  rintro e w1 ⟨rfl, hk1⟩
  have hb1 := hk1.heap HK.out.2 (by simp)
  have HB := Lib.hid (And.intro hb1 (HK.out.1.trans hk1))
  clear hb1 hk1
  go_wp2_with (refine wpList_store_at rfl 168 _ _ rfl w.heap.size 0 found0 (by simp [Act.eval, Act.put]) (by simp [Act.eval, Act.put, found0, foundC, sup0]) found0 168 HB.out.1 (by decide) size168 (by simp [found0, foundC, Value.oneCell']) ?_)
  refine look_end (b := w.heap.size) (C := found0) (x := 1) rfl rfl (setRow_same HB.out.1 _) rfl ?_
  exact ⟨rfl, HB.out.2.putRow _ (.inr (Nat.le_refl _))⟩

set_option maxRecDepth 100000 in
set_option maxHeartbeats 4000000 in
theorem look_any {w0 w : World} {g : Nat} {V : DiskV} {hs : List Held} (h : StH w0 w g V hs) (i : Int) : Calls Try.prog 117 #[.pointer (some ⟨g, 0, none⟩), .int .i64 i] w fun e w' =>
    e = .returned (.tuple #[.agg (if V.readE i = 0 then foundC (supS (V.readB i)) i (supOk (V.readB i)) else found0).toArray, .int .i64 (V.readE i)]) ∧ StH w0 w' g V hs ∧ Keep [] w w' := by
  have hk : Keep [] w (w.alloc (.cells found0.toArray 168)) := (Keep.refl _ _).alloc _
  have hb : (w.alloc (.cells found0.toArray 168)).heap[w.heap.size]? = some (.cells found0.toArray 168) := heap_alloc_new w _
  obtain ⟨S, hD, _⟩ := h.ex
  have HM := Lib.hid (dread_any i (hD.keep0 hk))
  have HK := Lib.hid (And.intro hk (And.intro hb h))
  obtain ⟨E, hE⟩ : ∃ E, V.readE i = E := ⟨_, rfl⟩
  have hm := HM.out
  unfold RdPost at hm
  rw [hE] at hm ⊢
  have HM2 := Lib.hid hm
  clear h hk hb hD HM hm hE
  by_cases he : E = 0
  · subst he
    rw [if_pos rfl]
    go_enter Try.func117, Try.ntmps117
    go_wp2_with fail
    refine HM2.out.mono ?_
    rintro e w1 ⟨hk1, A, n, cap, rfl, hby, hA⟩
    have hb1 := hk1.heap HK.out.2.1 (by simp)
    have HB := Lib.hid (And.intro hb1 (And.intro (HK.out.1.trans hk1) hby))
    clear hb1 hk1 hby hA
    go_wp2_with fail
    refine (supread_any A n cap _ w1 HB.out.2.2).mono ?_
    rintro e w2 ⟨rfl, hk2⟩
    have hb2 := hk2.heap HB.out.1 (by simp)
    have hk2w := HB.out.2.1.trans hk2
    obtain ⟨sv, hsv⟩ : ∃ sv, supS (V.readB i) = sv := ⟨_, rfl⟩
    obtain ⟨x, hx⟩ : ∃ x, supE (V.readB i) = x := ⟨_, rfl⟩
    have hxb : (x == 0) = supOk (V.readB i) := by rw [← hx]; unfold supE; cases supOk (V.readB i) <;> rfl
    rw [hsv, hx]
    have HX := Lib.hid (And.intro hsv hxb)
    have hb3 := ((Keep.refl [] w2).alloc sv.obj).heap hb2 (by simp)
    have hk3 := hk2w.alloc sv.obj
    have HB2 := Lib.hid (And.intro hb3 hk3)
    clear hb2 hk2 hk2w hsv hx hxb HB HM2 hb3 hk3
    obtain ⟨a0, a1, a2, a3, a4, a5⟩ := sv
    unfold SupV.val SupV.obj at *
    dsimp only at *
    go_wp2_with (refine wpList_store_at rfl 168 _ _ rfl w.heap.size 0 (foundC ⟨a0, a1, a2, a3, a4, a5⟩ i (x == 0)) (by simp [Act.eval, Act.put]) (by simp [Act.eval, Act.put, foundC]) found0 168 HB2.out.1 (by simp [foundC, found0]) size168 (by simp [foundC, Value.oneCell']) ?_)
    refine look_end (b := w.heap.size) (C := foundC ⟨a0, a1, a2, a3, a4, a5⟩ i (x == 0)) (x := 0) ?_ ?_ (setRow_same HB2.out.1 _) rfl ?_
    · rfl
    · rfl
    · have hkf : Keep [] w (((w2.alloc _).setRow w.heap.size (splice found0 0 (foundC ⟨a0, a1, a2, a3, a4, a5⟩ i (x == 0))).toArray)) := HB2.out.2.putRow _ (.inr (Nat.le_refl _))
      refine ⟨?_, HK.out.2.2.keep0 hkf, hkf⟩
      rw [HX.out.1, ← HX.out.2]
  · rw [if_neg he]
    go_enter Try.func117, Try.ntmps117
    go_wp2_with fail
    refine HM2.out.mono ?_
    rintro e w1 ⟨hk1, A, n, cap, rfl, hby, hA⟩
    have hb1 := hk1.heap HK.out.2.1 (by simp)
    have HB := Lib.hid (And.intro hb1 (HK.out.1.trans hk1))
    clear hb1 hk1 hby hA
    go_wp2_with (refine wpList_store_at rfl 168 _ _ rfl w.heap.size 0 found0 (by simp [Act.eval, Act.put]) (by simp [Act.eval, Act.put, found0, foundC, sup0]) found0 168 HB.out.1 (by decide) size168 (by simp [found0, foundC, Value.oneCell']) ?_)
    refine look_end (b := w.heap.size) (C := found0) (x := E) ?_ ?_ (setRow_same HB.out.1 _) rfl ?_
    · rfl
    · rfl
    · have hkf : Keep [] w (w1.setRow w.heap.size (splice found0 0 found0).toArray) := HB.out.2.putRow _ (.inr (Nat.le_refl _))
      exact ⟨rfl, HK.out.2.2.keep0 hkf, hkf⟩
end Go.Proofs.Ytkhggpopohkjfaa

namespace Go.Proofs.Ytkhggpopohkjfaa
open Go.RowKit Go.Proofs Go.Lib
set_option linter.unusedVariables false
set_option linter.unusedSimpArgs false

/-- What Find says of two sectors' bytes; of a disk. -/
def findB (a b : ByteArray) : SupV × Int × Int :=
  if supOk b && (!supOk a || decide ((supS a).gen < (supS b).gen)) then (supS b, 1, 0) else if supOk a then (supS a, 0, 0) else (sup0, 0, 4)
def findR (V : DiskV) : SupV × Int × Int :=
  if V.readE 0 ≠ 0 then (sup0, 0, V.readE 0) else if V.readE 1 ≠ 0 then (sup0, 0, V.readE 1) else findB (V.readB 0) (V.readB 1)

theorem results_cell_tmp2 {fn : Func} {p u t : Tmp} {ty : TypeId} (h : fn.results = #[.cell p ty, .tmp u, .tmp t]) (tmps : Array Value) (P : Program) (w : World) :
    (results fn tmps).run P w =
      ((asAddr (tmps.getD p undef)).run P w).andThen fun a w₁ => ((loadVar ty a).run P w₁).andThen fun v w₂ => .ok (.tuple #[v, tmps.getD u undef, tmps.getD t undef]) w₂ := by
  simp only [results, h]
  simp [Sem.run_bind, Result.andThen]
theorem find_end {b : Nat} {wx : World} {tm : Array Value} {sv : SupV} {x y : Int} {R : Ending → World → Prop} (h0 : tm.getD 2 undef = .pointer (some ⟨b, 0, none⟩)) (h1 : tm.getD 3 undef = .int .i64 x) (h2 : tm.getD 4 undef = .int .i64 y)
    (hb : wx.heap[b]? = some sv.obj) (hR : R (.returned (.tuple #[sv.val, .int .i64 x, .int .i64 y])) wx) : bodyPost Try.prog Try.f69 R .ret ⟨tm, []⟩ wx := by
  refine bodyPost_ret (v := .tuple #[sv.val, .int .i64 x, .int .i64 y]) ?_ rfl hR
  rw [results_cell_tmp2 rfl]
  have hl := run_loadVar_row (P := Try.prog) wx b 100 100 _ (0, 0) _ hb Try.underlying100 rfl size100
  show ((asAddr (tm.getD 2 undef)).run Try.prog wx).andThen _ = _
  rw [h0, h1, h2]
  simp only [asAddr, Sem.run_pure, Result.andThen_ok, hl]
  rfl

def set6 (w : World) (g : Nat) (a b c d e f : Value) : World := (((((w.setCell ⟨g, 0, none⟩ a).setCell ⟨g, 1, none⟩ b).setCell ⟨g, 2, none⟩ c).setCell ⟨g, 3, none⟩ d).setCell ⟨g, 4, none⟩ e).setCell ⟨g, 5, none⟩ f
theorem heap_set6 {w : World} {g : Nat} {x0 x1 x2 x3 x4 x5 : Value} (h : w.heap[g]? = some (.cells #[x0, x1, x2, x3, x4, x5] 100)) (a b c d e f : Value) : (set6 w g a b c d e f).heap[g]? = some (.cells #[a, b, c, d, e, f] 100) :=
  heap_setCell_same _ g 5 _ 100 f (heap_setCell_same _ g 4 _ 100 e (heap_setCell_same _ g 3 _ 100 d (heap_setCell_same _ g 2 _ 100 c (heap_setCell_same _ g 1 _ 100 b (heap_setCell_same w g 0 _ 100 a h)))))
theorem Keep.set6 {S : List Nat} {w w1 : World} (h : Keep S w w1) {g : Nat} (hg : g ∈ S ∨ w.heap.size ≤ g) (a b c d e f : Value) : Keep S w (set6 w1 g a b c d e f) :=
  (((((h.setCell (a := ⟨g, 0, none⟩) hg a).setCell (a := ⟨g, 1, none⟩) hg b).setCell (a := ⟨g, 2, none⟩) hg c).setCell (a := ⟨g, 3, none⟩) hg d).setCell (a := ⟨g, 4, none⟩) hg e).setCell (a := ⟨g, 5, none⟩) hg f

theorem drew_heap (w : World) : w.drew.heap = w.heap := rfl
theorem set6_facts {w wr : World} {b : Nat} (h : wr.heap[b]? = some sup0.obj) (hk : Keep [] w wr) (hb : w.heap.size ≤ b) (s : SupV) :
    (set6 wr b (.int .i64 s.gen) (.int .i64 s.root) (.int .i64 s.start) (.int .i64 s.epoch) (.int .i64 s.last) (.int .i64 s.mark)).drew.heap[b]? = some s.obj ∧
    Keep [] w (set6 wr b (.int .i64 s.gen) (.int .i64 s.root) (.int .i64 s.start) (.int .i64 s.epoch) (.int .i64 s.last) (.int .i64 s.mark)).drew := by
  have h1 := heap_set6 (w := wr) (g := b) (x0 := .int .i64 0) (x1 := .int .i64 0) (x2 := .int .i64 0) (x3 := .int .i64 0) (x4 := .int .i64 0) (x5 := .int .i64 0) h (.int .i64 s.gen) (.int .i64 s.root) (.int .i64 s.start) (.int .i64 s.epoch) (.int .i64 s.last) (.int .i64 s.mark)
  have h2 := hk.set6 (g := b) (.inr hb) (.int .i64 s.gen) (.int .i64 s.root) (.int .i64 s.start) (.int .i64 s.epoch) (.int .i64 s.last) (.int .i64 s.mark)
  generalize set6 wr b _ _ _ _ _ _ = X at *
  exact ⟨h1, h2.drew⟩

/-- The best of what was seen so far. -/
def bestC (s0 s1 : SupV) (b0 b1 : Bool) : Nat → List Value
  | 0 => found0
  | 1 => if b0 then foundC s0 0 true else found0
  | _ => if b1 && (!b0 || decide (s0.gen < s1.gen)) then foundC s1 1 true else if b0 then foundC s0 0 true else found0
theorem bestC_no (s0 s1 : SupV) (b0 : Bool) : bestC s0 s1 b0 false 1 = bestC s0 s1 b0 false 2 := by cases b0 <;> rfl
structure FindI (w : World) (C : List Value) (wr : World) : Prop where
  res : wr.heap[w.heap.size]? = some sup0.obj
  best : wr.heap[w.heap.size + 1]? = some (.cells C.toArray 168)
  keep : Keep [] w wr
theorem FindI.more {w : World} {C : List Value} {wr w' : World} (h : FindI w C wr) (hk : Keep [] wr w') : FindI w C w' :=
  ⟨hk.heap h.res (by simp), hk.heap h.best (by simp), h.keep.trans hk⟩
theorem FindI.set {w : World} {C D E : List Value} {wr : World} (h : FindI w C wr) (hl : D.length = C.length) (hE : D = E) : FindI w E (wr.setRow (w.heap.size + 1) (Ytkhggpopohkjfaa.splice C 0 D).toArray) := by
  subst hE
  rw [splice_all hl]
  exact ⟨(setRow_other _ _ _ _ (by omega)).trans h.res, setRow_same h.best _, h.keep.putRow _ (.inr (by omega))⟩

theorem FindI.row7 {w w2 : World} {C : List Value} {o : Obj} {cs : Array Value} {t : TypeId} (h : FindI w C w2) (ho : (w2.alloc o).heap[w2.heap.size]? = some (.cells cs t)) (D : List Value) : FindI w C ((w2.alloc o).setRow w2.heap.size D.toArray) := by
  have h1 := heap_lt h.res
  have h2 := heap_lt h.best
  exact ⟨(setRow_other _ _ _ _ (by omega)).trans (past h.res), (setRow_other _ _ _ _ (by omega)).trans (past h.best), (h.keep.alloc _).putRow _ (.inr (by omega))⟩
theorem foundC_facts (s : SupV) (i : Int) (b : Bool) : (foundC s i b).length = 8 ∧ (foundC s i b)[7]? = some (.bool b) ∧ (foundC s i b)[0]? = some (.int .i64 s.gen) ∧ (∀ v ∈ foundC s i b, v.oneCell' = true) := ⟨rfl, rfl, rfl, by simp [foundC, Value.oneCell']⟩
theorem cell_of_list {w : World} {b j : Nat} {D : List Value} {t : TypeId} {v : Value} (h : w.heap[b]? = some (.cells D.toArray t)) (hv : D[j]? = some v) : w.cell? ⟨b, j, none⟩ = some v := by
  rw [cell_of_row _ _ j _ _ _ h]
  simpa using hv

set_option maxRecDepth 100000 in
set_option maxHeartbeats 8000000 in
theorem find_any {w0 w : World} {g : Nat} {V : DiskV} {hs : List Held} (h : StH w0 w g V hs) :
    Calls Try.prog 69 #[.pointer (some ⟨g, 0, none⟩)] w fun e w' => e = .returned (.tuple #[(findR V).1.val, .int .i64 (findR V).2.1, .int .i64 (findR V).2.2]) ∧ Keep [] w w' := by
  have L0 : ∀ wr, StH w0 wr g V hs → Calls Try.prog 117 #[.pointer (some ⟨g, 0, none⟩), .int .i64 0] wr fun e w' => e = .returned (.tuple #[.agg (if V.readE 0 = 0 then foundC (supS (V.readB 0)) 0 (supOk (V.readB 0)) else found0).toArray, .int .i64 (V.readE 0)]) ∧ Keep [] wr w' := fun wr hh => (look_any hh 0).mono fun e w' hx => ⟨hx.1, hx.2.2⟩
  have L1 : ∀ wr, StH w0 wr g V hs → Calls Try.prog 117 #[.pointer (some ⟨g, 0, none⟩), .int .i64 1] wr fun e w' => e = .returned (.tuple #[.agg (if V.readE 1 = 0 then foundC (supS (V.readB 1)) 1 (supOk (V.readB 1)) else found0).toArray, .int .i64 (V.readE 1)]) ∧ Keep [] wr w' := fun wr hh => (look_any hh 1).mono fun e w' hx => ⟨hx.1, hx.2.2⟩
  have F0 : V.readE 0 ≠ 0 → findR V = (sup0, 0, V.readE 0) := fun hx => by unfold findR; rw [if_pos hx]
  have F1 : V.readE 0 = 0 → V.readE 1 ≠ 0 → findR V = (sup0, 0, V.readE 1) := fun hx hy => by unfold findR; rw [if_neg (by simp [hx]), if_pos hy]
  have F2 : V.readE 0 = 0 → V.readE 1 = 0 → findR V = findB (V.readB 0) (V.readB 1) := fun hx hy => by unfold findR; rw [if_neg (by simp [hx]), if_neg (by simp [hy])]
  unfold findB at F2
  generalize findR V = RR at *
  generalize supS (V.readB 0) = s0 at *
  generalize supS (V.readB 1) = s1 at *
  generalize supOk (V.readB 0) = b0 at *
  generalize supOk (V.readB 1) = b1 at *
  generalize V.readE 0 = e0 at *
  generalize V.readE 1 = e1 at *
  have hI0 : FindI w (bestC s0 s1 b0 b1 0) ((w.alloc sup0.obj).alloc (.cells found0.toArray 168)) := by
    refine ⟨past (heap_at _ _ _ rfl), heap_at _ _ _ (by simp), ((Keep.refl _ _).alloc _).alloc _⟩
  have HST := Lib.hid h
  have HI0 := Lib.hid hI0
  have HL0 := Lib.hid L0
  have HL1 := Lib.hid L1
  have HF := Lib.hid (And.intro F0 (And.intro F1 F2))
  clear hI0 L0 L1 F0 F1 F2 h
  go_enter Try.func69, Try.ntmps69
  go_wp2_with fail
  go_loopw [9] (fun i wr => ∃ k : Nat, k ≤ 2 ∧ i = .int .i64 k ∧ (1 ≤ k → e0 = 0) ∧ (2 ≤ k → e1 = 0) ∧ Hid (FindI w (bestC s0 s1 b0 b1 k) wr)) (fun i _ => 200 - (intOf i).toNat)
  case atStart => exact ⟨0, by omega, rfl, by omega, by omega, HI0⟩
  case round =>
    obtain ⟨k, hk, rfl, hE0, hE1, HS⟩ := hrel
    have HE := Lib.hid (And.intro hE0 hE1)
    clear HI0 hE0 hE1
    obtain rfl | rfl | rfl : k = 0 ∨ k = 1 ∨ k = 2 := by omega
    · go_wp2_with fail
      refine (HL0.out wr (HST.out.keep0 HS.out.keep)).mono ?_
      rintro e w2 ⟨rfl, hk2⟩
      have HS2 := Lib.hid (HS.out.more hk2)
      clear hk2 HS
      by_cases he : e0 = 0
      · subst he
        rw [if_pos rfl]
        have hfD := Lib.hid (foundC_facts s0 0 b0)
        have hDD : b0 = true → foundC s0 0 b0 = foundC s0 0 true := fun h => by rw [h]
        have HDD := Lib.hid hDD
        clear hDD
        generalize foundC s0 0 b0 = D at *
        obtain ⟨A0, hA0⟩ : ∃ A0, D.toArray = A0 := ⟨_, rfl⟩
        rw [hA0]
        have HA := Lib.hid hA0
        clear hA0
        obtain ⟨gx, hgx⟩ : ∃ gx, s0.gen = gx := ⟨_, rfl⟩
        rw [hgx] at hfD
        have HGX := Lib.hid hgx
        clear hgx
        cases b0 with
        | false =>
          go_wp2_with (first | ((with_reducible show wpList _ _ _ (⟨none, Op.store 168 (Operand.tmp 7) (Operand.tmp 16), _, _, _, _⟩ :: _) _ _); refine wpList_store_at rfl 168 _ _ rfl w2.heap.size 0 D rfl (by exact congrArg Value.agg HA.out.symm) _ 168 (heap_alloc_new w2 _) (by rw [hfD.out.1]; exact Nat.le_refl _) (by rw [hfD.out.1]; exact size168) hfD.out.2.2.2 ?_; dsimp only [Act.put]; rw [splice_all (by rw [hfD.out.1]; rfl)]; have hI3 := HS2.out.row7 (heap_alloc_new w2 (.cells #[.int .i64 0, .int .i64 0, .int .i64 0, .int .i64 0, .int .i64 0, .int .i64 0, .int .i64 0, .bool false] 168)) D; have hx3 := setRow_same (heap_alloc_new w2 (.cells #[.int .i64 0, .int .i64 0, .int .i64 0, .int .i64 0, .int .i64 0, .int .i64 0, .int .i64 0, .bool false] 168)) D.toArray; generalize World.setRow _ _ _ = W3 at hI3 hx3 ⊢; have c7x := cell_of_list hx3 hfD.out.2.1; have c0x := cell_of_list hx3 hfD.out.2.2.1; have H3 := Lib.hid (And.intro hI3 hx3); clear hI3 hx3))
          exact ⟨⟨1, by omega, by rfl, (by first | trivial | (intro _; first | rfl | exact HE.out.1 (by omega) | omega)), (by first | trivial | (intro _; first | rfl | exact HE.out.1 (by omega) | omega)), Lib.hid (H3.out.1)⟩, by simp [intOf]⟩
        | true =>
          go_wp2_with (first
            | ((with_reducible show wpList _ _ _ (⟨none, Op.store 168 (Operand.tmp 7) (Operand.tmp 16), _, _, _, _⟩ :: _) _ _); refine wpList_store_at rfl 168 _ _ rfl w2.heap.size 0 D rfl (by exact congrArg Value.agg HA.out.symm) _ 168 (heap_alloc_new w2 _) (by rw [hfD.out.1]; exact Nat.le_refl _) (by rw [hfD.out.1]; exact size168) hfD.out.2.2.2 ?_; dsimp only [Act.put]; rw [splice_all (by rw [hfD.out.1]; rfl)]; have hI3 := HS2.out.row7 (heap_alloc_new w2 (.cells #[.int .i64 0, .int .i64 0, .int .i64 0, .int .i64 0, .int .i64 0, .int .i64 0, .int .i64 0, .bool false] 168)) D; have hx3 := setRow_same (heap_alloc_new w2 (.cells #[.int .i64 0, .int .i64 0, .int .i64 0, .int .i64 0, .int .i64 0, .int .i64 0, .int .i64 0, .bool false] 168)) D.toArray; generalize World.setRow _ _ _ = W3 at hI3 hx3 ⊢; have c7x := cell_of_list hx3 hfD.out.2.1; have c0x := cell_of_list hx3 hfD.out.2.2.1; have c7b : W3.cell? ⟨w.heap.size + 1, 7, none⟩ = some (.bool false) := (cell_of_row _ _ 7 _ _ _ hI3.best).trans rfl; have hrx : W3.rangeAt w2.heap.size 0 D := range_of_row hx3 0 D (fun j u hu => by rw [Nat.zero_add]; exact hu); have H3 := Lib.hid (And.intro hI3 hx3); clear hI3 hx3)
            | ((with_reducible show wpList _ _ _ (⟨some 38, Op.load 168 (Operand.tmp 7), _, _, _, _⟩ :: _) _ _); refine wpList_load_mid rfl 168 _ rfl w2.heap.size 0 rfl D _ hrx Try.underlying168 rfl (by rw [hfD.out.1]; exact size168) ?_; simp only [Act.put, List.setIfInBounds_toArray, List.set])
            | ((with_reducible show wpList _ _ _ (⟨none, Op.store 168 (Operand.tmp 5) (Operand.tmp 38), _, _, _, _⟩ :: _) _ _); refine wpList_store_at rfl 168 _ _ rfl (w.heap.size + 1) 0 D rfl rfl (found0) 168 (by exact H3.out.1.best) (by rw [hfD.out.1]; exact Nat.le_refl _) (by rw [hfD.out.1]; exact size168) hfD.out.2.2.2 ?_; dsimp only [Act.put]))
          exact ⟨⟨1, by omega, by rfl, (by first | trivial | (intro _; first | rfl | exact HE.out.1 (by omega) | omega)), (by first | trivial | (intro _; first | rfl | exact HE.out.1 (by omega) | omega)), Lib.hid (H3.out.1.set (by rw [hfD.out.1]; rfl) (HDD.out (by simp)))⟩, by simp [intOf]⟩
      · have hRR : RR = (sup0, 0, e0) := HF.out.1 he
        subst hRR
        rw [if_neg he]
        rw [show found0.toArray = (#[.int .i64 0, .int .i64 0, .int .i64 0, .int .i64 0, .int .i64 0, .int .i64 0, .int .i64 0, .bool false] : Array Value) from rfl]
        have HB := Lib.hid (HS2.out.more ((Keep.refl _ _).alloc (.cells found0.toArray 168))).res
        clear HF HL0 HL1 HE
        go_wp2_with (first | ((with_reducible show wpList _ _ _ (⟨none, Op.store 100 (Operand.tmp 2) _, _, _, _, _⟩ :: _) _ _); refine wpList_store_at rfl 100 _ _ rfl w.heap.size 0 [.int .i64 0, .int .i64 0, .int .i64 0, .int .i64 0, .int .i64 0, .int .i64 0] rfl rfl [.int .i64 0, .int .i64 0, .int .i64 0, .int .i64 0, .int .i64 0, .int .i64 0] 100 HB.out (by decide) size100 (by simp [Value.oneCell']) ?_; dsimp only [Act.put]))
        refine find_end (b := w.heap.size) (sv := sup0) (x := 0) (y := e0) ?_ ?_ ?_ (setRow_same HB.out _) ?_
        · rfl
        · rfl
        · rfl
        · exact ⟨rfl, ((HS2.out.more ((Keep.refl _ _).alloc _)).keep).putRow _ (.inr (Nat.le_refl _))⟩
    · go_wp2_with fail
      refine (HL1.out wr (HST.out.keep0 HS.out.keep)).mono ?_
      rintro e w2 ⟨rfl, hk2⟩
      have HS2 := Lib.hid (HS.out.more hk2)
      clear hk2 HS
      by_cases he : e1 = 0
      · subst he
        rw [if_pos rfl]
        have hfD := Lib.hid (foundC_facts s1 1 b1)
        have hDD : b1 = true → foundC s1 1 b1 = foundC s1 1 true := fun h => by rw [h]
        have HDD := Lib.hid hDD
        clear hDD
        generalize foundC s1 1 b1 = D at *
        obtain ⟨A0, hA0⟩ : ∃ A0, D.toArray = A0 := ⟨_, rfl⟩
        rw [hA0]
        have HA := Lib.hid hA0
        clear hA0
        obtain ⟨gx, hgx⟩ : ∃ gx, s1.gen = gx := ⟨_, rfl⟩
        rw [hgx] at hfD
        have HGX := Lib.hid hgx
        clear hgx
        cases b1 with
        | false =>
          have HQ : Hid (bestC s0 s1 b0 false 1 = bestC s0 s1 b0 false 2) := Lib.hid (bestC_no s0 s1 b0)
          go_wp2_with (first | ((with_reducible show wpList _ _ _ (⟨none, Op.store 168 (Operand.tmp 7) (Operand.tmp 16), _, _, _, _⟩ :: _) _ _); refine wpList_store_at rfl 168 _ _ rfl w2.heap.size 0 D rfl (by exact congrArg Value.agg HA.out.symm) _ 168 (heap_alloc_new w2 _) (by rw [hfD.out.1]; exact Nat.le_refl _) (by rw [hfD.out.1]; exact size168) hfD.out.2.2.2 ?_; dsimp only [Act.put]; rw [splice_all (by rw [hfD.out.1]; rfl)]; have hI3 := HS2.out.row7 (heap_alloc_new w2 (.cells #[.int .i64 0, .int .i64 0, .int .i64 0, .int .i64 0, .int .i64 0, .int .i64 0, .int .i64 0, .bool false] 168)) D; have hx3 := setRow_same (heap_alloc_new w2 (.cells #[.int .i64 0, .int .i64 0, .int .i64 0, .int .i64 0, .int .i64 0, .int .i64 0, .int .i64 0, .bool false] 168)) D.toArray; generalize World.setRow _ _ _ = W3 at hI3 hx3 ⊢; have c7x := cell_of_list hx3 hfD.out.2.1; have c0x := cell_of_list hx3 hfD.out.2.2.1; have H3 := Lib.hid (And.intro hI3 hx3); clear hI3 hx3))
          exact ⟨⟨2, by omega, by rfl, (by first | trivial | (intro _; first | rfl | exact HE.out.1 (by omega) | omega)), (by first | trivial | (intro _; first | rfl | exact HE.out.1 (by omega) | omega)), Lib.hid (HQ.out ▸ H3.out.1)⟩, by simp [intOf]⟩
        | true =>
          cases b0 with
          | false =>
            go_wp2_with (first
              | ((with_reducible show wpList _ _ _ (⟨none, Op.store 168 (Operand.tmp 7) (Operand.tmp 16), _, _, _, _⟩ :: _) _ _); refine wpList_store_at rfl 168 _ _ rfl w2.heap.size 0 D rfl (by exact congrArg Value.agg HA.out.symm) _ 168 (heap_alloc_new w2 _) (by rw [hfD.out.1]; exact Nat.le_refl _) (by rw [hfD.out.1]; exact size168) hfD.out.2.2.2 ?_; dsimp only [Act.put]; rw [splice_all (by rw [hfD.out.1]; rfl)]; have hI3 := HS2.out.row7 (heap_alloc_new w2 (.cells #[.int .i64 0, .int .i64 0, .int .i64 0, .int .i64 0, .int .i64 0, .int .i64 0, .int .i64 0, .bool false] 168)) D; have hx3 := setRow_same (heap_alloc_new w2 (.cells #[.int .i64 0, .int .i64 0, .int .i64 0, .int .i64 0, .int .i64 0, .int .i64 0, .int .i64 0, .bool false] 168)) D.toArray; generalize World.setRow _ _ _ = W3 at hI3 hx3 ⊢; have c7x := cell_of_list hx3 hfD.out.2.1; have c0x := cell_of_list hx3 hfD.out.2.2.1; have c7b : W3.cell? ⟨w.heap.size + 1, 7, none⟩ = some (.bool false) := (cell_of_row _ _ 7 _ _ _ hI3.best).trans rfl; have hrx : W3.rangeAt w2.heap.size 0 D := range_of_row hx3 0 D (fun j u hu => by rw [Nat.zero_add]; exact hu); have H3 := Lib.hid (And.intro hI3 hx3); clear hI3 hx3)
              | ((with_reducible show wpList _ _ _ (⟨some 38, Op.load 168 (Operand.tmp 7), _, _, _, _⟩ :: _) _ _); refine wpList_load_mid rfl 168 _ rfl w2.heap.size 0 rfl D _ hrx Try.underlying168 rfl (by rw [hfD.out.1]; exact size168) ?_; simp only [Act.put, List.setIfInBounds_toArray, List.set])
              | ((with_reducible show wpList _ _ _ (⟨none, Op.store 168 (Operand.tmp 5) (Operand.tmp 38), _, _, _, _⟩ :: _) _ _); refine wpList_store_at rfl 168 _ _ rfl (w.heap.size + 1) 0 D rfl rfl (found0) 168 (by exact H3.out.1.best) (by rw [hfD.out.1]; exact Nat.le_refl _) (by rw [hfD.out.1]; exact size168) hfD.out.2.2.2 ?_; dsimp only [Act.put]))
            exact ⟨⟨2, by omega, by rfl, (by first | trivial | (intro _; first | rfl | exact HE.out.1 (by omega) | omega)), (by first | trivial | (intro _; first | rfl | exact HE.out.1 (by omega) | omega)), Lib.hid (H3.out.1.set (by rw [hfD.out.1]; rfl) (HDD.out (by simp)))⟩, by simp [intOf]⟩
          | true =>
            obtain ⟨gy, hgy⟩ : ∃ gy, s0.gen = gy := ⟨_, rfl⟩
            have HGY := Lib.hid hgy
            by_cases hg : gy < gx
            · have HQ : Hid (D = bestC s0 s1 true true 2) := Lib.hid (by rw [HDD.out (by simp)]; simp [bestC, hgy, HGX.out, hg])
              clear hgy
              go_wp2_with (first
                | ((with_reducible show wpList _ _ _ (⟨none, Op.store 168 (Operand.tmp 7) (Operand.tmp 16), _, _, _, _⟩ :: _) _ _); refine wpList_store_at rfl 168 _ _ rfl w2.heap.size 0 D rfl (by exact congrArg Value.agg HA.out.symm) _ 168 (heap_alloc_new w2 _) (by rw [hfD.out.1]; exact Nat.le_refl _) (by rw [hfD.out.1]; exact size168) hfD.out.2.2.2 ?_; dsimp only [Act.put]; rw [splice_all (by rw [hfD.out.1]; rfl)]; have hI3 := HS2.out.row7 (heap_alloc_new w2 (.cells #[.int .i64 0, .int .i64 0, .int .i64 0, .int .i64 0, .int .i64 0, .int .i64 0, .int .i64 0, .bool false] 168)) D; have hx3 := setRow_same (heap_alloc_new w2 (.cells #[.int .i64 0, .int .i64 0, .int .i64 0, .int .i64 0, .int .i64 0, .int .i64 0, .int .i64 0, .bool false] 168)) D.toArray; generalize World.setRow _ _ _ = W3 at hI3 hx3 ⊢; have c7x := cell_of_list hx3 hfD.out.2.1; have c0x := cell_of_list hx3 hfD.out.2.2.1; have c7b : W3.cell? ⟨w.heap.size + 1, 7, none⟩ = some (.bool true) := (cell_of_row _ _ 7 _ _ _ hI3.best).trans rfl; have c0b : W3.cell? ⟨w.heap.size + 1, 0, none⟩ = some (.int .i64 gy) := (cell_of_row _ _ 0 _ _ _ hI3.best).trans (congrArg (fun x => some (Value.int .i64 x)) HGY.out); have hrx : W3.rangeAt w2.heap.size 0 D := range_of_row hx3 0 D (fun j u hu => by rw [Nat.zero_add]; exact hu); have H3 := Lib.hid (And.intro hI3 hx3); clear hI3 hx3)
                | ((with_reducible show wpList _ _ _ (⟨some 38, Op.load 168 (Operand.tmp 7), _, _, _, _⟩ :: _) _ _); refine wpList_load_mid rfl 168 _ rfl w2.heap.size 0 rfl D _ hrx Try.underlying168 rfl (by rw [hfD.out.1]; exact size168) ?_; simp only [Act.put, List.setIfInBounds_toArray, List.set])
                | ((with_reducible show wpList _ _ _ (⟨none, Op.store 168 (Operand.tmp 5) (Operand.tmp 38), _, _, _, _⟩ :: _) _ _); refine wpList_store_at rfl 168 _ _ rfl (w.heap.size + 1) 0 D rfl rfl (foundC s0 0 true) 168 (by exact H3.out.1.best) (by rw [hfD.out.1]; exact Nat.le_refl _) (by rw [hfD.out.1]; exact size168) hfD.out.2.2.2 ?_; dsimp only [Act.put]))
              exact ⟨⟨2, by omega, by rfl, (by first | trivial | (intro _; first | rfl | exact HE.out.1 (by omega) | omega)), (by first | trivial | (intro _; first | rfl | exact HE.out.1 (by omega) | omega)), Lib.hid (H3.out.1.set (by rw [hfD.out.1]; rfl) (HQ.out))⟩, by simp [intOf]⟩
            · have HQ : Hid (bestC s0 s1 true true 1 = bestC s0 s1 true true 2) := Lib.hid (by simp [bestC, hgy, HGX.out, hg])
              clear hgy
              go_wp2_with (first | ((with_reducible show wpList _ _ _ (⟨none, Op.store 168 (Operand.tmp 7) (Operand.tmp 16), _, _, _, _⟩ :: _) _ _); refine wpList_store_at rfl 168 _ _ rfl w2.heap.size 0 D rfl (by exact congrArg Value.agg HA.out.symm) _ 168 (heap_alloc_new w2 _) (by rw [hfD.out.1]; exact Nat.le_refl _) (by rw [hfD.out.1]; exact size168) hfD.out.2.2.2 ?_; dsimp only [Act.put]; rw [splice_all (by rw [hfD.out.1]; rfl)]; have hI3 := HS2.out.row7 (heap_alloc_new w2 (.cells #[.int .i64 0, .int .i64 0, .int .i64 0, .int .i64 0, .int .i64 0, .int .i64 0, .int .i64 0, .bool false] 168)) D; have hx3 := setRow_same (heap_alloc_new w2 (.cells #[.int .i64 0, .int .i64 0, .int .i64 0, .int .i64 0, .int .i64 0, .int .i64 0, .int .i64 0, .bool false] 168)) D.toArray; generalize World.setRow _ _ _ = W3 at hI3 hx3 ⊢; have c7x := cell_of_list hx3 hfD.out.2.1; have c0x := cell_of_list hx3 hfD.out.2.2.1; have c7b : W3.cell? ⟨w.heap.size + 1, 7, none⟩ = some (.bool true) := (cell_of_row _ _ 7 _ _ _ hI3.best).trans rfl; have c0b : W3.cell? ⟨w.heap.size + 1, 0, none⟩ = some (.int .i64 gy) := (cell_of_row _ _ 0 _ _ _ hI3.best).trans (congrArg (fun x => some (Value.int .i64 x)) HGY.out); have H3 := Lib.hid (And.intro hI3 hx3); clear hI3 hx3))
              exact ⟨⟨2, by omega, by rfl, (by first | trivial | (intro _; first | rfl | exact HE.out.1 (by omega) | omega)), (by first | trivial | (intro _; first | rfl | exact HE.out.1 (by omega) | omega)), Lib.hid (HQ.out ▸ H3.out.1)⟩, by simp [intOf]⟩
      · have hRR : RR = (sup0, 0, e1) := HF.out.2.1 (HE.out.1 (by omega)) he
        subst hRR
        rw [if_neg he]
        rw [show found0.toArray = (#[.int .i64 0, .int .i64 0, .int .i64 0, .int .i64 0, .int .i64 0, .int .i64 0, .int .i64 0, .bool false] : Array Value) from rfl]
        have HB := Lib.hid (HS2.out.more ((Keep.refl _ _).alloc (.cells found0.toArray 168))).res
        clear HF HL0 HL1 HE
        go_wp2_with (first | ((with_reducible show wpList _ _ _ (⟨none, Op.store 100 (Operand.tmp 2) _, _, _, _, _⟩ :: _) _ _); refine wpList_store_at rfl 100 _ _ rfl w.heap.size 0 [.int .i64 0, .int .i64 0, .int .i64 0, .int .i64 0, .int .i64 0, .int .i64 0] rfl rfl [.int .i64 0, .int .i64 0, .int .i64 0, .int .i64 0, .int .i64 0, .int .i64 0] 100 HB.out (by decide) size100 (by simp [Value.oneCell']) ?_; dsimp only [Act.put]))
        refine find_end (b := w.heap.size) (sv := sup0) (x := 0) (y := e1) ?_ ?_ ?_ (setRow_same HB.out _) ?_
        · rfl
        · rfl
        · rfl
        · exact ⟨rfl, ((HS2.out.more ((Keep.refl _ _).alloc _)).keep).putRow _ (.inr (Nat.le_refl _))⟩
    · have hR := HF.out.2.2 (HE.out.1 (by omega)) (HE.out.2 (by omega))
      have hC : (∃ sv at_, RR = (sv, at_, 0) ∧ bestC s0 s1 b0 b1 2 = foundC sv at_ true) ∨ (RR = (sup0, 0, 4) ∧ bestC s0 s1 b0 b1 2 = found0) := by
        rw [hR]
        cases b0 <;> cases b1 <;> simp [bestC]
        · exact ⟨_, _, ⟨rfl, rfl⟩, rfl⟩
        · exact ⟨_, _, ⟨rfl, rfl⟩, rfl⟩
        · by_cases hg : s0.gen < s1.gen <;> simp [hg]
          · exact ⟨_, _, ⟨rfl, rfl⟩, rfl⟩
          · exact ⟨_, _, ⟨rfl, rfl⟩, rfl⟩
      have HI := HS.out
      clear hR HF HE HS
      rcases hC with ⟨sv, at_, rfl, hb⟩ | ⟨rfl, hb⟩
      · rw [hb] at HI
        obtain ⟨a0, a1, a2, a3, a4, a5⟩ := sv
        have HH := Lib.hid HI
        have c7 : World.cell? wr ⟨w.heap.size + 1, 7, none⟩ = some (.bool true) := (cell_of_row _ _ 7 _ _ _ HI.best).trans rfl
        have c6 : wr.cell? ⟨w.heap.size + 1, 6, none⟩ = some (.int .i64 at_) := (cell_of_row _ _ 6 _ _ _ HI.best).trans rfl
        have hrg : wr.rangeAt (w.heap.size + 1) 0 [.int .i64 a0, .int .i64 a1, .int .i64 a2, .int .i64 a3, .int .i64 a4, .int .i64 a5] := range_of_row HI.best 0 _ (fun j u hu => by
          rw [Nat.zero_add]
          have hj : j < 6 := (List.getElem?_eq_some_iff.1 hu).1
          unfold foundC
          match j, hj with
          | 0, _ => exact hu
          | 1, _ => exact hu
          | 2, _ => exact hu
          | 3, _ => exact hu
          | 4, _ => exact hu
          | 5, _ => exact hu)
        clear HI hb
        have HRES := Lib.hid HH.out.res
        have b0 : wr.cell? ⟨w.heap.size + 1, 0, none⟩ = some (.int .i64 a0) := (cell_of_row _ _ 0 _ _ _ HH.out.best).trans rfl
        have b1 : wr.cell? ⟨w.heap.size + 1, 1, none⟩ = some (.int .i64 a1) := (cell_of_row _ _ 1 _ _ _ HH.out.best).trans rfl
        have b2 : wr.cell? ⟨w.heap.size + 1, 2, none⟩ = some (.int .i64 a2) := (cell_of_row _ _ 2 _ _ _ HH.out.best).trans rfl
        have b3 : wr.cell? ⟨w.heap.size + 1, 3, none⟩ = some (.int .i64 a3) := (cell_of_row _ _ 3 _ _ _ HH.out.best).trans rfl
        have b4 : wr.cell? ⟨w.heap.size + 1, 4, none⟩ = some (.int .i64 a4) := (cell_of_row _ _ 4 _ _ _ HH.out.best).trans rfl
        have b5 : wr.cell? ⟨w.heap.size + 1, 5, none⟩ = some (.int .i64 a5) := (cell_of_row _ _ 5 _ _ _ HH.out.best).trans rfl
        have d0 : wr.cell? ⟨w.heap.size, 0, none⟩ = some (.int .i64 0) := (cell_of_row _ _ 0 _ _ _ HRES.out).trans rfl
        have f0 : wr.frozen? ⟨w.heap.size, 0, none⟩ = false := frozen_of_row wr w.heap.size 0 _ _ HRES.out
        have d1 : wr.cell? ⟨w.heap.size, 1, none⟩ = some (.int .i64 0) := (cell_of_row _ _ 1 _ _ _ HRES.out).trans rfl
        have f1 : wr.frozen? ⟨w.heap.size, 1, none⟩ = false := frozen_of_row wr w.heap.size 1 _ _ HRES.out
        have d2 : wr.cell? ⟨w.heap.size, 2, none⟩ = some (.int .i64 0) := (cell_of_row _ _ 2 _ _ _ HRES.out).trans rfl
        have f2 : wr.frozen? ⟨w.heap.size, 2, none⟩ = false := frozen_of_row wr w.heap.size 2 _ _ HRES.out
        have d3 : wr.cell? ⟨w.heap.size, 3, none⟩ = some (.int .i64 0) := (cell_of_row _ _ 3 _ _ _ HRES.out).trans rfl
        have f3 : wr.frozen? ⟨w.heap.size, 3, none⟩ = false := frozen_of_row wr w.heap.size 3 _ _ HRES.out
        have d4 : wr.cell? ⟨w.heap.size, 4, none⟩ = some (.int .i64 0) := (cell_of_row _ _ 4 _ _ _ HRES.out).trans rfl
        have f4 : wr.frozen? ⟨w.heap.size, 4, none⟩ = false := frozen_of_row wr w.heap.size 4 _ _ HRES.out
        have d5 : wr.cell? ⟨w.heap.size, 5, none⟩ = some (.int .i64 0) := (cell_of_row _ _ 5 _ _ _ HRES.out).trans rfl
        have f5 : wr.frozen? ⟨w.heap.size, 5, none⟩ = false := frozen_of_row wr w.heap.size 5 _ _ HRES.out
        clear hrg
        go_wp2_with fail
        have hs6 := set6_facts HRES.out HH.out.keep (Nat.le_refl _) ⟨a0, a1, a2, a3, a4, a5⟩
        unfold set6 at hs6
        dsimp only at hs6
        have H6 := Lib.hid hs6
        clear hs6
        go_region
        have H5 := H6
        clear H6
        generalize World.drew _ = W5 at H5 ⊢
        clear b0 b1 b2 b3 b4 b5 d0 d1 d2 d3 d4 d5 f0 f1 f2 f3 f4 f5 c6 c7 HRES HH
        go_wp2
        refine find_end (b := w.heap.size) (sv := ⟨a0, a1, a2, a3, a4, a5⟩) (x := at_) (y := 0) ?_ ?_ ?_ H5.out.1 ?_
        · rfl
        · rfl
        · rfl
        · exact ⟨rfl, H5.out.2⟩
      · rw [hb] at HI
        have HH := Lib.hid HI
        have c7 : World.cell? wr ⟨w.heap.size + 1, 7, none⟩ = some (.bool false) := (cell_of_row _ _ 7 _ _ _ HI.best).trans rfl
        clear HI hb
        go_wp2_with (first | ((with_reducible show wpList _ _ _ (⟨none, Op.store 100 (Operand.tmp 2) _, _, _, _, _⟩ :: _) _ _); refine wpList_store_at rfl 100 _ _ rfl w.heap.size 0 [.int .i64 0, .int .i64 0, .int .i64 0, .int .i64 0, .int .i64 0, .int .i64 0] rfl rfl [.int .i64 0, .int .i64 0, .int .i64 0, .int .i64 0, .int .i64 0, .int .i64 0] 100 HH.out.res (by decide) size100 (by simp [Value.oneCell']) ?_; dsimp only [Act.put]))
        refine find_end (b := w.heap.size) (sv := sup0) (x := 0) (y := 4) ?_ ?_ ?_ (setRow_same HH.out.res _) ?_
        · rfl
        · rfl
        · rfl
        · exact ⟨rfl, HH.out.keep.putRow _ (.inr (Nat.le_refl _))⟩
end Go.Proofs.Ytkhggpopohkjfaa

namespace Go.Proofs.Ytkhggpopohkjfaa
open Go.RowKit Go.Proofs Go.Lib
set_option linter.unusedVariables false
set_option linter.unusedSimpArgs false

/-- What Save writes and answers, once the number is known. -/
def saveG (V : DiskV) (s : SupV) : SupV × Int × DiskV :=
  if 1152921504606846976 < s.gen then (sup0, 18, V) else if okSup s = false then (sup0, 2, V)
  else if V.writeE (s.gen % 2) (supB s) ≠ 0 then (sup0, V.writeE (s.gen % 2) (supB s), V.writeV (s.gen % 2) (supB s))
  else if (V.writeV (s.gen % 2) (supB s)).flushE ≠ 0 then (sup0, (V.writeV (s.gen % 2) (supB s)).flushE, (V.writeV (s.gen % 2) (supB s)).flushV)
  else (s, 0, (V.writeV (s.gen % 2) (supB s)).flushV)
def saveR (V : DiskV) (s : SupV) : SupV × Int × DiskV :=
  if (findR V).2.2 = 0 then saveG V { s with gen := (findR V).1.gen + 1 } else if (findR V).2.2 = 4 then saveG V { s with gen := 0 } else (sup0, (findR V).2.2, V)

theorem saveG_big (V : DiskV) (s : SupV) (h : 1152921504606846976 < s.gen) : saveG V s = (sup0, 18, V) := if_pos h
theorem saveG_bad (V : DiskV) (s : SupV) (h : ¬ 1152921504606846976 < s.gen) (h2 : okSup s = false) : saveG V s = (sup0, 2, V) := (if_neg h).trans (if_pos h2)
theorem saveG_w (V : DiskV) (s : SupV) (h : ¬ 1152921504606846976 < s.gen) (h2 : okSup s = true) (h3 : V.writeE (s.gen % 2) (supB s) ≠ 0) : saveG V s = (sup0, V.writeE (s.gen % 2) (supB s), V.writeV (s.gen % 2) (supB s)) :=
  (if_neg h).trans ((if_neg (by rw [h2]; simp)).trans (if_pos h3))
theorem saveG_f (V : DiskV) (s : SupV) (h : ¬ 1152921504606846976 < s.gen) (h2 : okSup s = true) (h3 : V.writeE (s.gen % 2) (supB s) = 0) (h4 : (V.writeV (s.gen % 2) (supB s)).flushE ≠ 0) :
    saveG V s = (sup0, (V.writeV (s.gen % 2) (supB s)).flushE, (V.writeV (s.gen % 2) (supB s)).flushV) :=
  (if_neg h).trans ((if_neg (by rw [h2]; simp)).trans ((if_neg (by rw [h3]; simp)).trans (if_pos h4)))
theorem saveG_ok (V : DiskV) (s : SupV) (h : ¬ 1152921504606846976 < s.gen) (h2 : okSup s = true) (h3 : V.writeE (s.gen % 2) (supB s) = 0) (h4 : (V.writeV (s.gen % 2) (supB s)).flushE = 0) :
    saveG V s = (s, 0, (V.writeV (s.gen % 2) (supB s)).flushV) :=
  (if_neg h).trans ((if_neg (by rw [h2]; simp)).trans ((if_neg (by rw [h3]; simp)).trans (if_neg (by rw [h4]; simp))))

theorem save_end {b : Nat} {wx : World} {tm : Array Value} {sv : SupV} {x : Int} {R : Ending → World → Prop} (h0 : tm.getD 4 undef = .pointer (some ⟨b, 0, none⟩)) (h1 : tm.getD 5 undef = .int .i64 x)
    (hb : wx.heap[b]? = some sv.obj) (hR : R (.returned (.tuple #[sv.val, .int .i64 x])) wx) : bodyPost Try.prog Try.f68 R .ret ⟨tm, []⟩ wx := by
  refine bodyPost_ret (v := .tuple #[sv.val, .int .i64 x]) ?_ rfl hR
  rw [results_cell_tmp rfl]
  have hl := run_loadVar_row (P := Try.prog) wx b 100 100 _ (0, 0) _ hb Try.underlying100 rfl size100
  show ((asAddr (tm.getD 4 undef)).run Try.prog wx).andThen _ = _
  rw [h0, h1]
  simp only [asAddr, Sem.run_pure, Result.andThen_ok, hl]
  rfl

theorem save_set {w w2 : World} {s : SupV} (h3 : w2.heap[w.heap.size]? = some s.obj) (h4 : w2.heap[w.heap.size + 1]? = some sup0.obj) (hk : Keep [] w w2) (o : Obj) (n : Int) :
    ((w2.alloc o).setCell ⟨w.heap.size, 0, none⟩ (.int .i64 n)).heap[w.heap.size]? = some ({ s with gen := n } : SupV).obj ∧ ((w2.alloc o).setCell ⟨w.heap.size, 0, none⟩ (.int .i64 n)).heap[w.heap.size + 1]? = some sup0.obj ∧
    Keep [] w ((w2.alloc o).setCell ⟨w.heap.size, 0, none⟩ (.int .i64 n)) :=
  ⟨heap_setCell_same _ w.heap.size 0 _ 100 (.int .i64 n) (past h3), (heap_setCell_other _ ⟨w.heap.size, 0, none⟩ (w.heap.size + 1) _ (by show w.heap.size + 1 ≠ w.heap.size; omega)).trans (past h4), (hk.alloc o).setCell (a := ⟨w.heap.size, 0, none⟩) (.inr (Nat.le_refl _)) _⟩
theorem sup_cells {w : World} {b : Nat} {s : SupV} (h : w.heap[b]? = some s.obj) : w.cell? ⟨b, 0, none⟩ = some (.int .i64 s.gen) ∧ w.cell? ⟨b, 1, none⟩ = some (.int .i64 s.root) ∧ w.cell? ⟨b, 2, none⟩ = some (.int .i64 s.start) ∧ w.cell? ⟨b, 3, none⟩ = some (.int .i64 s.epoch) ∧ w.cell? ⟨b, 4, none⟩ = some (.int .i64 s.last) ∧ w.cell? ⟨b, 5, none⟩ = some (.int .i64 s.mark) :=
  ⟨(cell_of_row _ _ 0 _ _ _ h).trans rfl, (cell_of_row _ _ 1 _ _ _ h).trans rfl, (cell_of_row _ _ 2 _ _ _ h).trans rfl, (cell_of_row _ _ 3 _ _ _ h).trans rfl, (cell_of_row _ _ 4 _ _ _ h).trans rfl, (cell_of_row _ _ 5 _ _ _ h).trans rfl⟩
/-- Behind everything: the answer is laid into its box. -/
theorem save_fin {w0 w wr : World} {g : Nat} {V V' : DiskV} {hs : List Held} (h0 : StH w0 w g V hs) {b : Nat} (hb : w.heap.size ≤ b) {o : Obj} (h : StH w0 wr g V' (heldBox b o :: hs)) (C : Array Value) : StH w0 (wr.setRow b C) g V' hs :=
  h.poke (b := b) ((Keep.refl _ _).putRow C (.inl (by simp))) (by simp [heldBox]) (fun y hy c hc => by have := (h0.held y hy).2 c hc; omega) (by have := h0.keep.size; omega)
theorem findR_gen (V : DiskV) (h : (findR V).2.2 = 0) : 0 ≤ (findR V).1.gen ∧ (findR V).1.gen ≤ 1152921504606846976 := by
  have ok : ∀ b : ByteArray, supOk b = true → 0 ≤ (supS b).gen ∧ (supS b).gen ≤ 1152921504606846976 := fun b hb => by
    have h1 : okSup (decSup b) = true := by unfold supOk at hb; simp only [Bool.and_eq_true] at hb; exact hb.1.2
    have h2 : supS b = decSup b := by unfold supS; rw [hb]; rfl
    rw [h2]
    exact ((okSup_iff _).1 h1).1
  unfold findR at h ⊢
  split at h
  · exact absurd h (by assumption)
  · split at h
    · exact absurd h (by assumption)
    · rw [if_neg (by assumption), if_neg (by assumption)]
      unfold findB at h ⊢
      split at h
      · rename_i hb
        rw [if_pos hb]
        simp only [Bool.and_eq_true] at hb
        exact ok _ hb.1
      · split at h
        · rename_i h1 h2
          rw [if_neg h1, if_pos h2]
          exact ok _ h2
        · cases h

set_option maxRecDepth 100000 in
set_option maxHeartbeats 8000000 in
theorem save_any {w0 w : World} {g : Nat} {V : DiskV} {hs : List Held} (h : StH w0 w g V hs) (hfew : V.pend.length ≤ 1000000) (s : SupV) :
    Calls Try.prog 68 #[.pointer (some ⟨g, 0, none⟩), s.val] w fun e w' => e = .returned (.tuple #[(saveR V s).1.val, .int .i64 (saveR V s).2.1]) ∧ StH w0 w' g (saveR V s).2.2 hs := by
  obtain ⟨RR, hRR⟩ : ∃ RR, saveR V s = RR := ⟨_, rfl⟩
  have FF : ∀ wr, StH w0 wr g V hs → Calls Try.prog 69 #[.pointer (some ⟨g, 0, none⟩)] wr fun e w' => e = .returned (.tuple #[(findR V).1.val, .int .i64 (findR V).2.1, .int .i64 (findR V).2.2]) ∧ Keep [] wr w' := fun wr hh => find_any hh
  rw [hRR]
  have hgen := findR_gen V
  unfold saveR at hRR
  generalize findR V = FR at *
  obtain ⟨⟨x0, x1, x2, x3, x4, x5⟩, at_, E⟩ := FR
  dsimp only at hRR FF hgen
  have HGEN := Lib.hid hgen
  clear hgen
  have HRR := Lib.hid hRR
  have HFF := Lib.hid FF
  have HST := Lib.hid h
  have h3 : ((w.alloc s.obj).alloc sup0.obj).heap[w.heap.size]? = some s.obj := past (heap_at _ _ _ rfl)
  have h4 : ((w.alloc s.obj).alloc sup0.obj).heap[w.heap.size + 1]? = some sup0.obj := heap_at _ _ _ (by simp)
  have hk1 : Keep [] w ((w.alloc s.obj).alloc sup0.obj) := ((Keep.refl _ _).alloc _).alloc _
  have H1 := Lib.hid (And.intro h3 (And.intro h4 hk1))
  have hst1 := h.keep0 hk1
  have HC := Lib.hid (FF _ hst1)
  clear hRR FF h h3 h4 hk1 hst1
  obtain ⟨s0, s1, s2, s3, s4, s5⟩ := s
  unfold SupV.val SupV.obj at HC
  unfold SupV.val
  dsimp only at HC ⊢
  go_enter Try.func68, Try.ntmps68
  go_wp2_with fail
  refine HC.out.mono ?_
  rintro e w2 ⟨rfl, hk2⟩
  have H2 := Lib.hid (And.intro (hk2.heap H1.out.1 (by simp)) (And.intro (hk2.heap H1.out.2.1 (by simp)) (H1.out.2.2.trans hk2)))
  clear hk2 HC H1
  by_cases hE0 : E = 0
  · subst hE0
    have HR : Hid (RR = saveG V ⟨x0 + 1, s1, s2, s3, s4, s5⟩) := Lib.hid HRR.out.symm
    obtain ⟨hx1, hx2⟩ := HGEN.out rfl
    have HSET := Lib.hid (save_set H2.out.1 H2.out.2.1 H2.out.2.2 (.cells #[.int .i64 x0, .int .i64 x1, .int .i64 x2, .int .i64 x3, .int .i64 x4, .int .i64 x5] 100) (x0 + 1))
    have c30 : (w2.alloc (.cells #[.int .i64 x0, .int .i64 x1, .int .i64 x2, .int .i64 x3, .int .i64 x4, .int .i64 x5] 100)).cell? ⟨w.heap.size, 0, none⟩ = some (.int .i64 s0) := (cell_of_row _ _ 0 _ _ _ (past H2.out.1)).trans rfl
    have f30 : (w2.alloc (.cells #[.int .i64 x0, .int .i64 x1, .int .i64 x2, .int .i64 x3, .int .i64 x4, .int .i64 x5] 100)).frozen? ⟨w.heap.size, 0, none⟩ = false := frozen_of_row _ w.heap.size 0 _ _ (past H2.out.1)
    by_cases hbig : 1152921504606846976 < x0 + 1
    · have HQ : Hid (RR = (sup0, 18, V)) := Lib.hid (HR.out.trans (saveG_big V _ hbig))
      go_wp2_with (first | ((with_reducible show wpList _ _ _ (⟨some 29, Op.load 3 (Operand.tmp 28), _, _, _, _⟩ :: _) _ _); have hb3 := HSET.out.1; have hb4 := HSET.out.2.1; have hk3 := HSET.out.2.2; generalize World.setCell _ _ _ = W3 at hb3 hb4 hk3 ⊢; obtain ⟨q0, q1, q2, q3, q4, q5⟩ := sup_cells hb3; dsimp only at q0 q1 q2 q3 q4 q5; have HW := Lib.hid (And.intro hb3 (And.intro hb4 hk3)); clear hb3 hb4 hk3 HSET) | ((with_reducible show wpList _ _ _ (⟨none, Op.store 100 (Operand.tmp 4) _, _, _, _, _⟩ :: _) _ _); refine wpList_store_at rfl 100 _ _ rfl (w.heap.size + 1) 0 [.int .i64 0, .int .i64 0, .int .i64 0, .int .i64 0, .int .i64 0, .int .i64 0] rfl rfl [.int .i64 0, .int .i64 0, .int .i64 0, .int .i64 0, .int .i64 0, .int .i64 0] 100 (by exact HW.out.2.1) (by decide) size100 (by simp [Value.oneCell']) ?_; dsimp only [Act.put]))
      refine save_end (b := w.heap.size + 1) (sv := sup0) (x := 18) ?_ ?_ (setRow_same HW.out.2.1 _) ?_
      · rfl
      · rfl
      · exact ⟨by rw [HQ.out]; rfl, by rw [HQ.out]; exact HST.out.keep0 (HW.out.2.2.putRow _ (.inr (Nat.le_succ _)))⟩
    · cases hok : okSup ⟨x0 + 1, s1, s2, s3, s4, s5⟩ with
      | false =>
        have HQ : Hid (RR = (sup0, 2, V)) := Lib.hid (HR.out.trans (saveG_bad V _ hbig hok))
        have HB := Lib.hid (fun wr => supbytes_any ⟨x0 + 1, s1, s2, s3, s4, s5⟩ wr)
        rw [hok] at HB
        clear hok
        go_wp2_with (first | ((with_reducible show wpList _ _ _ (⟨some 29, Op.load 3 (Operand.tmp 28), _, _, _, _⟩ :: _) _ _); have hb3 := HSET.out.1; have hb4 := HSET.out.2.1; have hk3 := HSET.out.2.2; generalize World.setCell _ _ _ = W3 at hb3 hb4 hk3 ⊢; obtain ⟨q0, q1, q2, q3, q4, q5⟩ := sup_cells hb3; dsimp only at q0 q1 q2 q3 q4 q5; have HW := Lib.hid (And.intro hb3 (And.intro hb4 hk3)); clear hb3 hb4 hk3 HSET))
        refine (HB.out _).mono ?_
        rintro e w4 ⟨v, rfl, hk4, hrow⟩
        have hb4 := hk4.heap HW.out.2.1 (by simp)
        have hk4w := HW.out.2.2.trans hk4
        have HW4 := Lib.hid (And.intro hb4 hk4w)
        clear hb4 hk4w hk4 hrow
        rw [if_neg (by simp)]
        go_wp2_with (first | ((with_reducible show wpList _ _ _ (⟨none, Op.store 100 (Operand.tmp 4) _, _, _, _, _⟩ :: _) _ _); refine wpList_store_at rfl 100 _ _ rfl (w.heap.size + 1) 0 [.int .i64 0, .int .i64 0, .int .i64 0, .int .i64 0, .int .i64 0, .int .i64 0] rfl rfl [.int .i64 0, .int .i64 0, .int .i64 0, .int .i64 0, .int .i64 0, .int .i64 0] 100 (by exact HW4.out.1) (by decide) size100 (by simp [Value.oneCell']) ?_; dsimp only [Act.put]))
        refine save_end (b := w.heap.size + 1) (sv := sup0) (x := 2) ?_ ?_ (setRow_same HW4.out.1 _) ?_
        · rfl
        · rfl
        · exact ⟨by rw [HQ.out]; rfl, by rw [HQ.out]; exact HST.out.keep0 (HW4.out.2.putRow _ (.inr (Nat.le_succ _)))⟩
      | true =>
        have HB := Lib.hid (fun wr => supbytes_any ⟨x0 + 1, s1, s2, s3, s4, s5⟩ wr)
        rw [hok] at HB
        obtain ⟨BB, hBB⟩ : ∃ BB, supB ⟨x0 + 1, s1, s2, s3, s4, s5⟩ = BB := ⟨_, rfl⟩
        rw [hBB] at HB
        obtain ⟨e1, he1⟩ : ∃ e1, V.writeE ((x0 + 1) % 2) BB = e1 := ⟨_, rfl⟩
        obtain ⟨V1, hV1⟩ : ∃ V1, V.writeV ((x0 + 1) % 2) BB = V1 := ⟨_, rfl⟩
        have HQ1 : Hid (e1 ≠ 0 → RR = (sup0, e1, V1)) := Lib.hid (fun h => by rw [← he1, ← hV1, ← hBB]; exact HR.out.trans (saveG_w V _ hbig hok (by rw [hBB, he1]; exact h)))
        have HQ2 : Hid (e1 = 0 → V1.flushE ≠ 0 → RR = (sup0, V1.flushE, V1.flushV)) := Lib.hid (fun h h2 => by rw [← hV1, ← hBB]; exact HR.out.trans (saveG_f V _ hbig hok (by rw [hBB, he1]; exact h) (by rw [hBB, hV1]; exact h2)))
        have HQ3 : Hid (e1 = 0 → V1.flushE = 0 → RR = (⟨x0 + 1, s1, s2, s3, s4, s5⟩, 0, V1.flushV)) := Lib.hid (fun h h2 => by rw [← hV1, ← hBB]; exact HR.out.trans (saveG_ok V _ hbig hok (by rw [hBB, he1]; exact h) (by rw [hBB, hV1]; exact h2)))
        have HEV := Lib.hid (And.intro he1 hV1)
        clear hok hBB he1 hV1
        go_wp2_with (first | ((with_reducible show wpList _ _ _ (⟨some 29, Op.load 3 (Operand.tmp 28), _, _, _, _⟩ :: _) _ _); have hb3 := HSET.out.1; have hb4 := HSET.out.2.1; have hk3 := HSET.out.2.2; generalize World.setCell _ _ _ = W3 at hb3 hb4 hk3 ⊢; obtain ⟨q0, q1, q2, q3, q4, q5⟩ := sup_cells hb3; dsimp only at q0 q1 q2 q3 q4 q5; have HW := Lib.hid (And.intro hb3 (And.intro hb4 hk3)); clear hb3 hb4 hk3 HSET))
        refine (HB.out _).mono ?_
        rintro e w4 ⟨v, rfl, hk4, hrow⟩
        simp only [if_true] at hrow
        rw [if_pos trivial]
        obtain ⟨A4, c4, rfl⟩ := own_form hrow
        have q40 := hk4.cell q0 (by simp)
        have hst3 := HST.out.holds HW.out.2.2 [heldBox w.heap.size (SupV.obj ⟨x0 + 1, s1, s2, s3, s4, s5⟩), heldBox (w.heap.size + 1) sup0.obj] (by
          intro x hx
          have h1 := heap_lt HW.out.1
          have h2 := heap_lt HW.out.2.1
          simp only [List.mem_cons, List.not_mem_nil, or_false] at hx
          rcases hx with rfl | rfl
          · exact ⟨HW.out.1, fun b hb => by have : b = w.heap.size := by simpa [heldBox] using hb
                                            omega⟩
          · exact ⟨HW.out.2.1, fun b hb => by have : b = w.heap.size + 1 := by simpa [heldBox] using hb
                                              omega⟩)
        have HST3 := Lib.hid (And.intro hst3 (And.intro hk4 hrow))
        clear hst3 hk4 hrow q0 q1 q2 q3 q4 q5 HB
        go_wp2_with fail
        refine (st_write HST3.out.1 HST3.out.2.1 ((x0 + 1) % 2) (BytesIn.of_own HST3.out.2.2) (fun a ha => (HST3.out.2.2.lt a.block (by rw [ha]; rfl)).1) hfew).mono ?_
        rintro e w5 ⟨rfl, hst5⟩
        rw [HEV.out.2] at hst5
        rw [HEV.out.1]
        have H5 := Lib.hid hst5
        clear hst5 q40 HST3
        by_cases he1 : e1 = 0
        · subst he1
          go_wp2_with fail
          refine (st_flush H5.out).mono ?_
          rintro e w6 ⟨rfl, hst6⟩
          obtain ⟨e2, he2⟩ : ∃ e2, V1.flushE = e2 := ⟨_, rfl⟩
          have h63 : w6.heap[w.heap.size]? = some (SupV.obj ⟨x0 + 1, s1, s2, s3, s4, s5⟩) := hst6.mem 0 _ rfl
          have h64 : w6.heap[w.heap.size + 1]? = some sup0.obj := hst6.mem 1 _ rfl
          have hst6' := hst6.sub (hs' := heldBox (w.heap.size + 1) sup0.obj :: hs) (fun y hy => List.mem_cons_of_mem _ hy)
          have H6 := Lib.hid (And.intro h63 (And.intro h64 hst6'))
          obtain ⟨q0, q1, q2, q3, q4, q5⟩ := sup_cells h63
          dsimp only at q0 q1 q2 q3 q4 q5
          clear hst6 hst6' h63 h64
          rw [he2]
          by_cases he3 : e2 = 0
          · have HQ := Lib.hid (HQ3.out (by simp) (he2.trans he3))
            subst he3
            clear he2
            go_wp2_with (first | ((with_reducible show wpList _ _ _ (⟨none, Op.store 100 (Operand.tmp 4) _, _, _, _, _⟩ :: _) _ _); refine wpList_store_at rfl 100 _ _ rfl (w.heap.size + 1) 0 [.int .i64 (x0 + 1), .int .i64 s1, .int .i64 s2, .int .i64 s3, .int .i64 s4, .int .i64 s5] rfl rfl [.int .i64 0, .int .i64 0, .int .i64 0, .int .i64 0, .int .i64 0, .int .i64 0] 100 (by exact H6.out.2.1) (by simp) size100 (by simp [Value.oneCell']) ?_; dsimp only [Act.put]))
            refine save_end (b := w.heap.size + 1) (sv := ⟨x0 + 1, s1, s2, s3, s4, s5⟩) (x := 0) ?_ ?_ (setRow_same H6.out.2.1 _) ?_
            · rfl
            · rfl
            · exact ⟨by rw [HQ.out]; rfl, by rw [HQ.out]; exact save_fin HST.out (Nat.le_succ _) H6.out.2.2 _⟩
          · have HQ : Hid (RR = (sup0, e2, V1.flushV)) := Lib.hid (by rw [← he2]; exact HQ2.out (by simp) (by rw [he2]; exact he3))
            clear he2
            go_wp2_with (first | ((with_reducible show wpList _ _ _ (⟨none, Op.store 100 (Operand.tmp 4) _, _, _, _, _⟩ :: _) _ _); refine wpList_store_at rfl 100 _ _ rfl (w.heap.size + 1) 0 [.int .i64 0, .int .i64 0, .int .i64 0, .int .i64 0, .int .i64 0, .int .i64 0] rfl rfl [.int .i64 0, .int .i64 0, .int .i64 0, .int .i64 0, .int .i64 0, .int .i64 0] 100 (by exact H6.out.2.1) (by decide) size100 (by simp [Value.oneCell']) ?_; dsimp only [Act.put]))
            refine save_end (b := w.heap.size + 1) (sv := sup0) (x := e2) ?_ ?_ (setRow_same H6.out.2.1 _) ?_
            · rfl
            · rfl
            · exact ⟨by rw [HQ.out]; rfl, by rw [HQ.out]; exact save_fin HST.out (Nat.le_succ _) H6.out.2.2 _⟩
        · have HQ := Lib.hid (HQ1.out he1)
          have h54 : w5.heap[w.heap.size + 1]? = some sup0.obj := H5.out.mem 1 _ rfl
          have H54 := Lib.hid (And.intro h54 (H5.out.sub (hs' := heldBox (w.heap.size + 1) sup0.obj :: hs) (fun y hy => List.mem_cons_of_mem _ hy)))
          clear h54
          go_wp2_with (first | ((with_reducible show wpList _ _ _ (⟨none, Op.store 100 (Operand.tmp 4) _, _, _, _, _⟩ :: _) _ _); refine wpList_store_at rfl 100 _ _ rfl (w.heap.size + 1) 0 [.int .i64 0, .int .i64 0, .int .i64 0, .int .i64 0, .int .i64 0, .int .i64 0] rfl rfl [.int .i64 0, .int .i64 0, .int .i64 0, .int .i64 0, .int .i64 0, .int .i64 0] 100 (by exact H54.out.1) (by decide) size100 (by simp [Value.oneCell']) ?_; dsimp only [Act.put]))
          refine save_end (b := w.heap.size + 1) (sv := sup0) (x := e1) ?_ ?_ (setRow_same H54.out.1 _) ?_
          · rfl
          · rfl
          · exact ⟨by rw [HQ.out]; rfl, by rw [HQ.out]; exact save_fin HST.out (Nat.le_succ _) H54.out.2 _⟩
  · by_cases hE4 : E = 4
    · subst hE4
      have HR : Hid (RR = saveG V ⟨0, s1, s2, s3, s4, s5⟩) := Lib.hid HRR.out.symm
      have HSET := Lib.hid (save_set H2.out.1 H2.out.2.1 H2.out.2.2 (.cells #[.int .i64 x0, .int .i64 x1, .int .i64 x2, .int .i64 x3, .int .i64 x4, .int .i64 x5] 100) (0))
      have c30 : (w2.alloc (.cells #[.int .i64 x0, .int .i64 x1, .int .i64 x2, .int .i64 x3, .int .i64 x4, .int .i64 x5] 100)).cell? ⟨w.heap.size, 0, none⟩ = some (.int .i64 s0) := (cell_of_row _ _ 0 _ _ _ (past H2.out.1)).trans rfl
      have f30 : (w2.alloc (.cells #[.int .i64 x0, .int .i64 x1, .int .i64 x2, .int .i64 x3, .int .i64 x4, .int .i64 x5] 100)).frozen? ⟨w.heap.size, 0, none⟩ = false := frozen_of_row _ w.heap.size 0 _ _ (past H2.out.1)
      have hbig : ¬ (1152921504606846976 : Int) < 0 := by decide
      cases hok : okSup ⟨0, s1, s2, s3, s4, s5⟩ with
        | false =>
          have HQ : Hid (RR = (sup0, 2, V)) := Lib.hid (HR.out.trans (saveG_bad V ⟨0, s1, s2, s3, s4, s5⟩ hbig hok))
          have HB := Lib.hid (fun wr => supbytes_any ⟨0, s1, s2, s3, s4, s5⟩ wr)
          rw [hok] at HB
          clear hok
          go_wp2_with (first | ((with_reducible show wpList _ _ _ (⟨some 29, Op.load 3 (Operand.tmp 28), _, _, _, _⟩ :: _) _ _); have hb3 := HSET.out.1; have hb4 := HSET.out.2.1; have hk3 := HSET.out.2.2; generalize World.setCell _ _ _ = W3 at hb3 hb4 hk3 ⊢; obtain ⟨q0, q1, q2, q3, q4, q5⟩ := sup_cells hb3; dsimp only at q0 q1 q2 q3 q4 q5; have HW := Lib.hid (And.intro hb3 (And.intro hb4 hk3)); clear hb3 hb4 hk3 HSET))
          refine (HB.out _).mono ?_
          rintro e w4 ⟨v, rfl, hk4, hrow⟩
          have hb4 := hk4.heap HW.out.2.1 (by simp)
          have hk4w := HW.out.2.2.trans hk4
          have HW4 := Lib.hid (And.intro hb4 hk4w)
          clear hb4 hk4w hk4 hrow
          rw [if_neg (by simp)]
          go_wp2_with (first | ((with_reducible show wpList _ _ _ (⟨none, Op.store 100 (Operand.tmp 4) _, _, _, _, _⟩ :: _) _ _); refine wpList_store_at rfl 100 _ _ rfl (w.heap.size + 1) 0 [.int .i64 0, .int .i64 0, .int .i64 0, .int .i64 0, .int .i64 0, .int .i64 0] rfl rfl [.int .i64 0, .int .i64 0, .int .i64 0, .int .i64 0, .int .i64 0, .int .i64 0] 100 (by exact HW4.out.1) (by decide) size100 (by simp [Value.oneCell']) ?_; dsimp only [Act.put]))
          refine save_end (b := w.heap.size + 1) (sv := sup0) (x := 2) ?_ ?_ (setRow_same HW4.out.1 _) ?_
          · rfl
          · rfl
          · exact ⟨by rw [HQ.out]; rfl, by rw [HQ.out]; exact HST.out.keep0 (HW4.out.2.putRow _ (.inr (Nat.le_succ _)))⟩
        | true =>
          have HB := Lib.hid (fun wr => supbytes_any ⟨0, s1, s2, s3, s4, s5⟩ wr)
          rw [hok] at HB
          obtain ⟨BB, hBB⟩ : ∃ BB, supB ⟨0, s1, s2, s3, s4, s5⟩ = BB := ⟨_, rfl⟩
          rw [hBB] at HB
          obtain ⟨e1, he1⟩ : ∃ e1, V.writeE 0 BB = e1 := ⟨_, rfl⟩
          obtain ⟨V1, hV1⟩ : ∃ V1, V.writeV 0 BB = V1 := ⟨_, rfl⟩
          have HQ1 : Hid (e1 ≠ 0 → RR = (sup0, e1, V1)) := Lib.hid (fun h => by rw [← he1, ← hV1, ← hBB]; exact HR.out.trans (saveG_w V ⟨0, s1, s2, s3, s4, s5⟩ hbig hok (by show V.writeE 0 (supB ⟨0, s1, s2, s3, s4, s5⟩) ≠ 0; rw [hBB, he1]; exact h)))
          have HQ2 : Hid (e1 = 0 → V1.flushE ≠ 0 → RR = (sup0, V1.flushE, V1.flushV)) := Lib.hid (fun h h2 => by rw [← hV1, ← hBB]; exact HR.out.trans (saveG_f V ⟨0, s1, s2, s3, s4, s5⟩ hbig hok (by show V.writeE 0 (supB ⟨0, s1, s2, s3, s4, s5⟩) = 0; rw [hBB, he1]; exact h) (by show (V.writeV 0 (supB ⟨0, s1, s2, s3, s4, s5⟩)).flushE ≠ 0; rw [hBB, hV1]; exact h2)))
          have HQ3 : Hid (e1 = 0 → V1.flushE = 0 → RR = (⟨0, s1, s2, s3, s4, s5⟩, 0, V1.flushV)) := Lib.hid (fun h h2 => by rw [← hV1, ← hBB]; exact HR.out.trans (saveG_ok V ⟨0, s1, s2, s3, s4, s5⟩ hbig hok (by show V.writeE 0 (supB ⟨0, s1, s2, s3, s4, s5⟩) = 0; rw [hBB, he1]; exact h) (by show (V.writeV 0 (supB ⟨0, s1, s2, s3, s4, s5⟩)).flushE = 0; rw [hBB, hV1]; exact h2)))
          have HEV := Lib.hid (And.intro he1 hV1)
          clear hok hBB he1 hV1
          go_wp2_with (first | ((with_reducible show wpList _ _ _ (⟨some 29, Op.load 3 (Operand.tmp 28), _, _, _, _⟩ :: _) _ _); have hb3 := HSET.out.1; have hb4 := HSET.out.2.1; have hk3 := HSET.out.2.2; generalize World.setCell _ _ _ = W3 at hb3 hb4 hk3 ⊢; obtain ⟨q0, q1, q2, q3, q4, q5⟩ := sup_cells hb3; dsimp only at q0 q1 q2 q3 q4 q5; have HW := Lib.hid (And.intro hb3 (And.intro hb4 hk3)); clear hb3 hb4 hk3 HSET))
          refine (HB.out _).mono ?_
          rintro e w4 ⟨v, rfl, hk4, hrow⟩
          simp only [if_true] at hrow
          rw [if_pos trivial]
          obtain ⟨A4, c4, rfl⟩ := own_form hrow
          have q40 := hk4.cell q0 (by simp)
          have hst3 := HST.out.holds HW.out.2.2 [heldBox w.heap.size (SupV.obj ⟨0, s1, s2, s3, s4, s5⟩), heldBox (w.heap.size + 1) sup0.obj] (by
            intro x hx
            have h1 := heap_lt HW.out.1
            have h2 := heap_lt HW.out.2.1
            simp only [List.mem_cons, List.not_mem_nil, or_false] at hx
            rcases hx with rfl | rfl
            · exact ⟨HW.out.1, fun b hb => by have : b = w.heap.size := by simpa [heldBox] using hb
                                              omega⟩
            · exact ⟨HW.out.2.1, fun b hb => by have : b = w.heap.size + 1 := by simpa [heldBox] using hb
                                                omega⟩)
          have HST3 := Lib.hid (And.intro hst3 (And.intro hk4 hrow))
          clear hst3 hk4 hrow q0 q1 q2 q3 q4 q5 HB
          go_wp2_with fail
          refine (st_write HST3.out.1 HST3.out.2.1 0 (BytesIn.of_own HST3.out.2.2) (fun a ha => (HST3.out.2.2.lt a.block (by rw [ha]; rfl)).1) hfew).mono ?_
          rintro e w5 ⟨rfl, hst5⟩
          rw [HEV.out.2] at hst5
          rw [HEV.out.1]
          have H5 := Lib.hid hst5
          clear hst5 q40 HST3
          by_cases he1 : e1 = 0
          · subst he1
            go_wp2_with fail
            refine (st_flush H5.out).mono ?_
            rintro e w6 ⟨rfl, hst6⟩
            obtain ⟨e2, he2⟩ : ∃ e2, V1.flushE = e2 := ⟨_, rfl⟩
            have h63 : w6.heap[w.heap.size]? = some (SupV.obj ⟨0, s1, s2, s3, s4, s5⟩) := hst6.mem 0 _ rfl
            have h64 : w6.heap[w.heap.size + 1]? = some sup0.obj := hst6.mem 1 _ rfl
            have hst6' := hst6.sub (hs' := heldBox (w.heap.size + 1) sup0.obj :: hs) (fun y hy => List.mem_cons_of_mem _ hy)
            have H6 := Lib.hid (And.intro h63 (And.intro h64 hst6'))
            obtain ⟨q0, q1, q2, q3, q4, q5⟩ := sup_cells h63
            dsimp only at q0 q1 q2 q3 q4 q5
            clear hst6 hst6' h63 h64
            rw [he2]
            by_cases he3 : e2 = 0
            · have HQ := Lib.hid (HQ3.out (by simp) (he2.trans he3))
              subst he3
              clear he2
              go_wp2_with (first | ((with_reducible show wpList _ _ _ (⟨none, Op.store 100 (Operand.tmp 4) _, _, _, _, _⟩ :: _) _ _); refine wpList_store_at rfl 100 _ _ rfl (w.heap.size + 1) 0 [.int .i64 (0), .int .i64 s1, .int .i64 s2, .int .i64 s3, .int .i64 s4, .int .i64 s5] rfl rfl [.int .i64 0, .int .i64 0, .int .i64 0, .int .i64 0, .int .i64 0, .int .i64 0] 100 (by exact H6.out.2.1) (by simp) size100 (by simp [Value.oneCell']) ?_; dsimp only [Act.put]))
              refine save_end (b := w.heap.size + 1) (sv := ⟨0, s1, s2, s3, s4, s5⟩) (x := 0) ?_ ?_ (setRow_same H6.out.2.1 _) ?_
              · rfl
              · rfl
              · exact ⟨by rw [HQ.out]; rfl, by rw [HQ.out]; exact save_fin HST.out (Nat.le_succ _) H6.out.2.2 _⟩
            · have HQ : Hid (RR = (sup0, e2, V1.flushV)) := Lib.hid (by rw [← he2]; exact HQ2.out (by simp) (by rw [he2]; exact he3))
              clear he2
              go_wp2_with (first | ((with_reducible show wpList _ _ _ (⟨none, Op.store 100 (Operand.tmp 4) _, _, _, _, _⟩ :: _) _ _); refine wpList_store_at rfl 100 _ _ rfl (w.heap.size + 1) 0 [.int .i64 0, .int .i64 0, .int .i64 0, .int .i64 0, .int .i64 0, .int .i64 0] rfl rfl [.int .i64 0, .int .i64 0, .int .i64 0, .int .i64 0, .int .i64 0, .int .i64 0] 100 (by exact H6.out.2.1) (by decide) size100 (by simp [Value.oneCell']) ?_; dsimp only [Act.put]))
              refine save_end (b := w.heap.size + 1) (sv := sup0) (x := e2) ?_ ?_ (setRow_same H6.out.2.1 _) ?_
              · rfl
              · rfl
              · exact ⟨by rw [HQ.out]; rfl, by rw [HQ.out]; exact save_fin HST.out (Nat.le_succ _) H6.out.2.2 _⟩
          · have HQ := Lib.hid (HQ1.out he1)
            have h54 : w5.heap[w.heap.size + 1]? = some sup0.obj := H5.out.mem 1 _ rfl
            have H54 := Lib.hid (And.intro h54 (H5.out.sub (hs' := heldBox (w.heap.size + 1) sup0.obj :: hs) (fun y hy => List.mem_cons_of_mem _ hy)))
            clear h54
            go_wp2_with (first | ((with_reducible show wpList _ _ _ (⟨none, Op.store 100 (Operand.tmp 4) _, _, _, _, _⟩ :: _) _ _); refine wpList_store_at rfl 100 _ _ rfl (w.heap.size + 1) 0 [.int .i64 0, .int .i64 0, .int .i64 0, .int .i64 0, .int .i64 0, .int .i64 0] rfl rfl [.int .i64 0, .int .i64 0, .int .i64 0, .int .i64 0, .int .i64 0, .int .i64 0] 100 (by exact H54.out.1) (by decide) size100 (by simp [Value.oneCell']) ?_; dsimp only [Act.put]))
            refine save_end (b := w.heap.size + 1) (sv := sup0) (x := e1) ?_ ?_ (setRow_same H54.out.1 _) ?_
            · rfl
            · rfl
            · exact ⟨by rw [HQ.out]; rfl, by rw [HQ.out]; exact save_fin HST.out (Nat.le_succ _) H54.out.2 _⟩
    · have HQ : Hid (RR = (sup0, E, V)) := Lib.hid (by rw [← HRR.out, if_neg hE0, if_neg hE4])
      go_wp2_with (first | ((with_reducible show wpList _ _ _ (⟨none, Op.store 100 (Operand.tmp 4) _, _, _, _, _⟩ :: _) _ _); refine wpList_store_at rfl 100 _ _ rfl (w.heap.size + 1) 0 [.int .i64 0, .int .i64 0, .int .i64 0, .int .i64 0, .int .i64 0, .int .i64 0] rfl rfl [.int .i64 0, .int .i64 0, .int .i64 0, .int .i64 0, .int .i64 0, .int .i64 0] 100 (by exact past H2.out.2.1) (by decide) size100 (by simp [Value.oneCell']) ?_; dsimp only [Act.put]))
      refine save_end (b := w.heap.size + 1) (sv := sup0) (x := E) ?_ ?_ (setRow_same (past H2.out.2.1) _) ?_
      · rfl
      · rfl
      · exact ⟨by rw [HQ.out]; rfl, by rw [HQ.out]; exact HST.out.keep0 ((H2.out.2.2.alloc _).putRow _ (.inr (Nat.le_succ _)))⟩
end Go.Proofs.Ytkhggpopohkjfaa
