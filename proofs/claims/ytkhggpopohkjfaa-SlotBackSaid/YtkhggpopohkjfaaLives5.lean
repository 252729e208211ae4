/- ambrylaw05.lives: the document's examples of layer 5 hold. No condition. -/
import Derived.Test.YtkhggpopohkjfaaJoin
import Derived.Test.YtkhggpopohkjfaaCut
import Derived.Deep.RegionHeld3
namespace Go.Proofs.Ytkhggpopohkjfaa
open Go.RowKit Go.Proofs Go.Lib

/-- Cut, where it goes well. -/
theorem cut_well (s : ByteArray) (ep sq : Int) (w : World) (hE : cutErr s ep sq = 0) (hs : s.size ≤ 16384) :
    Calls Try.prog 24 #[.string s, .int .i64 ep, .int .i64 sq] w fun e w' => ∃ v, e = .returned (.tuple #[v, .int .i64 0]) ∧ Keep [] w w' ∧ w'.ownsRow w.heap.size 41 5 v (npc s) (slotCells (cutL s ep sq)) :=
  (cut_any s ep sq w (by omega)).mono fun e w' ⟨hk, v, he, _, ho⟩ => ⟨v, by rw [he, hE], hk, ho hE⟩

def pcA : ByteArray := pieceB (zerosB 109) 0
def pcB : ByteArray := pieceB (zerosB 109) 1
theorem pcA_size : pcA.size = 108 := by rw [pcA, pieceB_size, zerosB_size]; rfl
theorem pcB_size : pcB.size = 1 := by rw [pcB, pieceB_size, zerosB_size]; rfl
theorem npc_empty : npc ByteArray.empty = 1 := rfl
theorem npc_109 : npc (zerosB 109) = 2 := by unfold npc; rw [zerosB_size]; rfl
theorem err_empty : cutErr ByteArray.empty 1 5 = 0 := rfl
theorem err_109 : cutErr (zerosB 109) 1 6 = 0 := by unfold cutErr; rw [zerosB_size, npc_109]; rfl
theorem cut_empty : cutL ByteArray.empty 1 5 = [⟨1, 5, true, true, ByteArray.empty⟩] := rfl
theorem cut_109 : cutL (zerosB 109) 1 6 = [⟨1, 6, true, false, pcA⟩, ⟨1, 7, false, true, pcB⟩] := by
  unfold cutL
  rw [npc_109]
  have h : List.range 2 = [0, 1] := rfl
  unfold cutTo
  rw [h]
  simp [cutAt, npc_109, pcA, pcB]
theorem join_ex : joinF [⟨1, 5, true, true, ByteArray.empty⟩, ⟨1, 6, true, false, pcA⟩] = ([⟨5, 6, ByteArray.empty⟩], 6) := by
  have h1 : okSlot ⟨1, 5, true, true, ByteArray.empty⟩ = true := rfl
  have h2 : okSlot ⟨1, 6, true, false, pcA⟩ = true := by unfold okSlot; rw [pcA_size]; rfl
  simp [joinF, joinGo, joinStop, h1, h2, JoinS.take, folSlot]

set_option maxRecDepth 100000 in
set_option maxHeartbeats 4000000 in
theorem lives5 (w : World) : Calls Try.prog 27 #[] w fun e w' => e = .returned (.bool true) ∧ Keep [] w w' := by
  have hmk : ∀ w : World, (Instr.makeSlice 42 (.int .i64 109) (.int .i64 109)).run Try.prog w = .ok (.slice (some ⟨w.heap.size, 0, none⟩) 109 109) (w.alloc (zeroObj 109)) := fun w => make8 w 109 (by decide)
  go_enter Try.func27, Try.ntmps27
  go_wp2_with fail
  refine (cut_well ByteArray.empty 1 5 w err_empty (by decide)).mono ?_
  rintro e w1 ⟨v1, rfl, hk1, ho1⟩
  have hcv := own_str (make8_own w1 109 0 (by decide) (Nat.zero_le _))
  rw [npc_empty] at ho1
  obtain ⟨g1, c1, rfl⟩ := ownsRow_succ ho1
  go_wp2_with fail
  refine (cut_well (zerosB 109) 1 6 _ err_109 (by rw [zerosB_size]; decide)).mono ?_
  rintro e w2 ⟨v2, rfl, hk2, ho2⟩
  rw [npc_109] at ho2
  obtain ⟨g2, c2, rfl⟩ := ownsRow_succ ho2
  rw [cut_empty] at ho1
  rw [cut_109] at ho2
  have hk12 : Keep [] w1 w2 := ((Keep.refl _ _).alloc _).trans hk2
  have ho1' := hk12.owns ho1 (by simp)
  obtain ⟨a0, a1, a2, a3, a4⟩ := slot_cells ho1' (k := 0) (by omega) rfl
  obtain ⟨b0, b1, b2, b3, b4⟩ := slot_cells ho2 (k := 0) (by omega) rfl
  obtain ⟨d0, d1, d2, d3, d4⟩ := slot_cells ho2 (k := 1) (by omega) rfl
  simp only [Nat.zero_mul, Nat.one_mul, Nat.zero_add, Nat.reduceAdd, List.getElem_cons_zero, List.getElem_cons_succ] at a0 a1 a2 a3 a4 b0 b1 b2 b3 b4 d0 d1 d2 d3 d4
  have hjc : ∀ W : World, Calls Try.prog 28 #[.slice (some ⟨W.heap.size, 0, none⟩) 2 2] (W.alloc (.cells #[.int .i64 1, .int .i64 5, .bool true, .bool true, .string ByteArray.empty, .int .i64 1, .int .i64 6, .bool true, .bool false, .string pcA] 41)).drew fun e w' =>
      ∃ g c, e = .returned (.tuple #[.slice (some ⟨g, 0, none⟩) 1 c, .int .i64 6]) ∧ Keep [] W w' ∧ w'.ownsRow 0 37 3 (.slice (some ⟨g, 0, none⟩) 1 c) 1 (recCells [⟨5, 6, ByteArray.empty⟩]) := fun W => by
    have hl := World.ownsRow_lit (base := 0) (size := 5) (e := 41) W #[.int .i64 1, .int .i64 5, .bool true, .bool true, .string ByteArray.empty, .int .i64 1, .int .i64 6, .bool true, .bool false, .string pcA] 2 (Nat.zero_le _) (by decide) rfl
    refine (join_any (.slice (some ⟨W.heap.size, 0, none⟩) 2 2) [⟨1, 5, true, true, ByteArray.empty⟩, ⟨1, 6, true, false, pcA⟩] ((W.alloc (.cells #[.int .i64 1, .int .i64 5, .bool true, .bool true, .string ByteArray.empty, .int .i64 1, .int .i64 6, .bool true, .bool false, .string pcA] 41)).drew) 2 rfl (by decide) hl ?_).mono ?_
    · intro s hs
      simp only [List.mem_cons, List.not_mem_nil, or_false] at hs
      rcases hs with rfl | rfl
      · decide
      · show pcA.size ≤ _
        rw [pcA_size]; decide
    · rintro e w' ⟨hk, vo, he, ho⟩
      rw [join_ex] at he ho
      obtain ⟨g, c, rfl⟩ := ownsRow_succ ho
      exact ⟨g, c, he, ((Keep.refl [] W).alloc _).drew.trans hk, owns_base ho (Nat.zero_le _)⟩
  go_wp2_with fail
  go_region_held3 (fun w' : World => (w'.cell? ⟨g1, 0, none⟩ = some (.int .i64 1) ∧ w'.cell? ⟨g1, 1, none⟩ = some (.int .i64 5) ∧ w'.cell? ⟨g1, 2, none⟩ = some (.bool true) ∧ w'.cell? ⟨g1, 3, none⟩ = some (.bool true) ∧ w'.cell? ⟨g1, 4, none⟩ = some (.string ByteArray.empty)) ∧
     (w'.cell? ⟨g2, 0, none⟩ = some (.int .i64 1) ∧ w'.cell? ⟨g2, 1, none⟩ = some (.int .i64 6) ∧ w'.cell? ⟨g2, 2, none⟩ = some (.bool true) ∧ w'.cell? ⟨g2, 3, none⟩ = some (.bool false) ∧ w'.cell? ⟨g2, 4, none⟩ = some (.string pcA))) (go_keep) ((go_at_call 28; refine (hjc _).mono ?_; rintro e w3 ⟨g3, c3, rfl, hk3, ho3⟩; have sa0 := hk3.cell a0 (by simp); have sa1 := hk3.cell a1 (by simp); have sa2 := hk3.cell a2 (by simp); have sa3 := hk3.cell a3 (by simp); have sa4 := hk3.cell a4 (by simp); have sb0 := hk3.cell b0 (by simp); have sb1 := hk3.cell b1 (by simp); have sb2 := hk3.cell b2 (by simp); have sb3 := hk3.cell b3 (by simp); have sb4 := hk3.cell b4 (by simp)))
  have t4 := hk3.cell d4 (by simp)
  have t2 := hk3.cell d2 (by simp)
  have t3 := hk3.cell d3 (by simp)
  have r0 : w3.cell? ⟨g3, 0, none⟩ = some (.int .i64 5) := (ho3.cellAt 0 (by omega)).trans rfl
  have r1 : w3.cell? ⟨g3, 1, none⟩ = some (.int .i64 6) := (ho3.cellAt 1 (by omega)).trans rfl
  have r2 : w3.cell? ⟨g3, 2, none⟩ = some (.string ByteArray.empty) := (ho3.cellAt 2 (by omega)).trans rfl
  have hps : (pcB.size : Int) = 1 := by rw [pcB_size]; rfl
  have he1 := fun w => eql41 1 5 true true ByteArray.empty 1 5 true true ByteArray.empty w
  have he2 := fun w => eql37 5 6 ByteArray.empty 5 6 ByteArray.empty w
  rw [show slotEq 1 5 true true ByteArray.empty 1 5 true true ByteArray.empty = true from slotEq_refl _ _ _ _ _] at he1
  rw [show recEq 5 6 ByteArray.empty 5 6 ByteArray.empty = true from rfl] at he2
  go_wp2
  go_ret
  exact ⟨rfl, hk1.trans (hk12.trans hk3)⟩
end Go.Proofs.Ytkhggpopohkjfaa
