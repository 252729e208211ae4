/- ambryref05.SameSlots: two rows that hold the same slots are the same. -/
import Derived.Test.YtkhggpopohkjfaaBase
import Derived.Test.YtkhggpopohkjfaaSlotM
import Derived.Test.YtkhggpopohkjfaaEq
import Derived.Deep.QuietTactic
import Derived.BigQuiet
import Derived.OwnWalk
import Derived.RangeFuncBox
namespace Go.Proofs.Ytkhggpopohkjfaa
open Go.RowKit Go.Proofs

theorem slotEq_refl (a0 a1 : Int) (a2 a3 : Bool) (a4 : ByteArray) : slotEq a0 a1 a2 a3 a4 a0 a1 a2 a3 a4 = true := by
  simp [slotEq, beq_toListBytes]

/-- The cells of the k-th slot of a row. -/
theorem slot_cells {w : World} {base g n cap : Nat} {l : List SlotV} (h : w.ownsRow base 41 5 (.slice (some ⟨g, 0, none⟩) n cap) n (slotCells l)) {k : Nat} (hk : k < n) (hl : l.length = n) :
    w.cell? ⟨g, k * 5, none⟩ = some (.int .i64 (l[k]'(by omega)).epoch) ∧ w.cell? ⟨g, k * 5 + 1, none⟩ = some (.int .i64 (l[k]'(by omega)).seq) ∧
    w.cell? ⟨g, k * 5 + 2, none⟩ = some (.bool (l[k]'(by omega)).first) ∧ w.cell? ⟨g, k * 5 + 3, none⟩ = some (.bool (l[k]'(by omega)).last) ∧
    w.cell? ⟨g, k * 5 + 4, none⟩ = some (.string (l[k]'(by omega)).data) := by
  have f : ∀ j, j < 5 → w.cell? ⟨g, k * 5 + j, none⟩ = ((l[k]'(by omega)).cells)[j]? := fun j hj => by
    rw [h.cellAt (k * 5 + j) (by omega), slotCells_get l k j (by omega) hj]
  exact ⟨(f 0 (by omega)).trans rfl, (f 1 (by omega)).trans rfl, (f 2 (by omega)).trans rfl, (f 3 (by omega)).trans rfl, (f 4 (by omega)).trans rfl⟩

theorem same_zero (v v' : Value) (l : List SlotV) (w : World) (h : w.ownsRow 0 41 5 v 0 (slotCells l)) (h' : w.ownsRow 0 41 5 v' 0 (slotCells l)) :
    Calls Try.prog 26 #[v, v'] w fun e w' => e = .returned (.bool true) ∧ ∃ m, w' = w.drewN m := by
  obtain ⟨A, c, rfl⟩ : ∃ A c, v = .slice A 0 c := by
    rcases h.2 with ⟨rfl, _⟩ | ⟨g, cap, cur, rfl, _⟩ <;> exact ⟨_, _, rfl⟩
  obtain ⟨A', c', rfl⟩ : ∃ A c, v' = .slice A 0 c := by
    rcases h'.2 with ⟨rfl, _⟩ | ⟨g, cap, cur, rfl, _⟩ <;> exact ⟨_, _, rfl⟩
  clear h h'
  go_enter Try.func26, Try.ntmps26
  go_wp2
  go_loop [5] (fun i => i = .int .i64 0) (fun _ => 0)
  case atStart => rfl
  case round =>
    subst hrel
    go_wp2
    go_ret
    exact ⟨rfl, 0, rfl⟩

set_option maxRecDepth 100000 in
set_option maxHeartbeats 2000000 in
theorem same_true (v v' : Value) (n : Nat) (l : List SlotV) (w : World) (hl : l.length = n) (hn : n ≤ 100000) (h : w.ownsRow 0 41 5 v n (slotCells l)) (h' : w.ownsRow 0 41 5 v' n (slotCells l)) :
    Calls Try.prog 26 #[v, v'] w fun e w' => e = .returned (.bool true) ∧ ∃ m, w' = w.drewN m := by
  by_cases h0 : n = 0
  · subst h0
    exact same_zero v v' l w h h'
  obtain ⟨m, rfl⟩ : ∃ m, n = m + 1 := ⟨n - 1, by omega⟩
  obtain ⟨g, c, rfl⟩ := ownsRow_succ h
  obtain ⟨g', c', rfl⟩ := ownsRow_succ h'
  clear h0
  have hm : (m : Int) ≤ 100000 := by omega
  go_enter Try.func26, Try.ntmps26
  go_wp2
  go_loopw [5] (fun i wr => ∃ k q : Nat, k ≤ m + 1 ∧ i = .int .i64 k ∧ w.drewN q = wr) (fun i _ => m + 1 - (intOf i).toNat)
  case atStart => exact ⟨0, 0, by omega, rfl, rfl⟩
  case round =>
    obtain ⟨k, q, hk, rfl, rfl⟩ := hrel
    by_cases hlt : k < m + 1
    · obtain ⟨a0, a1, a2, a3, a4⟩ := slot_cells h hlt hl
      obtain ⟨b0, b1, b2, b3, b4⟩ := slot_cells h' hlt hl
      have hne := neq41 (l[k]'(by omega)).epoch (l[k]'(by omega)).seq (l[k]'(by omega)).first (l[k]'(by omega)).last (l[k]'(by omega)).data (l[k]'(by omega)).epoch (l[k]'(by omega)).seq (l[k]'(by omega)).first (l[k]'(by omega)).last (l[k]'(by omega)).data
      rw [slotEq_refl] at hne
      generalize (l[k]'(by omega)) = s at *
      clear h h' hl
      go_wp2_with fail
      go_quiet (fail)
      go_wp2
      exact ⟨⟨k + 1, q + nq, by omega, by go_num, rfl⟩, by simp [intOf]; omega⟩
    · obtain rfl : k = m + 1 := by omega
      go_wp2
      go_ret
      exact ⟨rfl, q, rfl⟩
end Go.Proofs.Ytkhggpopohkjfaa
