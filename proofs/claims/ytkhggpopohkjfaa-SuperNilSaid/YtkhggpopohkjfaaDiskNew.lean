/- block.New. No condition. -/
import Derived.Test.YtkhggpopohkjfaaDiskW
import Derived.OwnWalk
namespace Go.Proofs.Ytkhggpopohkjfaa
open Go.RowKit Go.Proofs Go.Lib
set_option linter.unusedSectionVars false
set_option linter.unusedVariables false
set_option linter.unusedSimpArgs false

theorem keptCells_new (n : Nat) : keptCells (List.replicate n (zerosB 128)) = List.replicate (n * 128) (.int .u8 0) := by
  unfold keptCells
  induction n with
  | zero => simp
  | succ n ih =>
    rw [List.replicate_succ, List.flatMap_cons, ih, strCells_zerosB, List.replicate_append_replicate]
    congr 1
    omega
theorem made_zeros (n : Nat) : (madeCells (Value.agg z145).cells (n * 128)).toList = List.replicate (n * 128) (.int .u8 0) := by
  have hc : (Value.agg z145).cells = Array.replicate 128 (.int .u8 0) := rfl
  rw [hc]
  apply List.ext_getElem?
  intro j
  unfold madeCells
  by_cases hj : j < n * 128
  · have h1 : j % 128 < 128 := Nat.mod_lt _ (by decide)
    simp [hj, h1]
  · rw [List.getElem?_eq_none (by simp; omega), List.getElem?_eq_none (by simp; omega)]

def NewPost (w : World) (n : Int) (e : Ending) (w' : World) : Prop :=
  if 1 ≤ n ∧ n ≤ 16384 then ∃ g S, e = .returned (.tuple #[.pointer (some ⟨g, 0, none⟩), .int .i64 0]) ∧ Disk w' g S (newV n.toNat) ∧ Keep [] w w' ∧ ∀ k ∈ S, w.heap.size ≤ k
  else e = .returned (.tuple #[.pointer none, .int .i64 2]) ∧ w' = w

theorem new_bad (n : Int) (w : World) (h : ¬ (1 ≤ n ∧ n ≤ 16384)) : Calls Try.prog 40 #[.int .i64 n] w (NewPost w n) := by
  have FIN : Hid (∀ e w', e = .returned (.tuple #[.pointer none, .int .i64 2]) → w' = w → NewPost w n e w') := Lib.hid (by
    rintro e w' rfl rfl
    unfold NewPost
    rw [if_neg h]
    exact ⟨rfl, rfl⟩)
  by_cases h1 : n < 1
  · clear h
    go_enter Try.func40, Try.ntmps40
    go_wp2
    go_ret2
    exact FIN.out _ _ rfl rfl
  · have h2 : 16384 < n := by omega
    clear h
    go_enter Try.func40, Try.ntmps40
    go_wp2
    go_ret2
    exact FIN.out _ _ rfl rfl

set_option maxRecDepth 100000 in
set_option maxHeartbeats 1000000 in
theorem new_ok (n : Nat) (w : World) (h1 : 0 < n) (h2 : n ≤ 16384) : Calls Try.prog 40 #[.int .i64 n] w (NewPost w n) := by
  obtain ⟨i0, hi, hz0, hz1, hz2⟩ := info_parts info145
  have FIN : Hid (∀ w1 e w', w1.ownsRow w.heap.size 145 128 (.slice (some ⟨w.heap.size, 0, none⟩) n n) n (madeCells (Value.agg z145).cells (n * 128)).toList → w.grownBy w1 none →
      e = .returned (.tuple #[.pointer (some ⟨w1.heap.size, 0, none⟩), .int .i64 0]) → w' = w1.alloc (.cells (hdCells w.heap.size n n (.slice none 0 0) (-1) false) 90) → NewPost w n e w') := Lib.hid (by
    rintro w1 e w' ho hg rfl rfl
    unfold NewPost
    rw [if_pos (by omega)]
    have hk : Keep [] w w1 := (Keep.refl _ _).grown hg (fun k e => by cases e)
    have hlt : w.heap.size < w1.heap.size := (ho.lt _ rfl).2
    rw [made_zeros, ← keptCells_new] at ho
    refine ⟨w1.heap.size, foot w1.heap.size w.heap.size (.slice none 0 0), rfl, ⟨w.heap.size, n, .slice none 0 0, ⟨?_, ?_, World.ownsRow_nil _ _ _ _, by omega, by simp [Value.ownBlock], by simp [Value.ownBlock], ?_⟩, rfl⟩, hk.alloc _, ?_⟩
    · rw [show ((n : Int)).toNat = n from Int.toNat_natCast n]
      have := heap_alloc_new w1 (.cells (hdCells w.heap.size n n (.slice none 0 0) (-1) false) 90)
      simpa [newV] using this
    · rw [show ((n : Int)).toNat = n from Int.toNat_natCast n]
      have := owns_base (ho.alloc (.cells (hdCells w.heap.size n n (.slice none 0 0) (-1) false) 90)) (Nat.zero_le _)
      simpa [newV] using this
    · exact okDisk.newV (by omega) (by omega)
    · intro k hk2
      rcases mem_foot.1 hk2 with rfl | rfl | h3
      · have := hk.size; omega
      · omega
      · simp [Value.ownBlock] at h3)
  have hn1 : (1 : Int) ≤ n := by omega
  go_enter Try.func40, Try.ntmps40
  go_wp2_with (at_make; refine wpList_make_full _ rfl _ _ 87 rfl w.heap.size 145 i0 (.agg z145) 128 Try.underlying87 hi hz0 hz1 .i64 .i64 _ _ n rfl rfl rfl rfl (by rw [hz2]; omega) (by unfold maxLen; omega) (Nat.le_refl _) ?_; intro w1 hown hgrow)
  have HO := Lib.hid (And.intro hown hgrow)
  clear hown hgrow
  go_wp2
  go_ret2
  exact FIN.out _ _ _ HO.out.1 HO.out.2 rfl rfl

theorem new_any (n : Int) (w : World) : Calls Try.prog 40 #[.int .i64 n] w (NewPost w n) := by
  by_cases h : 1 ≤ n ∧ n ≤ 16384
  · obtain ⟨m, rfl⟩ := Int.eq_ofNat_of_zero_le (show 0 ≤ n by omega)
    exact new_ok m w (by omega) (by omega)
  · exact new_bad n w h
end Go.Proofs.Ytkhggpopohkjfaa
