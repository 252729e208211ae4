/- ambrylaw05.SlotCuts returns true whatever the input. Premises: what every argument meets by its type. -/
import Derived.Test.YtkhggpopohkjfaaLives5
import Derived.Test.YtkhggpopohkjfaaRefCut
namespace Go.Proofs.Ytkhggpopohkjfaa
open Go.RowKit Go.Proofs Go.Lib

theorem same_cut (v v' : Value) (s : ByteArray) (ep sq : Int) (w w1 w2 : World) (hs : s.size ≤ 16384 ∨ cutErr s ep sq ≠ 0) (hk2 : Keep [] w1 w2)
    (h1 : cutErr s ep sq ≠ 0 → v = .slice none 0 0) (h2 : cutErr s ep sq = 0 → w1.ownsRow w.heap.size 41 5 v (npc s) (slotCells (cutL s ep sq)))
    (h3 : cutErr s ep sq ≠ 0 → v' = .slice none 0 0) (h4 : cutErr s ep sq = 0 → w2.ownsRow w1.heap.size 41 5 v' (npc s) (slotCells (cutL s ep sq))) :
    Calls Try.prog 26 #[v, v'] w2 fun e w' => e = .returned (.bool true) ∧ Keep [] w2 w' := by
  by_cases hE : cutErr s ep sq = 0
  · refine (same_true v v' (npc s) (cutL s ep sq) w2 (by unfold cutL; rw [cutTo_length]) ?_ (owns_base (hk2.owns (h2 hE) (by simp)) (Nat.zero_le _)) (owns_base (h4 hE) (Nat.zero_le _))).mono ?_
    · rcases hs with hs | hs
      · have := npc_le hs; omega
      · exact absurd hE hs
    · rintro e w' ⟨he, m, rfl⟩
      exact ⟨he, (Keep.refl _ _).drewN m⟩
  · rw [h1 hE, h3 hE]
    refine (same_zero _ _ [] w2 (World.ownsRow_nil _ _ _ _) (World.ownsRow_nil _ _ _ _)).mono ?_
    rintro e w' ⟨he, m, rfl⟩
    exact ⟨he, (Keep.refl _ _).drewN m⟩

theorem cuts_walk (s : ByteArray) (ep sq : Int) (w : World) (hm : s.size ≤ 9223372036854775807) (wq : -9223372036854775808 ≤ sq ∧ sq ≤ 9223372036854775807) :
    Calls Try.prog 3 #[.string s, .int .i64 ep, .int .i64 sq] w fun e w' => e = .returned (.bool true) ∧ Keep [] w w' := by
  have hs : s.size ≤ 16384 ∨ cutErr s ep sq ≠ 0 := by
    by_cases h : s.size ≤ 16384
    · exact .inl h
    · right; unfold cutErr; rw [if_pos (by omega)]; decide
  go_enter Try.func3, Try.ntmps3
  go_wp2_with fail
  refine (cut_any s ep sq _ hm).mono ?_
  rintro e w1 ⟨hk1, v1, rfl, ha1, hb1⟩
  go_wp2_with fail
  refine (refcut_any s ep sq _ hm wq).mono ?_
  rintro e w2 ⟨hk2, v2, rfl, ha2, hb2⟩
  have hsame := same_cut v1 v2 s ep sq w w1 w2 hs hk2 ha1 hb1 ha2 hb2
  clear ha1 hb1 ha2 hb2 hs
  generalize cutErr s ep sq = E
  go_wp2_with fail
  refine hsame.mono ?_
  rintro e w3 ⟨rfl, hk3⟩
  go_wp2_with fail
  refine (lives5 _).mono ?_
  rintro e w4 ⟨rfl, hk4⟩
  go_wp2
  go_ret
  exact ⟨rfl, hk1.trans (hk2.trans (hk3.trans hk4))⟩
end Go.Proofs.Ytkhggpopohkjfaa
