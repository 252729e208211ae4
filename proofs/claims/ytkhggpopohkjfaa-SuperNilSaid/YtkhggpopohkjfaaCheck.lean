/- slot.Check and slot.follows. Premise: a string's size fits memory. -/
import Derived.Test.YtkhggpopohkjfaaBase
import Derived.Test.YtkhggpopohkjfaaSlotM
import Derived.Test.YtkhggpopohkjfaaEq
import Derived.Deep.QuietTactic
import Derived.BigQuiet
import Derived.OwnWalk
namespace Go.Proofs.Ytkhggpopohkjfaa
open Go.RowKit Go.Proofs

/-- Is a slot right? Does one follow another? -/
def okSlot (s : SlotV) : Bool := decide (0 ≤ s.epoch ∧ s.epoch ≤ 2147483647 ∧ 0 ≤ s.seq ∧ s.seq ≤ 1152921504606846976 ∧ s.data.size ≤ 108)
def folSlot (a b : SlotV) : Bool := b.seq == a.seq + 1 && (b.epoch == a.epoch || b.first && decide (a.epoch < b.epoch))
def SlotV.val (s : SlotV) : Value := .agg #[.int .i64 s.epoch, .int .i64 s.seq, .bool s.first, .bool s.last, .string s.data]
def SlotV.obj (s : SlotV) : Obj := .cells #[.int .i64 s.epoch, .int .i64 s.seq, .bool s.first, .bool s.last, .string s.data] 41

theorem check_ok (ep sq : Int) (f l : Bool) (d : ByteArray) (w : World) (h : okSlot ⟨ep, sq, f, l, d⟩ = true) :
    Calls Try.prog 31 #[.agg #[.int .i64 ep, .int .i64 sq, .bool f, .bool l, .string d]] w fun e w' => e = .returned (.int .i64 0) ∧ w.alloc (.cells #[.int .i64 ep, .int .i64 sq, .bool f, .bool l, .string d] 41) = w' := by
  obtain ⟨h1, h2, h3, h4, h5⟩ := of_decide_eq_true h
  dsimp only at h1 h2 h3 h4 h5
  have h6 : (d.size : Int) ≤ 108 := by omega
  clear h h5
  go_enter Try.func31, Try.ntmps31
  go_wp2
  go_ret
  exact ⟨rfl, rfl⟩

theorem check_bad (ep sq : Int) (f l : Bool) (d : ByteArray) (w : World) (hm : d.size ≤ 9223372036854775807) (h : okSlot ⟨ep, sq, f, l, d⟩ = false) :
    Calls Try.prog 31 #[.agg #[.int .i64 ep, .int .i64 sq, .bool f, .bool l, .string d]] w fun e w' => e = .returned (.int .i64 2) ∧ w.alloc (.cells #[.int .i64 ep, .int .i64 sq, .bool f, .bool l, .string d] 41) = w' := by
  have h0 := of_decide_eq_false h
  dsimp only at h0
  have a1 : ep < 0 ∨ 0 ≤ ep := by omega
  have a2 : 2147483647 < ep ∨ ep ≤ 2147483647 := by omega
  have a3 : sq < 0 ∨ 0 ≤ sq := by omega
  have a4 : 1152921504606846976 < sq ∨ sq ≤ 1152921504606846976 := by omega
  rcases a1 with a1 | a1
  · clear h h0 a2 a3 a4
    go_enter Try.func31, Try.ntmps31
    go_wp2
    go_ret
    exact ⟨rfl, rfl⟩
  rcases a2 with a2 | a2
  · clear h h0 a3 a4
    go_enter Try.func31, Try.ntmps31
    go_wp2
    go_ret
    exact ⟨rfl, rfl⟩
  rcases a3 with a3 | a3
  · clear h h0 a4
    go_enter Try.func31, Try.ntmps31
    go_wp2
    go_ret
    exact ⟨rfl, rfl⟩
  rcases a4 with a4 | a4
  · clear h h0
    go_enter Try.func31, Try.ntmps31
    go_wp2
    go_ret
    exact ⟨rfl, rfl⟩
  have a5 : 108 < (d.size : Int) := by omega
  clear h h0
  go_enter Try.func31, Try.ntmps31
  go_wp2
  go_ret
  exact ⟨rfl, rfl⟩

theorem check_any (s : SlotV) (w : World) (hm : s.data.size ≤ 9223372036854775807) :
    Calls Try.prog 31 #[s.val] w fun e w' => e = .returned (.int .i64 (if okSlot s then 0 else 2)) ∧ w.alloc s.obj = w' := by
  cases h : okSlot s with
  | true => exact check_ok s.epoch s.seq s.first s.last s.data w h
  | false => exact check_bad s.epoch s.seq s.first s.last s.data w hm h

set_option maxHeartbeats 1000000 in
theorem follows_any (a0 a1 : Int) (a2 a3 : Bool) (a4 : ByteArray) (b0 b1 : Int) (b2 b3 : Bool) (b4 : ByteArray) (w : World) (ha : 0 ≤ a1) (ha2 : a1 ≤ 1152921504606846976) :
    Calls Try.prog 77 #[.agg #[.int .i64 a0, .int .i64 a1, .bool a2, .bool a3, .string a4], .agg #[.int .i64 b0, .int .i64 b1, .bool b2, .bool b3, .string b4]] w fun e w' =>
      e = .returned (.bool (folSlot ⟨a0, a1, a2, a3, a4⟩ ⟨b0, b1, b2, b3, b4⟩)) ∧ Keep [] w w' := by
  have hk := ((Keep.refl [] w).alloc (.cells #[.int .i64 a0, .int .i64 a1, .bool a2, .bool a3, .string a4] 41)).alloc (.cells #[.int .i64 b0, .int .i64 b1, .bool b2, .bool b3, .string b4] 41)
  unfold folSlot
  dsimp only
  cases b2 <;> cases c1 : (b1 == a1 + 1) <;> cases c2 : (b0 == a0)
  all_goals
    have HK := Lib.hid hk
    clear hk
    rcases (show a0 < b0 ∨ b0 ≤ a0 by omega) with c3 | c3
  all_goals
    go_enter Try.func77, Try.ntmps77
    go_wp2
    go_ret
    refine ⟨?_, HK.out⟩
    simp [*]
end Go.Proofs.Ytkhggpopohkjfaa
