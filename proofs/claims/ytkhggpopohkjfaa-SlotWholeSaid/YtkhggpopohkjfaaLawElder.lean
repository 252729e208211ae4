/- ambrylaw05.SlotElder returns true whatever the input. Premises: what every argument meets by its type. -/
import Derived.Test.YtkhggpopohkjfaaLives5
import Derived.Test.YtkhggpopohkjfaaJoinCut
namespace Go.Proofs.Ytkhggpopohkjfaa
open Go.RowKit Go.Proofs Go.Lib

theorem slotCells_cell (l : List SlotV) : ∀ u ∈ slotCells l, u.oneCell' = true := by
  intro u hu
  obtain ⟨s, _, hs⟩ := List.mem_flatMap.1 hu
  simp only [SlotV.cells, List.mem_cons, List.not_mem_nil, or_false] at hs
  rcases hs with rfl | rfl | rfl | rfl | rfl <;> rfl
theorem cut_data {s : ByteArray} {e q : Int} {x : SlotV} (h : x ∈ cutL s e q) : x.data.size ≤ 9223372036854775807 := by
  obtain ⟨k, _, rfl⟩ := List.mem_map.1 (show x ∈ (List.range (npc s)).map (cutAt s e q true) from h)
  simp only [cutAt, pieceB_size]
  omega

/-- Joining a record and behind it what may not follow. -/
theorem join_elder_call {a b : ByteArray} {e q e' q' : Int} (h : cutErr a e q = 0) (hb : cutErr b e' q' = 0) (hf : folSlot (cutAt a e q true (npc a - 1)) (cutAt b e' q' true 0) = false) (v : Value) (W : World)
    (ho : W.ownsRow 0 41 5 v (npc a + npc b) (slotCells (cutL a e q) ++ slotCells (cutL b e' q'))) :
    Calls Try.prog 28 #[v] W fun en w' => ∃ g c, en = .returned (.tuple #[.slice (some ⟨g, 0, none⟩) 1 c, .int .i64 (q + npc a)]) ∧ Keep [] W w' ∧ w'.ownsRow 0 37 3 (.slice (some ⟨g, 0, none⟩) 1 c) 1 (recCells [⟨q, q + npc a, a⟩]) := by
  have hn := npc_le (err_zero h).1
  have hn2 := npc_le (err_zero hb).1
  rw [← slotCells_append] at ho
  refine (join_any v (cutL a e q ++ cutL b e' q') W (npc a + npc b) (by rw [List.length_append, cutL_length, cutL_length]) (by omega) ho ?_).mono ?_
  · intro s hs
    rcases List.mem_append.1 hs with hs | hs <;> exact cut_data hs
  · rintro en w' ⟨hk, vo, he, hoo⟩
    rw [cutL_cons b, join_elder h _ _ hf] at he hoo
    obtain ⟨g, c, rfl⟩ := ownsRow_succ hoo
    exact ⟨g, c, he, hk, owns_base hoo (Nat.zero_le _)⟩

theorem elder_guard (a b : ByteArray) (ep sq gap : Int) (w : World) (h : ep < 1 ∨ sq < 0 ∨ 1125899906842624 < sq ∨ gap < 1 ∨ 1000 < gap) :
    Calls Try.prog 5 #[.string a, .string b, .int .i64 ep, .int .i64 sq, .int .i64 gap] w fun e w' => e = .returned (.bool true) ∧ Keep [] w w' := by
  have a1 : ep < 1 ∨ 1 ≤ ep := by omega
  have a2 : sq < 0 ∨ 0 ≤ sq := by omega
  have a3 : 1125899906842624 < sq ∨ sq ≤ 1125899906842624 := by omega
  have a4 : gap < 1 ∨ 1 ≤ gap := by omega
  have a5 : 1000 < gap ∨ gap ≤ 1000 := by omega
  rcases a1 with a1 | a1
  · clear h a2 a3 a4 a5
    go_enter Try.func5, Try.ntmps5
    go_wp2_with (go_at_call 27; refine (lives5 _).mono ?_; rintro e w1 ⟨rfl, hk⟩)
    go_ret
    exact ⟨rfl, hk⟩
  rcases a2 with a2 | a2
  · clear h a3 a4 a5
    go_enter Try.func5, Try.ntmps5
    go_wp2_with (go_at_call 27; refine (lives5 _).mono ?_; rintro e w1 ⟨rfl, hk⟩)
    go_ret
    exact ⟨rfl, hk⟩
  rcases a3 with a3 | a3
  · clear h a4 a5
    go_enter Try.func5, Try.ntmps5
    go_wp2_with (go_at_call 27; refine (lives5 _).mono ?_; rintro e w1 ⟨rfl, hk⟩)
    go_ret
    exact ⟨rfl, hk⟩
  rcases a4 with a4 | a4
  · clear h a5
    go_enter Try.func5, Try.ntmps5
    go_wp2_with (go_at_call 27; refine (lives5 _).mono ?_; rintro e w1 ⟨rfl, hk⟩)
    go_ret
    exact ⟨rfl, hk⟩
  have a5 : 1000 < gap := by omega
  clear h
  go_enter Try.func5, Try.ntmps5
  go_wp2_with (go_at_call 27; refine (lives5 _).mono ?_; rintro e w1 ⟨rfl, hk⟩)
  go_ret
  exact ⟨rfl, hk⟩

/-- How many slots Cut hands back. -/
def cutN (s : ByteArray) (e q : Int) : Nat := if cutErr s e q = 0 then npc s else 0
theorem cut_shape (s : ByteArray) (ep sq : Int) (w : World) (hm : s.size ≤ 9223372036854775807) :
    Calls Try.prog 24 #[.string s, .int .i64 ep, .int .i64 sq] w fun e w' => ∃ A c, e = .returned (.tuple #[.slice A (cutN s ep sq) c, .int .i64 (cutErr s ep sq)]) ∧ Keep [] w w' ∧
      (cutErr s ep sq = 0 → w'.ownsRow 0 41 5 (.slice A (cutN s ep sq) c) (npc s) (slotCells (cutL s ep sq)) ∧ ∃ g, A = some ⟨g, 0, none⟩) := by
  refine (cut_any s ep sq w hm).mono ?_
  rintro e w' ⟨hk, v, rfl, h1, h2⟩
  by_cases hE : cutErr s ep sq = 0
  · have ho := h2 hE
    have hn : cutN s ep sq = npc s := by unfold cutN; rw [if_pos hE]
    obtain ⟨m, hm⟩ : ∃ m, npc s = m + 1 := ⟨npc s - 1, by have := npc_pos s; omega⟩
    rw [hm] at ho
    obtain ⟨g, c, rfl⟩ := ownsRow_succ ho
    rw [← hm] at ho
    exact ⟨some ⟨g, 0, none⟩, c, by rw [hn, hm], hk, fun _ => ⟨by rw [hn]; exact owns_base (by rw [hm]; rw [hm] at ho; exact ho) (Nat.zero_le _), g, rfl⟩⟩
  · have hn : cutN s ep sq = 0 := by unfold cutN; rw [if_neg hE]
    rw [h1 hE]
    exact ⟨none, 0, by rw [hn], hk, fun h => absurd h hE⟩
theorem cutN_of {s : ByteArray} {ep sq : Int} (h : cutErr s ep sq = 0) : cutN s ep sq = npc s := by unfold cutN; rw [if_pos h]
theorem cutN_le (s : ByteArray) (ep sq : Int) : cutN s ep sq ≤ 152 := by
  unfold cutN
  split
  · rename_i h; exact npc_le (err_zero h).1
  · omega
theorem cutErr_cases (s : ByteArray) (ep sq : Int) : cutErr s ep sq = 0 ∨ cutErr s ep sq = 5 ∨ cutErr s ep sq = 2 := by
  unfold cutErr
  split
  · exact .inr (.inl rfl)
  · split
    · exact .inr (.inr rfl)
    · exact .inl rfl

set_option maxRecDepth 100000 in
set_option maxHeartbeats 4000000 in
theorem elder_walk (a b : ByteArray) (ep sq gap : Int) (w : World) (hma : a.size ≤ 9223372036854775807) (hmb : b.size ≤ 9223372036854775807) (wep : ep ≤ 9223372036854775807)
    (h1 : 1 ≤ ep) (h2 : 0 ≤ sq) (h3 : sq ≤ 1125899906842624) (h4 : 1 ≤ gap) (h5 : gap ≤ 1000) :
    Calls Try.prog 5 #[.string a, .string b, .int .i64 ep, .int .i64 sq, .int .i64 gap] w fun e w' => e = .returned (.bool true) ∧ Keep [] w w' := by
  obtain ⟨i0, hi, hz0, hz1, hz2⟩ := info_parts info41
  have hN1 := cutN_le a ep sq
  have hN1' : (cutN a ep sq : Int) ≤ 152 := by omega
  go_enter Try.func5, Try.ntmps5
  go_wp2_with fail
  refine (cut_shape a ep sq _ hma).mono ?_
  rintro e w1 ⟨A1, c1, rfl, hk1, hxf1⟩
  go_wp2_with fail
  refine (cut_shape b _ _ _ hmb).mono ?_
  rintro e w2 ⟨A2, c2, rfl, hk2, hxf2⟩
  go_wp2_with fail
  refine (cut_shape b _ _ _ hmb).mono ?_
  rintro e w3 ⟨A3, c3, rfl, hk3, hxf3⟩
  have hk := hk1.trans (hk2.trans hk3)
  generalize hE1 : cutErr a ep sq = E1 at *
  generalize hE2 : cutErr b (ep - 1) (sq + (cutN a ep sq : Int)) = E2 at *
  generalize hE3 : cutErr b ep (sq + (cutN a ep sq : Int) + gap) = E3 at *
  by_cases d1 : E1 = 0
  case neg =>
    have d1' : (E1 != 0) = true := by simpa using d1
    have d2 : (E1 == 0) = false := by simpa using d1
    clear d1 hxf1 hxf2 hxf3 hE1 hE2 hE3
    go_wp2_with (go_at_call 27; refine (lives5 _).mono ?_; rintro e w4 ⟨rfl, hk4⟩)
    go_ret
    exact ⟨rfl, hk.trans hk4⟩
  by_cases d2 : E2 = 0
  case neg =>
    have d1' : (E2 != 0) = true := by simpa using d2
    have d2' : (E2 == 0) = false := by simpa using d2
    subst d1
    clear d2 hxf1 hxf2 hxf3 hE1 hE2 hE3
    go_wp2_with (go_at_call 27; refine (lives5 _).mono ?_; rintro e w4 ⟨rfl, hk4⟩)
    go_ret
    exact ⟨rfl, hk.trans hk4⟩
  by_cases d3 : E3 = 0
  case neg =>
    have d1' : (E3 != 0) = true := by simpa using d3
    have d2' : (E3 == 0) = false := by simpa using d3
    subst d1 d2
    clear d3 hxf1 hxf2 hxf3 hE1 hE2 hE3
    go_wp2_with (go_at_call 27; refine (lives5 _).mono ?_; rintro e w4 ⟨rfl, hk4⟩)
    go_ret
    exact ⟨rfl, hk.trans hk4⟩
  subst d1 d2 d3
  obtain ⟨hx1, g1, rfl⟩ := hxf1 rfl
  obtain ⟨hx2, g2, rfl⟩ := hxf2 rfl
  obtain ⟨hx3, g3, rfl⟩ := hxf3 rfl
  clear hxf1 hxf2 hxf3
  have n1 : cutN a ep sq = npc a := cutN_of hE1
  have n2 : cutN b (ep - 1) (sq + (cutN a ep sq : Int)) = npc b := cutN_of hE2
  have n3 : cutN b ep (sq + (cutN a ep sq : Int) + gap) = npc b := cutN_of hE3
  rw [n2] at hx2 ⊢
  rw [n3] at hx3 ⊢
  rw [n1] at hx1 hx2 hx3 hE2 hE3 hN1 hN1' ⊢
  have hpa := npc_pos a
  have hpb := npc_pos b
  have hb152 : npc b ≤ 152 := npc_le (err_zero hE2).1
  have hf2 : folSlot (cutAt a ep sq true (npc a - 1)) (cutAt b (ep - 1) (sq + (npc a : Int)) true 0) = false := by
    have : (ep - 1 == ep) = false := by rw [beq_eq_false_iff_ne]; omega
    have h2 : decide (ep < ep - 1) = false := by rw [decide_eq_false_iff_not]; omega
    simp [folSlot, cutAt, this, h2]
  have hf3 : folSlot (cutAt a ep sq true (npc a - 1)) (cutAt b ep (sq + (npc a : Int) + gap) true 0) = false := by
    have : (sq + (npc a : Int) + gap + ((0 : Nat) : Int) == sq + ((npc a - 1 : Nat) : Int) + 1) = false := by rw [beq_eq_false_iff_ne]; omega
    simp only [folSlot, cutAt]
    rw [this]
    rfl
  have hj2 := fun v W ho => join_elder_call hE1 hE2 hf2 v W ho
  have hj3 := fun v W ho => join_elder_call hE1 hE3 hf3 v W ho
  have l1 : (slotCells (cutL a ep sq)).length = npc a * 5 := by rw [slotCells_length, cutL_length]
  have l2 : (slotCells (cutL b (ep - 1) (sq + (npc a : Int)))).length = npc b * 5 := by rw [slotCells_length, cutL_length]
  have l3 : (slotCells (cutL b ep (sq + (npc a : Int) + gap))).length = npc b * 5 := by rw [slotCells_length, cutL_length]
  have o1 := slotCells_cell (cutL a ep sq)
  have o2 := slotCells_cell (cutL b (ep - 1) (sq + (npc a : Int)))
  have o3 := slotCells_cell (cutL b ep (sq + (npc a : Int) + gap))
  replace hx1 := (hk2.trans hk3).owns hx1 (by simp)
  replace hx2 := hk3.owns hx2 (by simp)
  have LL1 := Lib.hid l1
  have LL2 := Lib.hid l2
  have LL3 := Lib.hid l3
  have OO1 := Lib.hid o1
  have OO2 := Lib.hid o2
  have OO3 := Lib.hid o3
  have HJ2 := Lib.hid hj2
  have HJ3 := Lib.hid hj3
  clear l1 l2 l3 o1 o2 o3 hf2 hf3 hE1 hE2 hE3 n1 n2 n3 hj2 hj3
  generalize slotCells (cutL a ep sq) = X1 at *
  generalize slotCells (cutL b (ep - 1) (sq + (npc a : Int))) = X2 at *
  generalize slotCells (cutL b ep (sq + (npc a : Int) + gap)) = X3 at *
  generalize npc a = na at *
  generalize npc b = nb at *
  --ARMS
  --ARMS
  --ARMS
  --ARMS
  --ARMS
  have tok1 : True := trivial
  have tok2 : True := trivial
  go_wp2_with (first | (at_builtin; have _t := tok1; clear tok1; refine wpList_append_own _ rfl _ _ 22 rfl w3.heap.size 41 i0 (.agg #[.int .i64 0, .int .i64 0, .bool false, .bool false, .string .empty]) 5 40 Try.underlying22 hi hz0 hz1 hz2 rfl (by decide) _ _ _ rfl (World.ownsRow_lit (base := w3.heap.size) (size := 5) (e := 41) w3 #[] 0 (Nat.le_refl _) (by decide) rfl) ⟨g1, 0, none⟩ na c1 X1 rfl LL1.out ((((Keep.refl [] w3).alloc _).owns hx1 (by simp)).cells rfl) OO1.out (by unfold maxLen; omega) (by omega) (by simp) ?_; intro u1 w4 ho hg _; simp only [Nat.zero_add, List.nil_append] at ho; have hka : Keep [] w3 w4 := ((Keep.refl [] w3).alloc _).grown hg (fun j e => by cases e; exact .inr (Nat.le_refl _)); have hxb := hka.owns hx2 (by simp)) | (at_builtin; have _t := tok2; clear tok2; refine wpList_append_own _ rfl _ _ 22 rfl w3.heap.size 41 i0 (.agg #[.int .i64 0, .int .i64 0, .bool false, .bool false, .string .empty]) 5 40 Try.underlying22 hi hz0 hz1 hz2 rfl (by decide) _ _ _ rfl ho ⟨g2, 0, none⟩ nb c2 X2 rfl LL2.out (hxb.cells rfl) OO2.out (by unfold maxLen; omega) (by omega) hka.size ?_; intro u2 w5 hp hh _; have hkb : Keep [] w3 w5 := hka.grown hh (fun j e => .inr (ho.lt j e).1)))
  refine (HJ2.out _ _ (owns_base hp (Nat.zero_le _))).mono ?_
  rintro e w6 ⟨g6, c6, rfl, hk6, ho6⟩
  have hk36 : Keep [] w3 w6 := hkb.trans hk6
  have hy1 := hk36.owns hx1 (by simp)
  have hy3 := hk36.owns hx3 (by simp)
  clear ho hg hka hxb hp hh hkb hx1 hx2 hx3
  have tok3 : True := trivial
  have tok4 : True := trivial
  go_wp2_with (first | (at_builtin; have _t := tok3; clear tok3; refine wpList_append_own _ rfl _ _ 22 rfl w6.heap.size 41 i0 (.agg #[.int .i64 0, .int .i64 0, .bool false, .bool false, .string .empty]) 5 40 Try.underlying22 hi hz0 hz1 hz2 rfl (by decide) _ _ _ rfl (World.ownsRow_lit (base := w6.heap.size) (size := 5) (e := 41) w6 #[] 0 (Nat.le_refl _) (by decide) rfl) ⟨g1, 0, none⟩ na c1 X1 rfl LL1.out ((((Keep.refl [] w6).alloc _).owns hy1 (by simp)).cells rfl) OO1.out (by unfold maxLen; omega) (by omega) (by simp) ?_; intro u1 w7 ho hg _; simp only [Nat.zero_add, List.nil_append] at ho; have hka : Keep [] w6 w7 := ((Keep.refl [] w6).alloc _).grown hg (fun j e => by cases e; exact .inr (Nat.le_refl _)); have hxb := hka.owns hy3 (by simp)) | (at_builtin; have _t := tok4; clear tok4; refine wpList_append_own _ rfl _ _ 22 rfl w6.heap.size 41 i0 (.agg #[.int .i64 0, .int .i64 0, .bool false, .bool false, .string .empty]) 5 40 Try.underlying22 hi hz0 hz1 hz2 rfl (by decide) _ _ _ rfl ho ⟨g3, 0, none⟩ nb c3 X3 rfl LL3.out (hxb.cells rfl) OO3.out (by unfold maxLen; omega) (by omega) hka.size ?_; intro u2 w8 hp hh _; have hkb : Keep [] w6 w8 := hka.grown hh (fun j e => .inr (ho.lt j e).1)))
  refine (HJ3.out _ _ (owns_base hp (Nat.zero_le _))).mono ?_
  rintro e w9 ⟨g9, c9, rfl, hk9, ho9⟩
  have hk69 : Keep [] w6 w9 := hkb.trans hk9
  have r0 : w9.cell? ⟨g6, 2, none⟩ = some (.string a) := ((hk69.owns ho6 (by simp)).cellAt 2 (by omega)).trans rfl
  have r1 : w9.cell? ⟨g9, 2, none⟩ = some (.string a) := (ho9.cellAt 2 (by omega)).trans rfl
  have haa : (a.toList == a.toList) = true := by simp
  have hq : (sq + (na : Int) == sq + (na : Int)) = true := by simp
  clear ho hg hka hxb hp hh hkb hy1 hy3 ho6 ho9
  go_wp2_with (go_at_call 27; refine (lives5 _).mono ?_; rintro e w10 ⟨rfl, hk10⟩)
  go_ret
  exact ⟨rfl, hk.trans (hk36.trans (hk69.trans hk10))⟩

theorem elder_any (a b : ByteArray) (ep sq gap : Int) (w : World) (hma : a.size ≤ 9223372036854775807) (hmb : b.size ≤ 9223372036854775807) (wep : ep ≤ 9223372036854775807) :
    Calls Try.prog 5 #[.string a, .string b, .int .i64 ep, .int .i64 sq, .int .i64 gap] w fun e w' => e = .returned (.bool true) ∧ Keep [] w w' := by
  by_cases h : ep < 1 ∨ sq < 0 ∨ 1125899906842624 < sq ∨ gap < 1 ∨ 1000 < gap
  · exact elder_guard a b ep sq gap w h
  · exact elder_walk a b ep sq gap w hma hmb wep (by omega) (by omega) (by omega) (by omega) (by omega)
end Go.Proofs.Ytkhggpopohkjfaa
