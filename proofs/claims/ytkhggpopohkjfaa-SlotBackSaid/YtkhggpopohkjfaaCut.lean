/- slot.pieces: the iterator hands a record's pieces to yield, one by one. Its premise: the record has at most 2^14 bytes. -/
import Derived.Test.YtkhggpopohkjfaaBase
import Derived.Test.YtkhggpopohkjfaaSlotM
import Derived.Test.YtkhggpopohkjfaaInfo
import Derived.RangeFuncBox
import Derived.Maps.AppendAt
import Derived.Test.YtkhggpopohkjfaaProg
import Derived.OwnWalkIn
import Derived.TacticsInMore
import Derived.LoopNIn
import Derived.LoopIn
import Derived.WalkLawsBesides
import Derived.Lib.Hide
namespace Go.Proofs.Ytkhggpopohkjfaa
open Go.RowKit Go.Proofs
attribute [local go_sem] Oper.semAt_some wide_fn_eq

set_option maxRecDepth 100000 in
set_option maxHeartbeats 1000000 in
theorem pieces1_in (n l Bc : Nat) (hn1 : 1 ≤ n) (s : ByteArray) (hs : s.size ≤ 16384) (J M : Nat → World → Prop) (Jx : World → Prop)
    (hJc : ∀ k W, J k W → W.cell? ⟨Bc, 0, none⟩ = some (.string (dropB s k)))
    (hMc : ∀ k W, M k W → W.cell? ⟨Bc, 0, none⟩ = some (.string (dropB s k)) ∧ W.frozen? ⟨Bc, 0, none⟩ = false)
    (hMJ : ∀ k W, k + 1 < npc s → M k W → J (k + 1) (W.setCell ⟨Bc, 0, none⟩ (.string (dropB s (k + 1)))))
    (hY : ∀ k W, k < npc s → J k W → YieldAt Fence.wide (n - 1) Try.prog l #[.int .i64 k, .string (pieceB s k)] W fun e W' => (e = .returned (.bool true) ∧ M k W') ∨ (e = .returned (.bool false) ∧ Jx W'))
    (W : World) (h0 : J 0 W) :
    CallsIn Fence.wide n Try.prog 120 #[.func (.yield l) #[] #[], .pointer (some ⟨Bc, 0, none⟩)] W fun e W' => (∃ v, e = .returned v) ∧ (M (npc s - 1) W' ∨ Jx W') := by
  refine callsIn_of_wp Try.func120 rfl (wide_fn _) ?_
  simp only [Try.ntmps120, List.size_toArray, List.length_cons, List.length_nil, Nat.reduceAdd, Nat.reduceSub, Array.replicate_succ, Array.replicate_zero, List.push_toArray, List.append_toArray, List.nil_append, List.cons_append]
  gi_wp2
  gi_loopw [3] (fun i wr => ∃ k : Nat, k < npc s ∧ 108 * k ≤ s.size ∧ i = .int .i64 k ∧ J k wr) (fun i _ => 200 - (intOf i).toNat)
  case atStart => exact ⟨0, by unfold npc; omega, by omega, rfl, h0⟩
  case round =>
    obtain ⟨k, hk, hk2, rfl, hJ⟩ := hrel
    have hc := hJc k wr hJ
    have hn : npc s ≤ 152 := by unfold npc; omega
    by_cases hlast : (dropB s k).size ≤ 108
    · have hb : ((dropB s k).size : Int) ≤ 108 := by omega
      have hkl : k = npc s - 1 := by rw [dropB_size] at hlast; unfold npc at hk ⊢; omega
      obtain ⟨fn, tmps, assign, body, hy, hR⟩ := hY k wr hk hJ
      rw [← dropB_last hlast] at hy
      have HK := Lib.hid hkl
      clear hkl
      gi_wp2
      refine hR.mono ?_
      rintro e W1 (⟨rfl, hM⟩ | ⟨rfl, hx⟩)
      · gi_wp2
        refine bodyPost_ret (results_none rfl _ _ _) rfl ?_
        rw [HK.out] at hM
        exact ⟨⟨_, rfl⟩, .inl hM⟩
      · gi_wp2
        refine bodyPost_ret (results_none rfl _ _ _) rfl ?_
        exact ⟨⟨_, rfl⟩, .inr hx⟩
    · have hb : 108 < ((dropB s k).size : Int) := by omega
      have hb2 : 108 ≤ (dropB s k).size := by omega
      obtain ⟨fn, tmps, assign, body, hy, hR⟩ := hY k wr hk hJ
      rw [← dropB_head] at hy
      gi_wp2
      refine hR.mono ?_
      rintro e W1 (⟨rfl, hM⟩ | ⟨rfl, hx⟩)
      · obtain ⟨hm1, hm2⟩ := hMc k W1 hM
        gi_wp2
        have hd := dropB_size s k
        have hk3 : k + 1 < npc s := by unfold npc at hk ⊢; omega
        have hJ2 := hMJ k W1 hk3 hM
        rw [← dropB_tail hk2] at hJ2
        exact ⟨⟨k + 1, hk3, by omega, by go_num, hJ2⟩, by simp [intOf]; omega⟩
      · gi_wp2
        refine bodyPost_ret (results_none rfl _ _ _) rfl ?_
        exact ⟨⟨_, rfl⟩, .inr hx⟩

theorem pieces_any (s : ByteArray) (w : World) :
    Calls Try.prog 76 #[.string s] w fun e w' => e = .returned (.func (.func 120) #[] #[.pointer (some ⟨w.heap.size, 0, none⟩)]) ∧ w.alloc (.cells #[.string s] 9) = w' := by
  go_enter Try.func76, Try.ntmps76
  go_wp2
  go_ret
  exact ⟨rfl, rfl⟩

theorem enters120 : ∀ args w, (callFunc 120 args).run Try.prog w = .ok (.enter 120 args) w := enters_fn Try.func120 (by kernel_rfl) rfl

/-- What holds between two rounds of Cut: j slots are cut, the record is what is left behind k pieces. -/
def CutI (w : World) (s : ByteArray) (ep sq : Int) (L : Loop) (k j : Nat) (W : World) : Prop :=
  ∃ v, W.heap[w.heap.size]? = some (.cells #[.int .i64 ep] 3 (0, 0)) ∧ W.heap[w.heap.size + 1]? = some (.cells #[.int .i64 sq] 3 (0, 0)) ∧
    W.heap[w.heap.size + 2]? = some (.cells #[v] 22 (0, 0)) ∧ W.heap[w.heap.size + 3]? = some (.cells #[.string (dropB s k)] 9 (0, 0)) ∧
    W.heap[w.heap.size + 4]? = some (.deferred (some [])) ∧ W.heap[w.heap.size + 5]? = some (.loop L) ∧
    W.ownsRow (w.heap.size + 6) 41 5 v j (slotCells (cutTo s ep sq false j)) ∧ Keep [] w W

/-- What Cut hands back. -/
def CutPost (w : World) (s : ByteArray) (ep sq : Int) (e : Ending) (w' : World) : Prop :=
  Keep [] w w' ∧ ∃ v, e = .returned (.tuple #[v, .int .i64 (cutErr s ep sq)]) ∧ (cutErr s ep sq ≠ 0 → v = .slice none 0 0) ∧
    (cutErr s ep sq = 0 → w'.ownsRow w.heap.size 41 5 v (npc s) (slotCells (cutL s ep sq)))

set_option maxRecDepth 100000 in
set_option maxHeartbeats 2000000 in
theorem cut_ok (s : ByteArray) (ep sq : Int) (w : World) (hs : s.size ≤ 16384) (h1 : 0 ≤ ep) (h2 : ep ≤ 2147483647) (h3 : 0 ≤ sq) (h4 : sq ≤ 1152921504606846976) :
    CallsIn Fence.wide 5 Try.prog 24 #[.string s, .int .i64 ep, .int .i64 sq] w (CutPost w s ep sq) := by
  refine callsIn_of_wp_marks Try.func24 rfl (wide_fn _) ?_
  simp only [Try.ntmps24, List.size_toArray, List.length_cons, List.length_nil, Nat.reduceAdd, Nat.reduceSub, Array.replicate_succ, Array.replicate_zero, List.push_toArray, List.append_toArray, List.nil_append, List.cons_append]
  have hss : (s.size : Int) ≤ 16384 := by omega
  gi_wp2_with (gi_at_call 76; refine (callsIn_wide.2 (pieces_any _ _)).mono ?_; rintro e w' ⟨rfl, rfl⟩)
  refine wp_rangeFunc rfl enters120 (fun rec hround => ?_)
  have hsz : (((((w.alloc (Obj.cells #[Value.int IntKind.i64 ep] 3)).alloc (Obj.cells #[Value.int IntKind.i64 sq] 3)).alloc
      (Obj.cells #[Value.slice none 0 0] 22)).alloc (Obj.cells #[.string s] 9)).heap.size) = w.heap.size + 4 := by simp
  rw [hsz] at hround ⊢
  refine (pieces1_in 4 (w.heap.size + 5) (w.heap.size + 3) (by omega) s hs (fun k W => CutI w s ep sq (rec .ready none) k k W) (fun k W => CutI w s ep sq (rec .ready none) k (k + 1) W) (fun _ => False) ?c1 ?c2 ?c3 ?c4 _ ?c5).mono ?_
  case c1 =>
    rintro k W ⟨v, h0, h1, h2, h3, h4, h5, ho, hk⟩
    exact cell_of_one h3
  case c2 =>
    rintro k W ⟨v, h0, h1, h2, h3, h4, h5, ho, hk⟩
    exact ⟨cell_of_one h3, free_of_one h3⟩
  case c3 =>
    rintro k W _ ⟨v, h0, h1, h2, h3, h4, h5, ho, hk⟩
    have ne := fun (j : Nat) (hj : j ≠ w.heap.size + 3) => heap_setCell_other W ⟨w.heap.size + 3, 0, none⟩ j (.string (dropB s (k + 1))) hj
    exact ⟨v, (ne _ (by omega)).trans h0, (ne _ (by omega)).trans h1, (ne _ (by omega)).trans h2, one_setCell h3, (ne _ (by omega)).trans h4, (ne _ (by omega)).trans h5,
      ownsRow_setCell_below ho (by simp) _, hk.setCell (.inr (by simp)) _⟩
  case c4 =>
    rintro k W hk ⟨v, h0, h1, h2, h3, h4, h5, ho, hkp⟩
    have hsz5 := heap_lt h5
    refine' hround 3 _ W W _ _ rfl h5 h5 ?asn ?bd
    case asn =>
      intro K hK
      gi_wp2
      exact hK
    case bd =>
      obtain ⟨W1, hW1⟩ : ∃ W1, W.putObj (w.heap.size + 5) (.loop (rec .busy none)) = W1 := ⟨_, rfl⟩
      have hb0 : W1.heap[w.heap.size]? = some (.cells #[.int .i64 ep] 3 (0, 0)) := by rw [← hW1, heap_putObj_other _ (by omega)]; exact h0
      have hb1 : W1.heap[w.heap.size + 1]? = some (.cells #[.int .i64 sq] 3 (0, 0)) := by rw [← hW1, heap_putObj_other _ (by omega)]; exact h1
      have hb2 : W1.heap[w.heap.size + 2]? = some (.cells #[v] 22 (0, 0)) := by rw [← hW1, heap_putObj_other _ (by omega)]; exact h2
      have hb3 : W1.heap[w.heap.size + 3]? = some (.cells #[.string (dropB s k)] 9 (0, 0)) := by rw [← hW1, heap_putObj_other _ (by omega)]; exact h3
      have hb4 : W1.heap[w.heap.size + 4]? = some (.deferred (some [])) := by rw [← hW1, heap_putObj_other _ (by omega)]; exact h4
      have hb5 : W1.heap[w.heap.size + 5]? = some (.loop (rec .busy none)) := by rw [← hW1]; exact heap_putObj_same _ hsz5
      have hkp1 : Keep [] w W1 := by rw [← hW1]; exact hkp.putObj _ (.inr (by omega))
      have hrow : W1.ownsRow (w.heap.size + 6) 41 5 v k (slotCells (cutTo s ep sq false k)) := by
        rw [← hW1]
        exact ho.kept (row := some (w.heap.size + 5)) (grownBy_putObj' W _ _) (by
          cases hv : v.ownBlock with
          | none => simp
          | some g => have := ho.lt g hv; simp; omega)
      rw [hW1]
      clear hW1
      have hk2 : k < 152 := Nat.lt_of_lt_of_le hk (npc_le hs)
      have hsz1 := heap_lt hb5
      have hc0 := cell_of_one hb0
      have hc1 := cell_of_one hb1
      have hc2 := cell_of_one hb2
      have hf2 := free_of_one hb2
      obtain ⟨i0, hi, hz0, hz1, hz2⟩ := info_parts info41
      have hn := news_alloc W1 [.int .i64 ep, .int .i64 (sq + (k : Int)), .bool ((k : Int) == 0), .bool false, .string (pieceB s k)] 41
      gi_wp2_with (gi_at_builtin; refine wpListIn_append_own _ rfl _ _ 22 rfl (w.heap.size + 6) 41 i0 (.agg #[.int .i64 0, .int .i64 0, .bool false, .bool false, .string .empty]) 5 40 Try.underlying22 hi hz0 hz1 hz2 rfl (by decide) _ _ _ rfl (hrow.alloc _) ⟨W1.heap.size, 0, none⟩ 1 1 [.int .i64 ep, .int .i64 (sq + (k : Int)), .bool ((k : Int) == 0), .bool false, .string (pieceB s k)] rfl rfl hn (by simp [Value.oneCell']) (by unfold maxLen; omega) (by omega) (by simp; omega) ?_; intro v' w1 hown' hgrow _; obtain ⟨g', cap', rfl⟩ := ownsRow_succ hown'; have hg2 := grown_heap hgrow ((Below.heap_alloc W1 (.cells #[.int .i64 ep, .int .i64 (sq + (k : Int)), .bool ((k : Int) == 0), .bool false, .string (pieceB s k)] 41) (w.heap.size + 2) (by omega)).trans hb2) (own_ne hrow (by omega)); have hcw := cell_of_one hg2; have hfw := free_of_one hg2)
      have gh : ∀ (j : Nat) (o : Obj), j < w.heap.size + 6 → W1.heap[j]? = some o → w1.heap[j]? = some o := fun j o hj ho2 =>
        grown_heap hgrow ((Below.heap_alloc W1 _ j (by omega)).trans ho2) (own_ne hrow hj)
      have gs : ∀ (j : Nat) (o : Obj) (u : Value), j < w.heap.size + 6 → j ≠ w.heap.size + 2 → W1.heap[j]? = some o → (w1.setCell ⟨w.heap.size + 2, 0, none⟩ u).heap[j]? = some o := fun j o u hj hne ho2 =>
        (heap_setCell_other w1 _ j u hne).trans (gh j o hj ho2)
      have hl := gs (w.heap.size + 5) _ (.slice (some ⟨g', 0, none⟩) (k + 1) cap') (by omega) (by omega) hb5
      have hlt := heap_lt hl
      have pp : ∀ (j : Nat) (o : Obj) (r : Obj), j ≠ w.heap.size + 5 → (w1.setCell ⟨w.heap.size + 2, 0, none⟩ (.slice (some ⟨g', 0, none⟩) (k + 1) cap')).heap[j]? = some o →
          ((w1.setCell ⟨w.heap.size + 2, 0, none⟩ (.slice (some ⟨g', 0, none⟩) (k + 1) cap')).putObj (w.heap.size + 5) r).heap[j]? = some o := fun j o r hj ho2 =>
        (heap_putObj_other _ hj).trans ho2
      refine ⟨hl, rfl, .slice (some ⟨g', 0, none⟩) (k + 1) cap', ?_, ?_, ?_, ?_, ?_, ?_, ?_, ?_⟩
      · exact pp _ _ _ (by omega) (gs _ _ _ (by omega) (by omega) hb0)
      · exact pp _ _ _ (by omega) (gs _ _ _ (by omega) (by omega) hb1)
      · exact pp _ _ _ (by omega) (one_setCell hg2)
      · exact pp _ _ _ (by omega) (gs _ _ _ (by omega) (by omega) hb3)
      · exact pp _ _ _ (by omega) (gs _ _ _ (by omega) (by omega) hb4)
      · exact heap_putObj_same _ hlt
      · have e1 : slotCells (cutTo s ep sq false (k + 1)) = slotCells (cutTo s ep sq false k) ++ [.int .i64 ep, .int .i64 (sq + (k : Int)), .bool ((k : Int) == 0), .bool false, .string (pieceB s k)] := by
          rw [cutTo_succ, slotCells_append, slotCells_one, nat_beq_zero]
          rfl
        rw [e1]
        have h3 := ownsRow_setCell_below (u := .slice (some ⟨g', 0, none⟩) (k + 1) cap') hown' (a := ⟨w.heap.size + 2, 0, none⟩) (by simp)
        exact h3.kept (row := some (w.heap.size + 5)) (grownBy_putObj' _ _ _) (by
          right; intro e3; have := (h3.lt _ e3).1; omega)
      · refine Keep.putObj (Keep.setCell (Keep.grown (hkp1.alloc _) hgrow ?_) (.inr (by show w.heap.size ≤ w.heap.size + 1 + 1; omega)) _) _ (.inr (by omega))
        intro j hj
        have := (hrow.lt j hj).1
        exact .inr (by omega)
  case c5 =>
    refine ⟨.slice none 0 0, ?_, ?_, ?_, ?_, ?_, ?_, World.ownsRow_nil _ _ _ _, ?_⟩
    · exact past (past (past (past (past (heap_at _ _ _ (by simp))))))
    · exact past (past (past (past (heap_at _ _ _ (by simp)))))
    · exact past (past (past (heap_at _ _ _ (by simp))))
    · rw [dropB_zero]
      exact past (past (heap_at _ _ _ (by simp)))
    · exact past (heap_at _ _ _ (by simp))
    · exact heap_at _ _ _ (by simp)
    · exact ((((((Keep.refl _ _).alloc _).alloc _).alloc _).alloc _).alloc _).alloc _
  rintro e W ⟨⟨v0, rfl⟩, (⟨v, h0, h1, h2, h3, h4, h5, ho, hk⟩ | hx)⟩
  case inr => exact hx.elim
  refine ⟨⟨_, rfl⟩, .inl ⟨.ready, by simp, h5, ?_⟩⟩
  have hp := npc_pos s
  obtain ⟨m, hm⟩ : ∃ m, npc s = m + 1 := ⟨npc s - 1, by omega⟩
  rw [show npc s - 1 + 1 = m + 1 by omega] at ho
  have hm2 : m ≤ 151 := by have := npc_le hs; omega
  obtain ⟨g', cap', rfl⟩ := ownsRow_succ ho
  obtain ⟨W1, hW1⟩ : ∃ W1, W.putObj (w.heap.size + 4 + 1) (.loop (rec .exhausted none)) = W1 := ⟨_, rfl⟩
  have ho1 : W1.ownsRow (w.heap.size + 6) 41 5 (.slice (some ⟨g', 0, none⟩) (m + 1) cap') (m + 1) (slotCells (cutTo s ep sq false (m + 1))) := by
    rw [← hW1]
    exact ho.kept (row := some (w.heap.size + 5)) (grownBy_putObj' W _ _) (by have := (ho.lt g' rfl).1; simp [Value.ownBlock]; omega)
  have hb2 : W1.heap[w.heap.size + 2]? = some (.cells #[.slice (some ⟨g', 0, none⟩) (m + 1) cap'] 22 (0, 0)) := by rw [← hW1, heap_putObj_other _ (by omega)]; exact h2
  have hb4 : W1.heap[w.heap.size + 4]? = some (.deferred (some [])) := by rw [← hW1, heap_putObj_other _ (by omega)]; exact h4
  have hkp1 : Keep [] w W1 := by rw [← hW1]; exact hk.putObj _ (.inr (by omega))
  have hc2 := cell_of_one hb2
  have hml : m < (cutTo s ep sq false (m + 1)).length := by rw [cutTo_length]; omega
  have hp0 : W1.cell? ⟨g', m * 5 + 3, none⟩ = some (.bool false) := by rw [ho1.cellAt (m * 5 + 3) (by omega), slotCells_get _ m 3 hml (by omega), cutTo_get]; rfl
  have hp1 : W1.cell? ⟨g', m * 5 + 1, none⟩ = some (.int .i64 (sq + (m : Int))) := by rw [ho1.cellAt (m * 5 + 1) (by omega), slotCells_get _ m 1 hml (by omega), cutTo_get]; rfl
  have hf0 := ho1.frozenAt (m * 5 + 3)
  rw [hW1]
  have HM := Lib.hid hm
  clear hm
  have hgb := (ho1.lt g' rfl).1
  have hst := ho1.stored (m * 5 + 3) (.bool true)
  have hb4' : (W1.setCell ⟨g', m * 5 + 3, none⟩ (.bool true)).heap[w.heap.size + 4]? = some (.deferred (some [])) := (heap_setCell_other _ _ _ _ (by show w.heap.size + 4 ≠ g'; omega)).trans hb4
  have hkp2 : Keep [] w ((W1.setCell ⟨g', m * 5 + 3, none⟩ (.bool true)).putObj (w.heap.size + 4) (.deferred none)) := (hkp1.setCell (.inr (by show w.heap.size ≤ g'; omega)) _).putObj _ (.inr (by omega))
  have hrow2 : ((W1.setCell ⟨g', m * 5 + 3, none⟩ (.bool true)).putObj (w.heap.size + 4) (.deferred none)).ownsRow w.heap.size 41 5 (.slice (some ⟨g', 0, none⟩) (m + 1) cap') (m + 1) (slotCells (cutL s ep sq)) := by
    rw [cutL_of_part, HM.out, show 5 * (m + 1 - 1) + 3 = m * 5 + 3 by omega]
    exact owns_base (hst.1.kept (row := some (w.heap.size + 4)) (grownBy_putObj' _ _ _) (.inr (by intro e; have e2 : g' = w.heap.size + 4 := Option.some.inj e; omega))) (by omega)
  gi_wp2
  · have hgt : 1152921504606846976 < sq + (m : Int) := by assumption
    have hE : cutErr s ep sq = 2 := by unfold cutErr; rw [HM.out, if_neg (by omega), if_pos (by omega)]
    refine ⟨by simp, .inl ⟨_, _, rfl, run_takeDeferred hb4', ?_⟩⟩
    refine ⟨_, results_tmp2 rfl _ _ _, hkp2, _, by rw [hE]; rfl, fun _ => rfl, fun h => ?_⟩
    rw [hE] at h
    cases h
  · have hle : sq + (m : Int) ≤ 1152921504606846976 := by assumption
    have hE : cutErr s ep sq = 0 := by unfold cutErr; rw [HM.out, if_neg (by omega), if_neg (by omega)]
    refine ⟨by simp, .inl ⟨_, _, rfl, run_takeDeferred hb4', ?_⟩⟩
    refine ⟨_, results_tmp2 rfl _ _ _, hkp2, _, by rw [hE]; rfl, fun h => absurd hE h, fun _ => ?_⟩
    rw [HM.out]
    exact hrow2

theorem keep2 (w : World) (o1 o2 : Obj) : Keep [] w ((w.alloc o1).alloc o2) := ((Keep.refl _ _).alloc _).alloc _

theorem cut_big (s : ByteArray) (ep sq : Int) (w : World) (hs : 16384 < s.size) (hm : s.size ≤ 9223372036854775807) :
    Calls Try.prog 24 #[.string s, .int .i64 ep, .int .i64 sq] w (CutPost w s ep sq) := by
  have hE : cutErr s ep sq = 5 := by unfold cutErr; rw [if_pos hs]
  have hss : 16384 < (s.size : Int) := by omega
  have HE := Lib.hid hE
  clear hE
  go_enter Try.func24, Try.ntmps24
  go_wp2
  go_ret2
  refine ⟨keep2 _ _ _, _, by rw [HE.out]; first | done | rfl, fun _ => rfl, fun h => ?_⟩
  rw [HE.out] at h
  cases h

theorem cut_arg (s : ByteArray) (ep sq : Int) (w : World) (hs : s.size ≤ 16384) (h : ep < 0 ∨ 2147483647 < ep ∨ sq < 0 ∨ 1152921504606846976 < sq) :
    Calls Try.prog 24 #[.string s, .int .i64 ep, .int .i64 sq] w (CutPost w s ep sq) := by
  have hp := npc_pos s
  have hE : cutErr s ep sq = 2 := by unfold cutErr; rw [if_neg (by omega), if_pos (by omega)]
  have hss : (s.size : Int) ≤ 16384 := by omega
  have HE := Lib.hid hE
  clear hE
  have fin : ∀ e w', e = .returned (.tuple #[.slice none 0 0, .int .i64 2]) → w' = ((w.alloc (.cells #[.int .i64 ep] 3)).alloc (.cells #[.int .i64 sq] 3)) → CutPost w s ep sq e w' := by
    rintro e w' rfl rfl
    refine ⟨keep2 _ _ _, _, by rw [HE.out]; first | done | rfl, fun _ => rfl, fun h => ?_⟩
    rw [HE.out] at h
    cases h
  have FIN := Lib.hid fin
  clear fin
  have a1 : ep < 0 ∨ 0 ≤ ep := by omega
  have a2 : 2147483647 < ep ∨ ep ≤ 2147483647 := by omega
  have a3 : sq < 0 ∨ 0 ≤ sq := by omega
  rcases a1 with a1 | a1
  · clear h a2 a3
    go_enter Try.func24, Try.ntmps24
    go_wp2
    go_ret2
    exact FIN.out _ _ rfl rfl
  rcases a2 with a2 | a2
  · clear h a3
    go_enter Try.func24, Try.ntmps24
    go_wp2
    go_ret2
    exact FIN.out _ _ rfl rfl
  rcases a3 with a3 | a3
  · clear h
    go_enter Try.func24, Try.ntmps24
    go_wp2
    go_ret2
    exact FIN.out _ _ rfl rfl
  have a4 : 1152921504606846976 < sq := by omega
  clear h
  go_enter Try.func24, Try.ntmps24
  go_wp2
  go_ret2
  exact FIN.out _ _ rfl rfl

/-- slot.Cut, at every record and all numbers. -/
theorem cut_any (s : ByteArray) (ep sq : Int) (w : World) (hm : s.size ≤ 9223372036854775807) :
    Calls Try.prog 24 #[.string s, .int .i64 ep, .int .i64 sq] w (CutPost w s ep sq) := by
  by_cases hs : s.size ≤ 16384
  · by_cases h : 0 ≤ ep ∧ ep ≤ 2147483647 ∧ 0 ≤ sq ∧ sq ≤ 1152921504606846976
    · exact callsIn_wide.1 (cut_ok s ep sq w hs h.1 h.2.1 h.2.2.1 h.2.2.2)
    · exact cut_arg s ep sq w hs (by omega)
  · exact cut_big s ep sq w (by omega) hm
end Go.Proofs.Ytkhggpopohkjfaa
