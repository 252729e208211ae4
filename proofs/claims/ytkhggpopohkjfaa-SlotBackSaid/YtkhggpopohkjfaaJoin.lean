/- slot.Join: the slots of a row are joined to records. Premises: at most 100000 slots, each one's data fits memory. -/
import Derived.Test.YtkhggpopohkjfaaJoinM
import Derived.Test.YtkhggpopohkjfaaSame
import Derived.Test.YtkhggpopohkjfaaFam
import Derived.Test.YtkhggpopohkjfaaBytes
namespace Go.Proofs.Ytkhggpopohkjfaa
open Go.RowKit Go.Proofs

def prevOf (l : List SlotV) (k : Nat) : Option SlotV := if k = 0 then none else l[k - 1]?

theorem own_types {w : World} {b b' : Nat} {e e' : TypeId} {s s' n n' : Nat} {v v' : Value} {xs xs' : List Value} (h : w.ownsRow b e s v n xs) (h' : w.ownsRow b' e' s' v' n' xs') (hne : e ≠ e') :
    v.ownBlock = none ∨ v.ownBlock ≠ v'.ownBlock := by
  rcases h.2 with ⟨rfl, _⟩ | ⟨g, cap, cur, rfl, _, hh, _⟩
  · exact .inl rfl
  · refine .inr fun hk => ?_
    rcases h'.2 with ⟨rfl, _⟩ | ⟨g', cap', cur', rfl, _, hh', _⟩
    · simp [Value.ownBlock] at hk
    · have : g = g' := by simpa [Value.ownBlock] using hk
      subst this
      rw [hh] at hh'
      injection hh' with hh'
      injection hh' with _ ht
      exact hne ht

/-- What Join hands back. -/
def JoinPost (w : World) (l : List SlotV) (e : Ending) (w' : World) : Prop :=
  Keep [] w w' ∧ ∃ vo, e = .returned (.tuple #[vo, .int .i64 (joinF l).2]) ∧ w'.ownsRow w.heap.size 37 3 vo (joinF l).1.length (recCells (joinF l).1)

theorem join_nil (v : Value) (w : World) (h : w.ownsRow 0 41 5 v 0 (slotCells [])) : Calls Try.prog 28 #[v] w (JoinPost w []) := by
  obtain ⟨A, c, rfl⟩ : ∃ A c, v = .slice A 0 c := by
    rcases h.2 with ⟨rfl, _⟩ | ⟨g, cap, cur, rfl, _⟩ <;> exact ⟨_, _, rfl⟩
  clear h
  go_enter Try.func28, Try.ntmps28
  go_wp2
  go_ret2
  exact ⟨Keep.refl _ _, _, rfl, World.ownsRow_nil _ _ _ _⟩

/-- What holds at the head of a round of Join. -/
def JoinI (w : World) (l : List SlotV) (k : Nat) (st : JoinS) (vo vd : Value) (wr : World) : Prop :=
  (∀ s0 l0, l = s0 :: l0 → joinGo none ⟨[], s0.seq, ByteArray.empty, -1⟩ l = joinGo (prevOf l k) st (l.drop k)) ∧
  wr.ownsRow w.heap.size 37 3 vo st.out.length (recCells st.out) ∧ wr.ownsRow w.heap.size 5 1 vd st.data.size (Lib.strCells st.data) ∧ Keep [] w wr ∧
  st.data.size ≤ 108 * k ∧ st.out.length ≤ k ∧ (∀ p, prevOf l k = some p → okSlot p = true)

/-- A slot may not be taken: Join ends. -/
theorem JoinI.stop {w : World} {l : List SlotV} {k : Nat} {st : JoinS} {vo vd : Value} {wr : World} (h : JoinI w l k st vo vd wr) (hl : l ≠ []) (hs : l.drop k = [] ∨ ∃ s r, l.drop k = s :: r ∧ joinStop (prevOf l k) st s = true)
    {w' : World} (hk : Keep [] wr w') : JoinPost w l (.returned (.tuple #[vo, .int .i64 st.next])) w' := by
  obtain ⟨h1, h2, h3, h4, h5, h6, h7⟩ := h
  obtain ⟨s0, l0, rfl⟩ : ∃ s0 l0, l = s0 :: l0 := by
    cases l with
    | nil => exact absurd rfl hl
    | cons a b => exact ⟨a, b, rfl⟩
  have e := h1 s0 l0 rfl
  have e2 : joinGo (prevOf (s0 :: l0) k) st ((s0 :: l0).drop k) = st := by
    rcases hs with h0 | ⟨s, r, hd, hst⟩
    · rw [h0]; rfl
    · rw [hd, joinGo, if_pos hst]
  rw [e2] at e
  have e3 : joinF (s0 :: l0) = (st.out, st.next) := by unfold joinF; dsimp only; rw [e]
  refine ⟨h4.trans hk, vo, by rw [e3], ?_⟩
  rw [e3]
  exact hk.owns h2 (by simp)

/-- A slot is taken. -/
theorem JoinI.next {w : World} {l : List SlotV} {k : Nat} {st : JoinS} {vo vd : Value} {wr : World} (h : JoinI w l k st vo vd wr) {s : SlotV} (hs : l[k]? = some s) (hgo : joinStop (prevOf l k) st s = false) (hd : s.data.size ≤ 108)
    {w' : World} {vo' vd' : Value} (hk : Keep [] w w')
    (ho : w'.ownsRow w.heap.size 37 3 vo' (st.take s).out.length (recCells (st.take s).out)) (hdd : w'.ownsRow w.heap.size 5 1 vd' (st.take s).data.size (Lib.strCells (st.take s).data)) : JoinI w l (k + 1) (st.take s) vo' vd' w' := by
  obtain ⟨h1, h2, h3, h4, h5, h6, h7⟩ := h
  obtain ⟨hlt, hs2⟩ := List.getElem?_eq_some_iff.1 hs
  refine ⟨fun s0 l0 hl => ?_, ho, hdd, hk, ?_, ?_, fun p hp => ?_⟩
  · rw [h1 s0 l0 hl, List.drop_eq_getElem_cons hlt, hs2, joinGo, if_neg (by rw [hgo]; simp)]
    unfold prevOf
    rw [if_neg (by omega), Nat.add_sub_cancel, hs]
  · unfold JoinS.take
    dsimp only
    split <;> split <;> simp [ByteArray.size_append] <;> omega
  · unfold JoinS.take
    dsimp only
    split <;> simp <;> omega
  · unfold prevOf at hp
    rw [if_neg (by omega), Nat.add_sub_cancel, hs] at hp
    obtain rfl : s = p := Option.some.inj hp
    cases ho : okSlot s with
    | true => rfl
    | false => simp [joinStop, ho] at hgo

theorem own_nil_ne {w : World} {b : Nat} {e : TypeId} {s n : Nat} {v : Value} {xs : List Value} (_ : w.ownsRow b e s v n xs) : v.ownBlock = none ∨ v.ownBlock ≠ (Value.slice none 0 0).ownBlock := by
  cases hv : v.ownBlock with
  | none => exact .inl rfl
  | some g => exact .inr (by simp [Value.ownBlock])

set_option maxRecDepth 100000 in
set_option maxHeartbeats 8000000 in
theorem join_cons (v : Value) (l : List SlotV) (w : World) (m : Nat) (hn : l.length = m + 1) (hn2 : m + 1 ≤ 100000) (h : w.ownsRow 0 41 5 v (m + 1) (slotCells l)) (hD : ∀ s ∈ l, s.data.size ≤ 9223372036854775807) :
    Calls Try.prog 28 #[v] w (JoinPost w l) := by
  obtain ⟨g, c, rfl⟩ := ownsRow_succ h
  have hm : (m : Int) ≤ 100000 := by omega
  have hl0 : l ≠ [] := by intro e; rw [e] at hn; simp at hn
  obtain ⟨q0, hq0⟩ : ∃ q, (l[0]'(by omega)).seq = q := ⟨_, rfl⟩
  have h0c := (slot_cells h (k := 0) (by omega) hn).2.1
  rw [hq0] at h0c
  have hgl := (h.lt g rfl).2
  have he0 : (((m : Int) + 1) == 0) = false := by rw [beq_eq_false_iff_ne]; omega
  have hst : JoinI w l 0 ⟨[], q0, ByteArray.empty, -1⟩ (.slice none 0 0) (.slice none 0 0) w := by
    refine ⟨fun s0 l0 e => ?_, World.ownsRow_nil _ _ _ _, World.ownsRow_nil _ _ _ _, Keep.refl _ _, by simp, by simp, fun p hp => by simp [prevOf] at hp⟩
    subst e
    rw [← hq0]
    rfl
  clear hq0
  obtain ⟨i5, hi5, hz50, hz51, hz52⟩ := info_parts info5
  obtain ⟨i37, hi37, hz370, hz371, hz372⟩ := info_parts info37
  go_enter Try.func28, Try.ntmps28
  go_wp2
  go_loopw [4, 5, 6, 7, 19] (fun vo nx vd op i wr => ∃ (k : Nat) (st : JoinS), k ≤ m + 1 ∧ i = .int .i64 k ∧ nx = .int .i64 st.next ∧ op = .int .i64 st.opn ∧ JoinI w l k st vo vd wr) (fun _ _ _ _ i _ => m + 1 - (intOf i).toNat)
  case atStart => exact ⟨0, ⟨[], q0, ByteArray.empty, -1⟩, by omega, rfl, rfl, rfl, hst⟩
  case round =>
    clear hst h0c
    obtain ⟨k, st, hk, rfl, rfl, rfl, hJ⟩ := hrel
    have hkp := hJ.2.2.2.1
    by_cases hlt : k < m + 1
    · obtain ⟨c0, c1, c2, c3, c4⟩ := slot_cells (hkp.owns h (by simp)) hlt hn
      have hdk := hD (l[k]'(by omega)) (List.getElem_mem _)
      have HD := Lib.hid (show l[k]? = some (l[k]'(by omega)) from List.getElem?_eq_getElem (by omega))
      generalize (l[k]'(by omega)) = s at *
      obtain ⟨ep, sq, f, la, d⟩ := s
      dsimp only at c0 c1 c2 c3 c4 hdk
      have hdr : ∃ r, l.drop k = ⟨ep, sq, f, la, d⟩ :: r := ⟨l.drop (k + 1), by
        obtain ⟨hlt, hs2⟩ := List.getElem?_eq_some_iff.1 HD.out
        rw [List.drop_eq_getElem_cons hlt, hs2]⟩
      have hstop : joinStop (prevOf l k) st ⟨ep, sq, f, la, d⟩ = true → ∀ w', Keep [] wr w' → JoinPost w l (.returned (.tuple #[u4, .int .i64 st.next])) w' := fun hs w' hk' => by
        obtain ⟨r, hr⟩ := hdr
        exact hJ.stop hl0 (.inr ⟨_, r, hr, hs⟩) hk'
      have HSTOP := Lib.hid hstop
      clear hstop hdr
      have hbox := heap_at wr (.cells #[.int .i64 ep, .int .i64 sq, .bool f, .bool la, .string d] 41) wr.heap.size rfl
      have b0 := fun n => fam_box hbox n 0 (.int .i64 ep) rfl
      have b1 := fun n => fam_box hbox n 1 (.int .i64 sq) rfl
      have b2 := fun n => fam_box hbox n 2 (.bool f) rfl
      have b3 := fun n => fam_box hbox n 3 (.bool la) rfl
      have b4 := fun n => fam_box hbox n 4 (.string d) rfl
      clear hbox
      have HJ := Lib.hid hJ
      clear hJ
      cases hok : okSlot ⟨ep, sq, f, la, d⟩ with
      | false =>
        have HS := Lib.hid (HSTOP.out (by simp [joinStop, hok]))
        have hc31 : ∀ n : Fam (wr.alloc (.cells #[.int .i64 ep, .int .i64 sq, .bool f, .bool la, .string d] 41)), Calls Try.prog 31 #[.agg #[.int .i64 ep, .int .i64 sq, .bool f, .bool la, .string d]] n.at_ fun e w'' => e = .returned (.int .i64 2) ∧ ∃ m : Fam (wr.alloc (.cells #[.int .i64 ep, .int .i64 sq, .bool f, .bool la, .string d] 41)), w'' = m.at_ :=
          fun n => calls_fam ((check_bad ep sq f la d n.at_ hdk hok).mono fun e w' h => ⟨h.1, h.2 ▸ (Keep.refl _ _).alloc _⟩)
        go_wp2
        refine wp_region_fam (by kernel_rfl) (by kernel_rfl) ?_
        repeat (go_big_quiet_step (exact hc31 _))
        refine wpQuiet_nil ?_
        rintro _ ⟨nq, rfl⟩
        go_wp2
        go_ret2
        exact HS.out _ (((Keep.refl _ _).alloc _).trans nq.keep)
      | true =>
        have hc31 : ∀ n : Fam (wr.alloc (.cells #[.int .i64 ep, .int .i64 sq, .bool f, .bool la, .string d] 41)), Calls Try.prog 31 #[.agg #[.int .i64 ep, .int .i64 sq, .bool f, .bool la, .string d]] n.at_ fun e w'' => e = .returned (.int .i64 0) ∧ ∃ m : Fam (wr.alloc (.cells #[.int .i64 ep, .int .i64 sq, .bool f, .bool la, .string d] 41)), w'' = m.at_ :=
          fun n => calls_fam ((check_ok ep sq f la d n.at_ hok).mono fun e w' h => ⟨h.1, h.2 ▸ (Keep.refl _ _).alloc _⟩)
        obtain ⟨hq1, hq2, hq3, hq4, hq5⟩ := of_decide_eq_true hok
        dsimp only at hq1 hq2 hq3 hq4 hq5
        have HOK := Lib.hid hok
        clear hok
        rcases Nat.eq_zero_or_pos k with hk0 | hkpos
        · subst hk0
          cases f with
          | true =>
            rcases (show st.opn < 0 ∨ 0 ≤ st.opn by omega) with hop | hop
            · have hx : decide (st.opn < 0) = true := decide_eq_true hop
              have hb : joinStop (prevOf l 0) st ⟨ep, sq, true, la, d⟩ = false := by
                simp [joinStop, prevOf, HOK.out, hx]
              have HB := Lib.hid hb
              clear hb
              cases la with
              | true =>
                go_wp2
                refine wp_region_fam (by kernel_rfl) (by kernel_rfl) ?_
                repeat (go_big_quiet_step (exact hc31 _))
                refine wpQuiet_nil ?_
                rintro _ ⟨nq, rfl⟩
                have hkq : Keep [] wr nq.at_ := ((Keep.refl _ _).alloc _).trans nq.keep
                have hro2 := hkq.owns HJ.out.2.1 (by simp)
                have hrd2 := World.ownsRow_nil nq.at_ w.heap.size 5 1
                have hne : (Value.slice none 0 0).ownBlock ≠ some wr.heap.size := by simp [Value.ownBlock]
                have hnb : ∀ j, (Value.slice none 0 0).ownBlock = some j → w.heap.size ≤ j := by simp [Value.ownBlock]
                have hbox2 := nq.keep.heap (heap_at wr (.cells #[.int .i64 ep, .int .i64 sq, .bool true, .bool true, .string d] 41) wr.heap.size rfl) (by simp)
                have hz1 : st.data.size ≤ 108 * (0) ∧ st.out.length ≤ 0 := ⟨HJ.out.2.2.2.2.1, HJ.out.2.2.2.2.2.1⟩
                obtain ⟨hz2, hz3⟩ := hz1
                have hsw : w.heap.size ≤ wr.heap.size := hkp.size
                have hsq2 : wr.heap.size ≤ nq.at_.heap.size := hkq.size
                have hkn : 0 ≤ 100000 := by omega
                have tok1 : True := trivial
                go_wp2_with (first | (at_builtin; have _t := tok1; refine Lib.wpList_append_own_string nq.at_ rfl _ _ 42 9 rfl w.heap.size 5 i5 Try.underlying42 Try.underlying9 hi5 hz50 hz51 hz52 (.slice none 0 0) (0) [] rfl hrd2 d rfl (by unfold maxLen; omega) (by omega) (by omega) ?_; intro v1 w1 hown1 hgrow1 _; clear tok1; have hbx := grown_heap hgrow1 hbox2 hne; have e1 := (cell_of_row _ _ 1 _ _ _ hbx).trans rfl; have e3 := (cell_of_row _ _ 3 _ _ _ hbx).trans rfl; have hD1 : w1.ownsRow w.heap.size 5 1 v1 (0 + d.size) (Lib.strCells d) := hown1; have hcv := own_str hD1; have hro3 := hro2.kept hgrow1 (own_nil_ne hro2); have hs1 := hgrow1.size; have hk1 := (hkp.trans hkq).grown hgrow1 (fun j e => .inr (hnb j e)); have hn1 := news_alloc w1 [.int .i64 sq, .int .i64 (sq + 1), .string d] 37) | (at_builtin; refine wpList_append_own _ rfl _ _ 33 rfl w.heap.size 37 i37 (.agg #[.int .i64 0, .int .i64 0, .string .empty]) 3 32 Try.underlying33 hi37 hz370 hz371 hz372 rfl (by decide) _ _ _ rfl (hro3.alloc _) ⟨w1.heap.size, 0, none⟩ 1 1 [.int .i64 sq, .int .i64 (sq + 1), .string d] rfl rfl hn1 (by simp [Value.oneCell']) (by unfold maxLen; omega) (by omega) (by simp; omega) ?_; intro v2 w2 hown2 hgrow2 _))
                have hrd4 := (hD1.alloc (.cells #[.int .i64 sq, .int .i64 (sq + 1), .string d] 37)).kept hgrow2 (own_types hD1 hro3 (by decide))
                have hk4 := (hk1.alloc (.cells #[.int .i64 sq, .int .i64 (sq + 1), .string d] 37)).grown hgrow2 (fun j e => .inr (hro3.lt j e).1)
                have hro4 : w2.ownsRow w.heap.size 37 3 v2 (st.take ⟨ep, sq, true, true, d⟩).out.length (recCells (st.take ⟨ep, sq, true, true, d⟩).out) := by
                  have e : (st.take ⟨ep, sq, true, true, d⟩).out = st.out ++ [⟨sq, sq + 1, d⟩] := by simp [JoinS.take]
                  rw [e, recCells_append, List.length_append, recCells_one]
                  exact hown2
                have hrd5 : w2.ownsRow w.heap.size 5 1 v1 (st.take ⟨ep, sq, true, true, d⟩).data.size (Lib.strCells (st.take ⟨ep, sq, true, true, d⟩).data) := by
                  have e : (st.take ⟨ep, sq, true, true, d⟩).data = d := by simp [JoinS.take]
                  rw [e]
                  rw [Nat.zero_add] at hrd4; exact hrd4
                exact ⟨⟨0 + 1, st.take ⟨ep, sq, true, true, d⟩, by omega, by first | rfl | go_num, rfl, rfl, HJ.out.next HD.out HB.out hq5 hk4 hro4 hrd5⟩, by simp [intOf] <;> omega⟩
              | false =>
                go_wp2
                refine wp_region_fam (by kernel_rfl) (by kernel_rfl) ?_
                repeat (go_big_quiet_step (exact hc31 _))
                refine wpQuiet_nil ?_
                rintro _ ⟨nq, rfl⟩
                have hkq : Keep [] wr nq.at_ := ((Keep.refl _ _).alloc _).trans nq.keep
                have hro2 := hkq.owns HJ.out.2.1 (by simp)
                have hrd2 := World.ownsRow_nil nq.at_ w.heap.size 5 1
                have hne : (Value.slice none 0 0).ownBlock ≠ some wr.heap.size := by simp [Value.ownBlock]
                have hnb : ∀ j, (Value.slice none 0 0).ownBlock = some j → w.heap.size ≤ j := by simp [Value.ownBlock]
                have hbox2 := nq.keep.heap (heap_at wr (.cells #[.int .i64 ep, .int .i64 sq, .bool true, .bool false, .string d] 41) wr.heap.size rfl) (by simp)
                have hz1 : st.data.size ≤ 108 * (0) ∧ st.out.length ≤ 0 := ⟨HJ.out.2.2.2.2.1, HJ.out.2.2.2.2.2.1⟩
                obtain ⟨hz2, hz3⟩ := hz1
                have hsw : w.heap.size ≤ wr.heap.size := hkp.size
                have hsq2 : wr.heap.size ≤ nq.at_.heap.size := hkq.size
                have hkn : 0 ≤ 100000 := by omega
                have tok1 : True := trivial
                go_wp2_with (at_builtin; have _t := tok1; refine Lib.wpList_append_own_string nq.at_ rfl _ _ 42 9 rfl w.heap.size 5 i5 Try.underlying42 Try.underlying9 hi5 hz50 hz51 hz52 (.slice none 0 0) (0) [] rfl hrd2 d rfl (by unfold maxLen; omega) (by omega) (by omega) ?_; intro v1 w1 hown1 hgrow1 _; clear tok1; have hbx := grown_heap hgrow1 hbox2 hne; have e1 := (cell_of_row _ _ 1 _ _ _ hbx).trans rfl; have e3 := (cell_of_row _ _ 3 _ _ _ hbx).trans rfl; have hD1 : w1.ownsRow w.heap.size 5 1 v1 (0 + d.size) (Lib.strCells d) := hown1; have hcv := own_str hD1; have hro3 := hro2.kept hgrow1 (own_nil_ne hro2); have hs1 := hgrow1.size; have hk1 := (hkp.trans hkq).grown hgrow1 (fun j e => .inr (hnb j e)); have hn1 := news_alloc w1 [.int .i64 sq, .int .i64 (sq + 1), .string d] 37)
                have hro4 : w1.ownsRow w.heap.size 37 3 u4 (st.take ⟨ep, sq, true, false, d⟩).out.length (recCells (st.take ⟨ep, sq, true, false, d⟩).out) := hro3
                have hrd5 : w1.ownsRow w.heap.size 5 1 v1 (st.take ⟨ep, sq, true, false, d⟩).data.size (Lib.strCells (st.take ⟨ep, sq, true, false, d⟩).data) := by
                  have e : (st.take ⟨ep, sq, true, false, d⟩).data = d := by simp [JoinS.take]
                  rw [e]
                  rw [Nat.zero_add] at hD1; exact hD1
                exact ⟨⟨0 + 1, st.take ⟨ep, sq, true, false, d⟩, by omega, by first | rfl | go_num, rfl, rfl, HJ.out.next HD.out HB.out hq5 hk1 hro4 hrd5⟩, by simp [intOf] <;> omega⟩
            · have hx : decide (st.opn < 0) = false := decide_eq_false (by omega)
              have hb : joinStop (prevOf l 0) st ⟨ep, sq, true, la, d⟩ = true := by
                simp [joinStop, prevOf, HOK.out, hx]
              have HB := Lib.hid hb
              clear hb
              go_wp2
              refine wp_region_fam (by kernel_rfl) (by kernel_rfl) ?_
              repeat (go_big_quiet_step (exact hc31 _))
              refine wpQuiet_nil ?_
              rintro _ ⟨nq, rfl⟩
              go_wp2
              go_ret2
              exact HSTOP.out HB.out _ (((Keep.refl _ _).alloc _).trans nq.keep)
          | false =>
            rcases (show st.opn < 0 ∨ 0 ≤ st.opn by omega) with hop | hop
            · have hx : decide (st.opn < 0) = true := decide_eq_true hop
              have hb : joinStop (prevOf l 0) st ⟨ep, sq, false, la, d⟩ = true := by
                simp [joinStop, prevOf, HOK.out, hx]
              have HB := Lib.hid hb
              clear hb
              go_wp2
              refine wp_region_fam (by kernel_rfl) (by kernel_rfl) ?_
              repeat (go_big_quiet_step (exact hc31 _))
              refine wpQuiet_nil ?_
              rintro _ ⟨nq, rfl⟩
              go_wp2
              go_ret2
              exact HSTOP.out HB.out _ (((Keep.refl _ _).alloc _).trans nq.keep)
            · have hx : decide (st.opn < 0) = false := decide_eq_false (by omega)
              have hb : joinStop (prevOf l 0) st ⟨ep, sq, false, la, d⟩ = false := by
                simp [joinStop, prevOf, HOK.out, hx]
              have HB := Lib.hid hb
              clear hb
              cases la with
              | true =>
                go_wp2
                refine wp_region_fam (by kernel_rfl) (by kernel_rfl) ?_
                repeat (go_big_quiet_step (exact hc31 _))
                refine wpQuiet_nil ?_
                rintro _ ⟨nq, rfl⟩
                have hkq : Keep [] wr nq.at_ := ((Keep.refl _ _).alloc _).trans nq.keep
                have hro2 := hkq.owns HJ.out.2.1 (by simp)
                have hrd2 := hkq.owns HJ.out.2.2.1 (by simp)
                have hne : u6.ownBlock ≠ some wr.heap.size := fun e => by have := (HJ.out.2.2.1.lt _ e).2; omega
                have hnb : ∀ j, u6.ownBlock = some j → w.heap.size ≤ j := fun j e => (HJ.out.2.2.1.lt _ e).1
                have hbox2 := nq.keep.heap (heap_at wr (.cells #[.int .i64 ep, .int .i64 sq, .bool false, .bool true, .string d] 41) wr.heap.size rfl) (by simp)
                have hz1 : st.data.size ≤ 108 * (0) ∧ st.out.length ≤ 0 := ⟨HJ.out.2.2.2.2.1, HJ.out.2.2.2.2.2.1⟩
                obtain ⟨hz2, hz3⟩ := hz1
                have hsw : w.heap.size ≤ wr.heap.size := hkp.size
                have hsq2 : wr.heap.size ≤ nq.at_.heap.size := hkq.size
                have hkn : 0 ≤ 100000 := by omega
                have tok1 : True := trivial
                go_wp2_with (first | (at_builtin; have _t := tok1; refine Lib.wpList_append_own_string nq.at_ rfl _ _ 42 9 rfl w.heap.size 5 i5 Try.underlying42 Try.underlying9 hi5 hz50 hz51 hz52 (u6) (st.data.size) (Lib.strCells st.data) rfl hrd2 d rfl (by unfold maxLen; omega) (by omega) (by omega) ?_; intro v1 w1 hown1 hgrow1 _; clear tok1; have hbx := grown_heap hgrow1 hbox2 hne; have e1 := (cell_of_row _ _ 1 _ _ _ hbx).trans rfl; have e3 := (cell_of_row _ _ 3 _ _ _ hbx).trans rfl; have hD1 : w1.ownsRow w.heap.size 5 1 v1 (st.data.size + d.size) (Lib.strCells (st.data ++ d)) := (by rw [strCells_append]; exact hown1); have hcv := own_str hD1; have hro3 := hro2.kept hgrow1 (own_types hro2 hrd2 (by decide)); have hs1 := hgrow1.size; have hk1 := (hkp.trans hkq).grown hgrow1 (fun j e => .inr (hnb j e)); have hn1 := news_alloc w1 [.int .i64 st.opn, .int .i64 (sq + 1), .string (st.data ++ d)] 37) | (at_builtin; refine wpList_append_own _ rfl _ _ 33 rfl w.heap.size 37 i37 (.agg #[.int .i64 0, .int .i64 0, .string .empty]) 3 32 Try.underlying33 hi37 hz370 hz371 hz372 rfl (by decide) _ _ _ rfl (hro3.alloc _) ⟨w1.heap.size, 0, none⟩ 1 1 [.int .i64 st.opn, .int .i64 (sq + 1), .string (st.data ++ d)] rfl rfl hn1 (by simp [Value.oneCell']) (by unfold maxLen; omega) (by omega) (by simp; omega) ?_; intro v2 w2 hown2 hgrow2 _))
                have hrd4 := (hD1.alloc (.cells #[.int .i64 st.opn, .int .i64 (sq + 1), .string (st.data ++ d)] 37)).kept hgrow2 (own_types hD1 hro3 (by decide))
                have hk4 := (hk1.alloc (.cells #[.int .i64 st.opn, .int .i64 (sq + 1), .string (st.data ++ d)] 37)).grown hgrow2 (fun j e => .inr (hro3.lt j e).1)
                have hro4 : w2.ownsRow w.heap.size 37 3 v2 (st.take ⟨ep, sq, false, true, d⟩).out.length (recCells (st.take ⟨ep, sq, false, true, d⟩).out) := by
                  have e : (st.take ⟨ep, sq, false, true, d⟩).out = st.out ++ [⟨st.opn, sq + 1, (st.data ++ d)⟩] := by simp [JoinS.take]
                  rw [e, recCells_append, List.length_append, recCells_one]
                  exact hown2
                have hrd5 : w2.ownsRow w.heap.size 5 1 v1 (st.take ⟨ep, sq, false, true, d⟩).data.size (Lib.strCells (st.take ⟨ep, sq, false, true, d⟩).data) := by
                  have e : (st.take ⟨ep, sq, false, true, d⟩).data = (st.data ++ d) := by simp [JoinS.take]
                  rw [e]
                  rw [ByteArray.size_append]; exact hrd4
                exact ⟨⟨0 + 1, st.take ⟨ep, sq, false, true, d⟩, by omega, by first | rfl | go_num, rfl, rfl, HJ.out.next HD.out HB.out hq5 hk4 hro4 hrd5⟩, by simp [intOf] <;> omega⟩
              | false =>
                go_wp2
                refine wp_region_fam (by kernel_rfl) (by kernel_rfl) ?_
                repeat (go_big_quiet_step (exact hc31 _))
                refine wpQuiet_nil ?_
                rintro _ ⟨nq, rfl⟩
                have hkq : Keep [] wr nq.at_ := ((Keep.refl _ _).alloc _).trans nq.keep
                have hro2 := hkq.owns HJ.out.2.1 (by simp)
                have hrd2 := hkq.owns HJ.out.2.2.1 (by simp)
                have hne : u6.ownBlock ≠ some wr.heap.size := fun e => by have := (HJ.out.2.2.1.lt _ e).2; omega
                have hnb : ∀ j, u6.ownBlock = some j → w.heap.size ≤ j := fun j e => (HJ.out.2.2.1.lt _ e).1
                have hbox2 := nq.keep.heap (heap_at wr (.cells #[.int .i64 ep, .int .i64 sq, .bool false, .bool false, .string d] 41) wr.heap.size rfl) (by simp)
                have hz1 : st.data.size ≤ 108 * (0) ∧ st.out.length ≤ 0 := ⟨HJ.out.2.2.2.2.1, HJ.out.2.2.2.2.2.1⟩
                obtain ⟨hz2, hz3⟩ := hz1
                have hsw : w.heap.size ≤ wr.heap.size := hkp.size
                have hsq2 : wr.heap.size ≤ nq.at_.heap.size := hkq.size
                have hkn : 0 ≤ 100000 := by omega
                have tok1 : True := trivial
                go_wp2_with (at_builtin; have _t := tok1; refine Lib.wpList_append_own_string nq.at_ rfl _ _ 42 9 rfl w.heap.size 5 i5 Try.underlying42 Try.underlying9 hi5 hz50 hz51 hz52 (u6) (st.data.size) (Lib.strCells st.data) rfl hrd2 d rfl (by unfold maxLen; omega) (by omega) (by omega) ?_; intro v1 w1 hown1 hgrow1 _; clear tok1; have hbx := grown_heap hgrow1 hbox2 hne; have e1 := (cell_of_row _ _ 1 _ _ _ hbx).trans rfl; have e3 := (cell_of_row _ _ 3 _ _ _ hbx).trans rfl; have hD1 : w1.ownsRow w.heap.size 5 1 v1 (st.data.size + d.size) (Lib.strCells (st.data ++ d)) := (by rw [strCells_append]; exact hown1); have hcv := own_str hD1; have hro3 := hro2.kept hgrow1 (own_types hro2 hrd2 (by decide)); have hs1 := hgrow1.size; have hk1 := (hkp.trans hkq).grown hgrow1 (fun j e => .inr (hnb j e)); have hn1 := news_alloc w1 [.int .i64 st.opn, .int .i64 (sq + 1), .string (st.data ++ d)] 37)
                have hro4 : w1.ownsRow w.heap.size 37 3 u4 (st.take ⟨ep, sq, false, false, d⟩).out.length (recCells (st.take ⟨ep, sq, false, false, d⟩).out) := hro3
                have hrd5 : w1.ownsRow w.heap.size 5 1 v1 (st.take ⟨ep, sq, false, false, d⟩).data.size (Lib.strCells (st.take ⟨ep, sq, false, false, d⟩).data) := by
                  have e : (st.take ⟨ep, sq, false, false, d⟩).data = (st.data ++ d) := by simp [JoinS.take]
                  rw [e]
                  rw [ByteArray.size_append]; exact hD1
                exact ⟨⟨0 + 1, st.take ⟨ep, sq, false, false, d⟩, by omega, by first | rfl | go_num, rfl, rfl, HJ.out.next HD.out HB.out hq5 hk1 hro4 hrd5⟩, by simp [intOf] <;> omega⟩
        · obtain ⟨j, rfl⟩ : ∃ j, k = j + 1 := ⟨k - 1, by omega⟩
          clear hkpos
          obtain ⟨p0, p1, p2, p3, p4⟩ := slot_cells (hkp.owns h (by simp)) (show j < m + 1 by omega) hn
          have HP := Lib.hid (show prevOf l (j + 1) = some (l[j]'(by omega)) by unfold prevOf; rw [if_neg (by omega), Nat.add_sub_cancel, List.getElem?_eq_getElem (by omega)])
          generalize (l[j]'(by omega)) = p at *
          obtain ⟨pe, pq, pf, pl, pd⟩ := p
          dsimp only at p0 p1 p2 p3 p4
          have hpo := of_decide_eq_true (HJ.out.2.2.2.2.2.2 _ HP.out)
          obtain ⟨_, _, hp3, hp4, _⟩ := hpo
          dsimp only at hp3 hp4
          have r0 := fun (n : Fam (wr.alloc (.cells #[.int .i64 ep, .int .i64 sq, .bool f, .bool la, .string d] 41))) => fam_cell (((Keep.refl [] wr).alloc _).cell p0 (by simp)) n
          have r1 := fun (n : Fam (wr.alloc (.cells #[.int .i64 ep, .int .i64 sq, .bool f, .bool la, .string d] 41))) => fam_cell (((Keep.refl [] wr).alloc _).cell p1 (by simp)) n
          have r2 := fun (n : Fam (wr.alloc (.cells #[.int .i64 ep, .int .i64 sq, .bool f, .bool la, .string d] 41))) => fam_cell (((Keep.refl [] wr).alloc _).cell p2 (by simp)) n
          have r3 := fun (n : Fam (wr.alloc (.cells #[.int .i64 ep, .int .i64 sq, .bool f, .bool la, .string d] 41))) => fam_cell (((Keep.refl [] wr).alloc _).cell p3 (by simp)) n
          have r4 := fun (n : Fam (wr.alloc (.cells #[.int .i64 ep, .int .i64 sq, .bool f, .bool la, .string d] 41))) => fam_cell (((Keep.refl [] wr).alloc _).cell p4 (by simp)) n
          clear p0 p1 p2 p3 p4
          cases hfo : folSlot ⟨pe, pq, pf, pl, pd⟩ ⟨ep, sq, f, la, d⟩ with
          | false =>
            have HFO := Lib.hid hfo
            clear hfo
            have HB := Lib.hid (show joinStop (prevOf l (j + 1)) st ⟨ep, sq, f, la, d⟩ = true by rw [HP.out]; simp [joinStop, HFO.out])
            have hc77 : ∀ n : Fam (wr.alloc (.cells #[.int .i64 ep, .int .i64 sq, .bool f, .bool la, .string d] 41)), Calls Try.prog 77 #[.agg #[.int .i64 pe, .int .i64 pq, .bool pf, .bool pl, .string pd], .agg #[.int .i64 ep, .int .i64 sq, .bool f, .bool la, .string d]] n.at_ fun e w'' => e = .returned (.bool false) ∧ ∃ m : Fam (wr.alloc (.cells #[.int .i64 ep, .int .i64 sq, .bool f, .bool la, .string d] 41)), w'' = m.at_ := fun n => calls_fam (by have hh := follows_any pe pq pf pl pd ep sq f la d n.at_ hp3 hp4; rw [HFO.out] at hh; exact hh)
            go_wp2
            refine wp_region_fam (by kernel_rfl) (by kernel_rfl) ?_
            repeat (go_big_quiet_step (first | exact hc31 _ | exact hc77 _))
            refine wpQuiet_nil ?_
            rintro _ ⟨nq, rfl⟩
            go_wp2
            go_ret2
            exact HSTOP.out HB.out _ (((Keep.refl _ _).alloc _).trans nq.keep)
          | true =>
            have HFO := Lib.hid hfo
            clear hfo
            cases f with
            | true =>
              rcases (show st.opn < 0 ∨ 0 ≤ st.opn by omega) with hop | hop
              · have hx : decide (st.opn < 0) = true := decide_eq_true hop
                have hb : joinStop (prevOf l (j + 1)) st ⟨ep, sq, true, la, d⟩ = false := by
                  rw [HP.out]
                  simp [joinStop, HOK.out, HFO.out, hx]
                have HB := Lib.hid hb
                clear hb
                cases la with
                | true =>
                  have hc77 : ∀ n : Fam (wr.alloc (.cells #[.int .i64 ep, .int .i64 sq, .bool true, .bool true, .string d] 41)), Calls Try.prog 77 #[.agg #[.int .i64 pe, .int .i64 pq, .bool pf, .bool pl, .string pd], .agg #[.int .i64 ep, .int .i64 sq, .bool true, .bool true, .string d]] n.at_ fun e w'' => e = .returned (.bool true) ∧ ∃ m : Fam (wr.alloc (.cells #[.int .i64 ep, .int .i64 sq, .bool true, .bool true, .string d] 41)), w'' = m.at_ := fun n => calls_fam (by have hh := follows_any pe pq pf pl pd ep sq true true d n.at_ hp3 hp4; rw [HFO.out] at hh; exact hh)
                  go_wp2
                  refine wp_region_fam (by kernel_rfl) (by kernel_rfl) ?_
                  repeat (go_big_quiet_step (first | exact hc31 _ | exact hc77 _))
                  refine wpQuiet_nil ?_
                  rintro _ ⟨nq, rfl⟩
                  have hkq : Keep [] wr nq.at_ := ((Keep.refl _ _).alloc _).trans nq.keep
                  have hro2 := hkq.owns HJ.out.2.1 (by simp)
                  have hrd2 := World.ownsRow_nil nq.at_ w.heap.size 5 1
                  have hne : (Value.slice none 0 0).ownBlock ≠ some wr.heap.size := by simp [Value.ownBlock]
                  have hnb : ∀ j, (Value.slice none 0 0).ownBlock = some j → w.heap.size ≤ j := by simp [Value.ownBlock]
                  have hbox2 := nq.keep.heap (heap_at wr (.cells #[.int .i64 ep, .int .i64 sq, .bool true, .bool true, .string d] 41) wr.heap.size rfl) (by simp)
                  have hz1 : st.data.size ≤ 108 * ((j + 1)) ∧ st.out.length ≤ (j + 1) := ⟨HJ.out.2.2.2.2.1, HJ.out.2.2.2.2.2.1⟩
                  obtain ⟨hz2, hz3⟩ := hz1
                  have hsw : w.heap.size ≤ wr.heap.size := hkp.size
                  have hsq2 : wr.heap.size ≤ nq.at_.heap.size := hkq.size
                  have hkn : (j + 1) ≤ 100000 := by omega
                  have tok1 : True := trivial
                  go_wp2_with (first | (at_builtin; have _t := tok1; refine Lib.wpList_append_own_string nq.at_ rfl _ _ 42 9 rfl w.heap.size 5 i5 Try.underlying42 Try.underlying9 hi5 hz50 hz51 hz52 (.slice none 0 0) (0) [] rfl hrd2 d rfl (by unfold maxLen; omega) (by omega) (by omega) ?_; intro v1 w1 hown1 hgrow1 _; clear tok1; have hbx := grown_heap hgrow1 hbox2 hne; have e1 := (cell_of_row _ _ 1 _ _ _ hbx).trans rfl; have e3 := (cell_of_row _ _ 3 _ _ _ hbx).trans rfl; have hD1 : w1.ownsRow w.heap.size 5 1 v1 (0 + d.size) (Lib.strCells d) := hown1; have hcv := own_str hD1; have hro3 := hro2.kept hgrow1 (own_nil_ne hro2); have hs1 := hgrow1.size; have hk1 := (hkp.trans hkq).grown hgrow1 (fun j e => .inr (hnb j e)); have hn1 := news_alloc w1 [.int .i64 sq, .int .i64 (sq + 1), .string d] 37) | (at_builtin; refine wpList_append_own _ rfl _ _ 33 rfl w.heap.size 37 i37 (.agg #[.int .i64 0, .int .i64 0, .string .empty]) 3 32 Try.underlying33 hi37 hz370 hz371 hz372 rfl (by decide) _ _ _ rfl (hro3.alloc _) ⟨w1.heap.size, 0, none⟩ 1 1 [.int .i64 sq, .int .i64 (sq + 1), .string d] rfl rfl hn1 (by simp [Value.oneCell']) (by unfold maxLen; omega) (by omega) (by simp; omega) ?_; intro v2 w2 hown2 hgrow2 _))
                  have hrd4 := (hD1.alloc (.cells #[.int .i64 sq, .int .i64 (sq + 1), .string d] 37)).kept hgrow2 (own_types hD1 hro3 (by decide))
                  have hk4 := (hk1.alloc (.cells #[.int .i64 sq, .int .i64 (sq + 1), .string d] 37)).grown hgrow2 (fun j e => .inr (hro3.lt j e).1)
                  have hro4 : w2.ownsRow w.heap.size 37 3 v2 (st.take ⟨ep, sq, true, true, d⟩).out.length (recCells (st.take ⟨ep, sq, true, true, d⟩).out) := by
                    have e : (st.take ⟨ep, sq, true, true, d⟩).out = st.out ++ [⟨sq, sq + 1, d⟩] := by simp [JoinS.take]
                    rw [e, recCells_append, List.length_append, recCells_one]
                    exact hown2
                  have hrd5 : w2.ownsRow w.heap.size 5 1 v1 (st.take ⟨ep, sq, true, true, d⟩).data.size (Lib.strCells (st.take ⟨ep, sq, true, true, d⟩).data) := by
                    have e : (st.take ⟨ep, sq, true, true, d⟩).data = d := by simp [JoinS.take]
                    rw [e]
                    rw [Nat.zero_add] at hrd4; exact hrd4
                  exact ⟨⟨(j + 1) + 1, st.take ⟨ep, sq, true, true, d⟩, by omega, by first | rfl | go_num, rfl, rfl, HJ.out.next HD.out HB.out hq5 hk4 hro4 hrd5⟩, by simp [intOf] <;> omega⟩
                | false =>
                  have hc77 : ∀ n : Fam (wr.alloc (.cells #[.int .i64 ep, .int .i64 sq, .bool true, .bool false, .string d] 41)), Calls Try.prog 77 #[.agg #[.int .i64 pe, .int .i64 pq, .bool pf, .bool pl, .string pd], .agg #[.int .i64 ep, .int .i64 sq, .bool true, .bool false, .string d]] n.at_ fun e w'' => e = .returned (.bool true) ∧ ∃ m : Fam (wr.alloc (.cells #[.int .i64 ep, .int .i64 sq, .bool true, .bool false, .string d] 41)), w'' = m.at_ := fun n => calls_fam (by have hh := follows_any pe pq pf pl pd ep sq true false d n.at_ hp3 hp4; rw [HFO.out] at hh; exact hh)
                  go_wp2
                  refine wp_region_fam (by kernel_rfl) (by kernel_rfl) ?_
                  repeat (go_big_quiet_step (first | exact hc31 _ | exact hc77 _))
                  refine wpQuiet_nil ?_
                  rintro _ ⟨nq, rfl⟩
                  have hkq : Keep [] wr nq.at_ := ((Keep.refl _ _).alloc _).trans nq.keep
                  have hro2 := hkq.owns HJ.out.2.1 (by simp)
                  have hrd2 := World.ownsRow_nil nq.at_ w.heap.size 5 1
                  have hne : (Value.slice none 0 0).ownBlock ≠ some wr.heap.size := by simp [Value.ownBlock]
                  have hnb : ∀ j, (Value.slice none 0 0).ownBlock = some j → w.heap.size ≤ j := by simp [Value.ownBlock]
                  have hbox2 := nq.keep.heap (heap_at wr (.cells #[.int .i64 ep, .int .i64 sq, .bool true, .bool false, .string d] 41) wr.heap.size rfl) (by simp)
                  have hz1 : st.data.size ≤ 108 * ((j + 1)) ∧ st.out.length ≤ (j + 1) := ⟨HJ.out.2.2.2.2.1, HJ.out.2.2.2.2.2.1⟩
                  obtain ⟨hz2, hz3⟩ := hz1
                  have hsw : w.heap.size ≤ wr.heap.size := hkp.size
                  have hsq2 : wr.heap.size ≤ nq.at_.heap.size := hkq.size
                  have hkn : (j + 1) ≤ 100000 := by omega
                  have tok1 : True := trivial
                  go_wp2_with (at_builtin; have _t := tok1; refine Lib.wpList_append_own_string nq.at_ rfl _ _ 42 9 rfl w.heap.size 5 i5 Try.underlying42 Try.underlying9 hi5 hz50 hz51 hz52 (.slice none 0 0) (0) [] rfl hrd2 d rfl (by unfold maxLen; omega) (by omega) (by omega) ?_; intro v1 w1 hown1 hgrow1 _; clear tok1; have hbx := grown_heap hgrow1 hbox2 hne; have e1 := (cell_of_row _ _ 1 _ _ _ hbx).trans rfl; have e3 := (cell_of_row _ _ 3 _ _ _ hbx).trans rfl; have hD1 : w1.ownsRow w.heap.size 5 1 v1 (0 + d.size) (Lib.strCells d) := hown1; have hcv := own_str hD1; have hro3 := hro2.kept hgrow1 (own_nil_ne hro2); have hs1 := hgrow1.size; have hk1 := (hkp.trans hkq).grown hgrow1 (fun j e => .inr (hnb j e)); have hn1 := news_alloc w1 [.int .i64 sq, .int .i64 (sq + 1), .string d] 37)
                  have hro4 : w1.ownsRow w.heap.size 37 3 u4 (st.take ⟨ep, sq, true, false, d⟩).out.length (recCells (st.take ⟨ep, sq, true, false, d⟩).out) := hro3
                  have hrd5 : w1.ownsRow w.heap.size 5 1 v1 (st.take ⟨ep, sq, true, false, d⟩).data.size (Lib.strCells (st.take ⟨ep, sq, true, false, d⟩).data) := by
                    have e : (st.take ⟨ep, sq, true, false, d⟩).data = d := by simp [JoinS.take]
                    rw [e]
                    rw [Nat.zero_add] at hD1; exact hD1
                  exact ⟨⟨(j + 1) + 1, st.take ⟨ep, sq, true, false, d⟩, by omega, by first | rfl | go_num, rfl, rfl, HJ.out.next HD.out HB.out hq5 hk1 hro4 hrd5⟩, by simp [intOf] <;> omega⟩
              · have hx : decide (st.opn < 0) = false := decide_eq_false (by omega)
                have hb : joinStop (prevOf l (j + 1)) st ⟨ep, sq, true, la, d⟩ = true := by
                  rw [HP.out]
                  simp [joinStop, HOK.out, HFO.out, hx]
                have HB := Lib.hid hb
                clear hb
                have hc77 : ∀ n : Fam (wr.alloc (.cells #[.int .i64 ep, .int .i64 sq, .bool true, .bool la, .string d] 41)), Calls Try.prog 77 #[.agg #[.int .i64 pe, .int .i64 pq, .bool pf, .bool pl, .string pd], .agg #[.int .i64 ep, .int .i64 sq, .bool true, .bool la, .string d]] n.at_ fun e w'' => e = .returned (.bool true) ∧ ∃ m : Fam (wr.alloc (.cells #[.int .i64 ep, .int .i64 sq, .bool true, .bool la, .string d] 41)), w'' = m.at_ := fun n => calls_fam (by have hh := follows_any pe pq pf pl pd ep sq true la d n.at_ hp3 hp4; rw [HFO.out] at hh; exact hh)
                go_wp2
                refine wp_region_fam (by kernel_rfl) (by kernel_rfl) ?_
                repeat (go_big_quiet_step (first | exact hc31 _ | exact hc77 _))
                refine wpQuiet_nil ?_
                rintro _ ⟨nq, rfl⟩
                go_wp2
                go_ret2
                exact HSTOP.out HB.out _ (((Keep.refl _ _).alloc _).trans nq.keep)
            | false =>
              rcases (show st.opn < 0 ∨ 0 ≤ st.opn by omega) with hop | hop
              · have hx : decide (st.opn < 0) = true := decide_eq_true hop
                have hb : joinStop (prevOf l (j + 1)) st ⟨ep, sq, false, la, d⟩ = true := by
                  rw [HP.out]
                  simp [joinStop, HOK.out, HFO.out, hx]
                have HB := Lib.hid hb
                clear hb
                have hc77 : ∀ n : Fam (wr.alloc (.cells #[.int .i64 ep, .int .i64 sq, .bool false, .bool la, .string d] 41)), Calls Try.prog 77 #[.agg #[.int .i64 pe, .int .i64 pq, .bool pf, .bool pl, .string pd], .agg #[.int .i64 ep, .int .i64 sq, .bool false, .bool la, .string d]] n.at_ fun e w'' => e = .returned (.bool true) ∧ ∃ m : Fam (wr.alloc (.cells #[.int .i64 ep, .int .i64 sq, .bool false, .bool la, .string d] 41)), w'' = m.at_ := fun n => calls_fam (by have hh := follows_any pe pq pf pl pd ep sq false la d n.at_ hp3 hp4; rw [HFO.out] at hh; exact hh)
                go_wp2
                refine wp_region_fam (by kernel_rfl) (by kernel_rfl) ?_
                repeat (go_big_quiet_step (first | exact hc31 _ | exact hc77 _))
                refine wpQuiet_nil ?_
                rintro _ ⟨nq, rfl⟩
                go_wp2
                go_ret2
                exact HSTOP.out HB.out _ (((Keep.refl _ _).alloc _).trans nq.keep)
              · have hx : decide (st.opn < 0) = false := decide_eq_false (by omega)
                have hb : joinStop (prevOf l (j + 1)) st ⟨ep, sq, false, la, d⟩ = false := by
                  rw [HP.out]
                  simp [joinStop, HOK.out, HFO.out, hx]
                have HB := Lib.hid hb
                clear hb
                cases la with
                | true =>
                  have hc77 : ∀ n : Fam (wr.alloc (.cells #[.int .i64 ep, .int .i64 sq, .bool false, .bool true, .string d] 41)), Calls Try.prog 77 #[.agg #[.int .i64 pe, .int .i64 pq, .bool pf, .bool pl, .string pd], .agg #[.int .i64 ep, .int .i64 sq, .bool false, .bool true, .string d]] n.at_ fun e w'' => e = .returned (.bool true) ∧ ∃ m : Fam (wr.alloc (.cells #[.int .i64 ep, .int .i64 sq, .bool false, .bool true, .string d] 41)), w'' = m.at_ := fun n => calls_fam (by have hh := follows_any pe pq pf pl pd ep sq false true d n.at_ hp3 hp4; rw [HFO.out] at hh; exact hh)
                  go_wp2
                  refine wp_region_fam (by kernel_rfl) (by kernel_rfl) ?_
                  repeat (go_big_quiet_step (first | exact hc31 _ | exact hc77 _))
                  refine wpQuiet_nil ?_
                  rintro _ ⟨nq, rfl⟩
                  have hkq : Keep [] wr nq.at_ := ((Keep.refl _ _).alloc _).trans nq.keep
                  have hro2 := hkq.owns HJ.out.2.1 (by simp)
                  have hrd2 := hkq.owns HJ.out.2.2.1 (by simp)
                  have hne : u6.ownBlock ≠ some wr.heap.size := fun e => by have := (HJ.out.2.2.1.lt _ e).2; omega
                  have hnb : ∀ j, u6.ownBlock = some j → w.heap.size ≤ j := fun j e => (HJ.out.2.2.1.lt _ e).1
                  have hbox2 := nq.keep.heap (heap_at wr (.cells #[.int .i64 ep, .int .i64 sq, .bool false, .bool true, .string d] 41) wr.heap.size rfl) (by simp)
                  have hz1 : st.data.size ≤ 108 * ((j + 1)) ∧ st.out.length ≤ (j + 1) := ⟨HJ.out.2.2.2.2.1, HJ.out.2.2.2.2.2.1⟩
                  obtain ⟨hz2, hz3⟩ := hz1
                  have hsw : w.heap.size ≤ wr.heap.size := hkp.size
                  have hsq2 : wr.heap.size ≤ nq.at_.heap.size := hkq.size
                  have hkn : (j + 1) ≤ 100000 := by omega
                  have tok1 : True := trivial
                  go_wp2_with (first | (at_builtin; have _t := tok1; refine Lib.wpList_append_own_string nq.at_ rfl _ _ 42 9 rfl w.heap.size 5 i5 Try.underlying42 Try.underlying9 hi5 hz50 hz51 hz52 (u6) (st.data.size) (Lib.strCells st.data) rfl hrd2 d rfl (by unfold maxLen; omega) (by omega) (by omega) ?_; intro v1 w1 hown1 hgrow1 _; clear tok1; have hbx := grown_heap hgrow1 hbox2 hne; have e1 := (cell_of_row _ _ 1 _ _ _ hbx).trans rfl; have e3 := (cell_of_row _ _ 3 _ _ _ hbx).trans rfl; have hD1 : w1.ownsRow w.heap.size 5 1 v1 (st.data.size + d.size) (Lib.strCells (st.data ++ d)) := (by rw [strCells_append]; exact hown1); have hcv := own_str hD1; have hro3 := hro2.kept hgrow1 (own_types hro2 hrd2 (by decide)); have hs1 := hgrow1.size; have hk1 := (hkp.trans hkq).grown hgrow1 (fun j e => .inr (hnb j e)); have hn1 := news_alloc w1 [.int .i64 st.opn, .int .i64 (sq + 1), .string (st.data ++ d)] 37) | (at_builtin; refine wpList_append_own _ rfl _ _ 33 rfl w.heap.size 37 i37 (.agg #[.int .i64 0, .int .i64 0, .string .empty]) 3 32 Try.underlying33 hi37 hz370 hz371 hz372 rfl (by decide) _ _ _ rfl (hro3.alloc _) ⟨w1.heap.size, 0, none⟩ 1 1 [.int .i64 st.opn, .int .i64 (sq + 1), .string (st.data ++ d)] rfl rfl hn1 (by simp [Value.oneCell']) (by unfold maxLen; omega) (by omega) (by simp; omega) ?_; intro v2 w2 hown2 hgrow2 _))
                  have hrd4 := (hD1.alloc (.cells #[.int .i64 st.opn, .int .i64 (sq + 1), .string (st.data ++ d)] 37)).kept hgrow2 (own_types hD1 hro3 (by decide))
                  have hk4 := (hk1.alloc (.cells #[.int .i64 st.opn, .int .i64 (sq + 1), .string (st.data ++ d)] 37)).grown hgrow2 (fun j e => .inr (hro3.lt j e).1)
                  have hro4 : w2.ownsRow w.heap.size 37 3 v2 (st.take ⟨ep, sq, false, true, d⟩).out.length (recCells (st.take ⟨ep, sq, false, true, d⟩).out) := by
                    have e : (st.take ⟨ep, sq, false, true, d⟩).out = st.out ++ [⟨st.opn, sq + 1, (st.data ++ d)⟩] := by simp [JoinS.take]
                    rw [e, recCells_append, List.length_append, recCells_one]
                    exact hown2
                  have hrd5 : w2.ownsRow w.heap.size 5 1 v1 (st.take ⟨ep, sq, false, true, d⟩).data.size (Lib.strCells (st.take ⟨ep, sq, false, true, d⟩).data) := by
                    have e : (st.take ⟨ep, sq, false, true, d⟩).data = (st.data ++ d) := by simp [JoinS.take]
                    rw [e]
                    rw [ByteArray.size_append]; exact hrd4
                  exact ⟨⟨(j + 1) + 1, st.take ⟨ep, sq, false, true, d⟩, by omega, by first | rfl | go_num, rfl, rfl, HJ.out.next HD.out HB.out hq5 hk4 hro4 hrd5⟩, by simp [intOf] <;> omega⟩
                | false =>
                  have hc77 : ∀ n : Fam (wr.alloc (.cells #[.int .i64 ep, .int .i64 sq, .bool false, .bool false, .string d] 41)), Calls Try.prog 77 #[.agg #[.int .i64 pe, .int .i64 pq, .bool pf, .bool pl, .string pd], .agg #[.int .i64 ep, .int .i64 sq, .bool false, .bool false, .string d]] n.at_ fun e w'' => e = .returned (.bool true) ∧ ∃ m : Fam (wr.alloc (.cells #[.int .i64 ep, .int .i64 sq, .bool false, .bool false, .string d] 41)), w'' = m.at_ := fun n => calls_fam (by have hh := follows_any pe pq pf pl pd ep sq false false d n.at_ hp3 hp4; rw [HFO.out] at hh; exact hh)
                  go_wp2
                  refine wp_region_fam (by kernel_rfl) (by kernel_rfl) ?_
                  repeat (go_big_quiet_step (first | exact hc31 _ | exact hc77 _))
                  refine wpQuiet_nil ?_
                  rintro _ ⟨nq, rfl⟩
                  have hkq : Keep [] wr nq.at_ := ((Keep.refl _ _).alloc _).trans nq.keep
                  have hro2 := hkq.owns HJ.out.2.1 (by simp)
                  have hrd2 := hkq.owns HJ.out.2.2.1 (by simp)
                  have hne : u6.ownBlock ≠ some wr.heap.size := fun e => by have := (HJ.out.2.2.1.lt _ e).2; omega
                  have hnb : ∀ j, u6.ownBlock = some j → w.heap.size ≤ j := fun j e => (HJ.out.2.2.1.lt _ e).1
                  have hbox2 := nq.keep.heap (heap_at wr (.cells #[.int .i64 ep, .int .i64 sq, .bool false, .bool false, .string d] 41) wr.heap.size rfl) (by simp)
                  have hz1 : st.data.size ≤ 108 * ((j + 1)) ∧ st.out.length ≤ (j + 1) := ⟨HJ.out.2.2.2.2.1, HJ.out.2.2.2.2.2.1⟩
                  obtain ⟨hz2, hz3⟩ := hz1
                  have hsw : w.heap.size ≤ wr.heap.size := hkp.size
                  have hsq2 : wr.heap.size ≤ nq.at_.heap.size := hkq.size
                  have hkn : (j + 1) ≤ 100000 := by omega
                  have tok1 : True := trivial
                  go_wp2_with (at_builtin; have _t := tok1; refine Lib.wpList_append_own_string nq.at_ rfl _ _ 42 9 rfl w.heap.size 5 i5 Try.underlying42 Try.underlying9 hi5 hz50 hz51 hz52 (u6) (st.data.size) (Lib.strCells st.data) rfl hrd2 d rfl (by unfold maxLen; omega) (by omega) (by omega) ?_; intro v1 w1 hown1 hgrow1 _; clear tok1; have hbx := grown_heap hgrow1 hbox2 hne; have e1 := (cell_of_row _ _ 1 _ _ _ hbx).trans rfl; have e3 := (cell_of_row _ _ 3 _ _ _ hbx).trans rfl; have hD1 : w1.ownsRow w.heap.size 5 1 v1 (st.data.size + d.size) (Lib.strCells (st.data ++ d)) := (by rw [strCells_append]; exact hown1); have hcv := own_str hD1; have hro3 := hro2.kept hgrow1 (own_types hro2 hrd2 (by decide)); have hs1 := hgrow1.size; have hk1 := (hkp.trans hkq).grown hgrow1 (fun j e => .inr (hnb j e)); have hn1 := news_alloc w1 [.int .i64 st.opn, .int .i64 (sq + 1), .string (st.data ++ d)] 37)
                  have hro4 : w1.ownsRow w.heap.size 37 3 u4 (st.take ⟨ep, sq, false, false, d⟩).out.length (recCells (st.take ⟨ep, sq, false, false, d⟩).out) := hro3
                  have hrd5 : w1.ownsRow w.heap.size 5 1 v1 (st.take ⟨ep, sq, false, false, d⟩).data.size (Lib.strCells (st.take ⟨ep, sq, false, false, d⟩).data) := by
                    have e : (st.take ⟨ep, sq, false, false, d⟩).data = (st.data ++ d) := by simp [JoinS.take]
                    rw [e]
                    rw [ByteArray.size_append]; exact hD1
                  exact ⟨⟨(j + 1) + 1, st.take ⟨ep, sq, false, false, d⟩, by omega, by first | rfl | go_num, rfl, rfl, HJ.out.next HD.out HB.out hq5 hk1 hro4 hrd5⟩, by simp [intOf] <;> omega⟩
    · obtain rfl : k = m + 1 := by omega
      have hfin := hJ.stop hl0 (.inl (List.drop_eq_nil_of_le (by omega))) (Keep.refl _ wr)
      have FIN := Lib.hid hfin
      clear hfin
      go_wp2
      go_ret2
      exact FIN.out

/-- slot.Join, at every row of slots of one's own. -/
theorem join_any (v : Value) (l : List SlotV) (w : World) (n : Nat) (hn : l.length = n) (hn2 : n ≤ 100000) (h : w.ownsRow 0 41 5 v n (slotCells l)) (hD : ∀ s ∈ l, s.data.size ≤ 9223372036854775807) :
    Calls Try.prog 28 #[v] w (JoinPost w l) := by
  cases n with
  | zero =>
    obtain rfl : l = [] := List.eq_nil_of_length_eq_zero hn
    exact join_nil v w h
  | succ m => exact join_cons v l w m hn hn2 h hD
end Go.Proofs.Ytkhggpopohkjfaa
