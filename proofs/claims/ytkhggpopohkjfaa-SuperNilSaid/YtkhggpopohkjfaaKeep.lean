/- (*block.Disk).keep, at a function that picks. Premise: the disk is right. -/
import Derived.Test.YtkhggpopohkjfaaKeepM
import Derived.Test.YtkhggpopohkjfaaPick
import Derived.Test.YtkhggpopohkjfaaRelZ
namespace Go.Proofs.Ytkhggpopohkjfaa
open Go.RowKit Go.Proofs Go.Lib
set_option linter.unusedSectionVars false
set_option linter.unusedVariables false
set_option linter.unusedSimpArgs false

/-- Behind k rounds: what was picked is kept. -/
structure KeepI (w : World) (g K c : Nat) (V : DiskV) (pick : Nat → Bool) (k : Nat) (wr : World) : Prop where
  row : wr.ownsRow 0 145 128 (.slice (some ⟨K, 0, none⟩) V.kept.length c) V.kept.length (keptCells (V.keptTo pick k))
  keep : Keep [K] w wr

theorem pend_range {w : World} {V : DiskV} {P cp : Nat} (h : w.ownsRow 0 147 129 (.slice (some ⟨P, 0, none⟩) V.pend.length cp) V.pend.length (pendCells V.pend)) (ok : okDisk V) (k : Nat) (hk : k < V.pend.length) :
    w.rangeAt P (k * 129) (wrCells V.pend[k]) := fun j v hv => by
  have hl : (wrCells V.pend[k]).length = 129 := wrCells_length (ok.pend _ (List.getElem_mem hk)).2
  have hj : j < 129 := by rw [← hl]; exact (List.getElem?_eq_some_iff.1 hv).1
  rw [h.cellAt (k * 129 + j) (by omega), pendCells_get V.pend k j hk (fun p hp => (ok.pend p hp).2) hj, hv]
theorem wr_range_sec {w : World} {x : Nat} {i : Nat} {s : ByteArray} (h : w.heap[x]? = some (.cells (wrCells (i, s)).toArray 147)) (hs : s.size = 128) : w.rangeAt x 0 (strCells s) :=
  range_of_row h 0 _ (fun j v hv => by
    have hj : j < (strCells s).length := (List.getElem?_eq_some_iff.1 hv).1
    rw [Nat.zero_add]
    unfold wrCells
    rw [List.getElem?_append_left hj]
    exact hv)
theorem wr_cell_at {w : World} {x : Nat} {i : Nat} {s : ByteArray} (h : w.heap[x]? = some (.cells (wrCells (i, s)).toArray 147)) (hs : s.size = 128) : w.cell? ⟨x, 128, none⟩ = some (.int .i64 i) := by
  rw [cell_of_row w x 128 _ _ _ h]
  unfold wrCells
  simp [strCells_length, hs]
theorem keptTo_set_own {w : World} {K n c : Nat} {L : List ByteArray} (h : w.ownsRow 0 145 128 (.slice (some ⟨K, 0, none⟩) n c) n (keptCells L)) (hL : L.length = n) (hf : ∀ s ∈ L, s.size = 128) {i : Nat} (hi : i < n) {s : ByteArray} (hs : s.size = 128) :
    ∃ C : List Value, w.heap[K]? = some (.cells C.toArray 145) ∧ i * 128 + (strCells s).length ≤ C.length ∧ (w.setRow K (splice C (i * 128) (strCells s)).toArray).ownsRow 0 145 128 (.slice (some ⟨K, 0, none⟩) n c) n (keptCells (L.set i s)) := by
  obtain ⟨C, h1, h2, h3, h4⟩ := own_splice h
  have hl : (strCells s).length = 128 := by rw [strCells_length, hs]
  have hle : i * 128 + 128 ≤ n * 128 := by omega
  refine ⟨C, h1, by omega, ?_⟩
  rw [keptCells_set L i s (by omega) hf hs]
  exact h4 (i * 128) (strCells s) (by omega)
def wrV (p : Nat × ByteArray) : Value := .agg (wrCells p).toArray
def secV (s : ByteArray) : Value := .agg (strCells s).toArray

set_option maxRecDepth 100000 in
set_option maxHeartbeats 8000000 in
theorem keep_all (w : World) (g K c : Nat) (pv : Value) (V : DiskV) (pick : Nat → Bool) (h : DiskAt w g K c pv V)
    (hpick : ∀ (k : Nat) (W : World), Keep [K] w W → Calls Try.prog 93 #[.int .i64 k] W fun e w' => e = .returned (.bool (pick k)) ∧ W = w') :
    Calls Try.prog 87 #[.pointer (some ⟨g, 0, none⟩), .func (.func 93) #[] #[]] w fun e w' => e = .returned (.tuple #[]) ∧ DiskAt w' g K c (.slice none 0 0) (V.keepV pick) ∧ Keep [g, K] w w' := by
  obtain ⟨i147, hi147, hz147, hz1, hz2⟩ := info_parts info147
  obtain ⟨c0, c1, _, _⟩ := h.cells
  have hKlt : K < w.heap.size := (h.kept.lt _ rfl).2
  obtain ⟨A, cp, rfl⟩ := own_form h.pend
  have HH := Lib.hid h
  have HP := Lib.hid hpick
  have hgK : g ≠ K := h.ne
  have hcm : cp ≤ maxLen := by
    rcases h.pend.2 with ⟨h1, h2⟩ | ⟨g', cap', cur, h1, _, _, h3, h4, _⟩
    · injection h1 with _ _ h5; rw [h5]; exact Nat.zero_le _
    · injection h1 with _ _ h5; rw [h5]; exact h4
  have hml : V.pend.length ≤ cp := own_cap h.pend
  unfold maxLen at hcm
  have hn2 : V.kept.length ≤ 16384 := h.ok.few
  have fin : ∀ wz, KeepI w g K c V pick V.pend.length wz → DiskAt (wz.setCell ⟨g, 1, none⟩ (.slice none 0 0)) g K c (.slice none 0 0) (V.keepV pick) ∧ Keep [g, K] w (wz.setCell ⟨g, 1, none⟩ (.slice none 0 0)) := by
    intro wz hz
    have hk := hz.keep
    have hrow := hz.row
    rw [keptTo_all] at hrow
    have hlen : (V.keepV pick).kept.length = V.kept.length := keepGo_length _ _ _ _
    have hd : wz.heap[g]? = some (.cells (hdCells K V.kept.length c (.slice A V.pend.length cp) V.fuse V.dead) 90) := hk.heap HH.out.hd (by simpa using hgK)
    refine ⟨⟨?_, ?_, World.ownsRow_nil _ _ _ _, hgK, by simp [Value.ownBlock], by simp [Value.ownBlock], HH.out.ok.keep pick⟩, ((hk.mono (S' := [g, K]) (by simp)).setCell (.inl (by simp)) _)⟩
    · rw [hlen]
      exact heap_setCell_same _ g 1 _ 90 _ hd
    · rw [hlen]
      exact (keep_set wz g 1 _).owns hrow (fun k e => by cases e; simpa using Ne.symm hgK)
  have FIN := Lib.hid fin
  clear h hpick fin
  go_enter Try.func87, Try.ntmps87
  go_wp2
  go_loopw [11] (fun i wr => ∃ k : Nat, k ≤ V.pend.length ∧ i = .int .i64 k ∧ KeepI w g K c V pick k wr) (fun i _ => V.pend.length - (intOf i).toNat)
  case atStart => exact ⟨0, by omega, rfl, ⟨by rw [keptTo_zero]; exact HH.out.kept, Keep.refl _ _⟩⟩
  case round =>
    obtain ⟨k, hk, rfl, hI⟩ := hrel
    have HI := Lib.hid hI
    clear hI
    by_cases hlt : k < V.pend.length
    · have hp0 := HI.out.keep.owns HH.out.pend (fun j e => by have := HH.out.nK; rintro hm; simp at hm; subst hm; exact this e)
      cases A with
      | none =>
        exfalso
        rcases hp0.2 with ⟨h1, h2⟩ | ⟨g', cap', cur, h1, _⟩
        · omega
        · cases h1
      | some ad =>
        obtain ⟨P, rfl⟩ : ∃ P, ad = ⟨P, 0, none⟩ := by
          rcases hp0.2 with ⟨h1, h2⟩ | ⟨g', cap', cur, h1, _⟩
          · cases h1
          · cases h1; exact ⟨_, rfl⟩
        have hrg := pend_range hp0 HH.out.ok k hlt
        have hpk := HH.out.ok.pend _ (List.getElem_mem hlt)
        have hkept1 := keptTo_succ V pick k hlt
        obtain ⟨pk, hpkE⟩ : ∃ pk, V.pend[k] = pk := ⟨_, rfl⟩
        rw [hpkE] at hrg hpk hkept1
        obtain ⟨at_, s⟩ := pk
        have hs : s.size = 128 := hpk.2
        have hat : at_ < V.kept.length := hpk.1
        have hPlt : P < wr.heap.size := (hp0.lt _ rfl).2
        have hwl : (wrCells (at_, s)).length = 129 := wrCells_length hs
        have hx0 : (wr.alloc (.cells z147 147)).heap[wr.heap.size]? = some (.cells z147.toList.toArray 147) := by simpa using heap_alloc_new wr (.cells z147 147)
        have hz147l : z147.toList.length = 129 := by simp [z147]
        have hxs := setRow_same hx0 (splice z147.toList 0 (wrCells (at_, s))).toArray
        rw [splice_all (by omega)] at hxs
        have hk1 : Keep [] wr ((wr.alloc (.cells z147 147)).setRow wr.heap.size (wrCells (at_, s)).toArray) := ((Keep.refl [] wr).alloc _).putRow _ (.inr (Nat.le_refl _))
        have hxlt : wr.heap.size < ((wr.alloc (.cells z147 147)).setRow wr.heap.size (wrCells (at_, s)).toArray).heap.size := heap_lt hxs
        have HZ := Lib.hid (And.intro hi147 hz147)
        have HS := Lib.hid (And.intro hx0 hz147l)
        have HK1 := Lib.hid hkept1
        have HP0 := Lib.hid hp0
        have HPK := Lib.hid hpkE
        clear hkept1 hp0 hpkE
        have hone := wr_one (at_ : Int) s
        have HO := Lib.hid hone
        clear hone
        go_wp2_with (first
          | (refine wpList_load_mid rfl 147 _ rfl P (k * 129) rfl (wrCells (at_, s)) _ hrg Try.underlying147 rfl (by rw [hwl]; exact size147) ?_)
          | (refine wpList_alloc_big rfl 147 rfl i147 z147 HZ.out.1 HZ.out.2 ?_)
          | (refine wpList_store_at rfl 147 _ _ rfl wr.heap.size 0 (wrCells (at_, s)) rfl rfl z147.toList 147 HS.out.1 (by rw [HS.out.2]; omega) (by rw [hwl]; exact size147) HO.out ?_; rw [splice_all (by rw [HS.out.2]; omega)]))
        have hk1w : Keep [K] w ((wr.alloc (.cells z147 147)).setRow wr.heap.size (wrCells (at_, s)).toArray) := HI.out.keep.trans (hk1.mono (by simp))
        have hgx : ((wr.alloc (.cells z147 147)).setRow wr.heap.size (wrCells (at_, s)).toArray).cell? ⟨g, 0, none⟩ = some (.slice (some ⟨K, 0, none⟩) V.kept.length c) := hk1w.cell c0 (by simpa using hgK)
        have hKr : K < wr.heap.size := (HI.out.row.lt _ rfl).2
        have hrow1 := hk1.owns HI.out.row (by simp)
        clear hrg
        generalize ((wr.alloc (.cells z147 147)).setRow wr.heap.size (wrCells (at_, s)).toArray) = W2 at *
        have HW2 := Lib.hid (And.intro hk1w (And.intro hrow1 hxs))
        clear hk1 hrow1
        refine (HP.out k W2 HW2.out.1).mono ?_
        rintro e w3 ⟨rfl, rfl⟩
        cases hpb : pick k with
        | false =>
          have hnext : KeepI w g K c V pick (k + 1) W2 := ⟨by rw [HK1.out, hpb, if_neg (by simp)]; exact HW2.out.2.1, HW2.out.1⟩
          have HN := Lib.hid hnext
          clear hnext hpb hk1w hgx hxs
          go_wp2
          exact ⟨⟨k + 1, by omega, by go_num, HN.out⟩, by simp [intOf]; omega⟩
        | true =>
          have hset := keptTo_set_own HW2.out.2.1.drew (keptTo_length V pick k) (keptTo_full HH.out.ok pick k) hat hs
          obtain ⟨C, hC1, hC2, hC3⟩ := hset
          have hKw : Keep [K] w (W2.drew.setRow K (splice C (at_ * 128) (strCells s)).toArray) := hk1w.drew.putRow _ (.inl (by simp))
          have HC := Lib.hid (And.intro hC1 (And.intro hC2 (And.intro hC3 hKw)))
          have hnext : KeepI w g K c V pick (k + 1) (W2.drew.setRow K (splice C (at_ * 128) (strCells s)).toArray) := ⟨by rw [HK1.out, hpb, if_pos rfl]; exact HC.out.2.2.1, HC.out.2.2.2⟩
          have HN := Lib.hid hnext
          have hxat := wr_cell_at hxs hs
          have hxsec : W2.drew.rangeAt wr.heap.size 0 (strCells s) := wr_range_sec (w := W2.drew) hxs hs
          have HXS := Lib.hid hxsec
          have hsl : (strCells s).length = 128 := by rw [strCells_length, hs]
          have HSL := Lib.hid hsl
          have hat0 : (0 : Int) ≤ (at_ : Int) := by omega
          have hat1 : (at_ : Int) < (V.kept.length : Int) := by omega
          clear hnext hpb hC1 hC2 hC3 hKw hk1w hxs hxsec hsl
          go_wp2_with fail
          refine wp_region_relz (by simp only [List.dropLast]; rfl) (by simp only [List.getLast?_cons_cons, List.getLast?_singleton]; rfl) (by kernel_rfl) (by kernel_rfl) (fun w' => w' = W2.drew) (fun a b => b = a) (relR
            [some (.pointer (some ⟨g, 0, none⟩)), some (.pointer (some ⟨g, 0, none⟩)), some (.pointer (some ⟨g, 0, none⟩)), some (.slice (some ⟨K, 0, none⟩) V.kept.length c), some (.pointer (some ⟨wr.heap.size, 128, none⟩)), some (.int .i64 at_),
             some (.pointer (some ⟨wr.heap.size, 0, none⟩)), some (.agg (strCells s).toArray), some (.pointer (some ⟨K, at_ * 128, none⟩))] (fun _ _ _ => True)) (fun _ _ _ _ h hr => h ▸ hr) rfl ?_ ?_
          · repeat (refine relSteps_cons (fun a w' hC hout hf K' Q' hK' => ?_) ?_; rotate_left)
            · exact trivial
            all_goals
              have e0 : a.tmps.getD 0 undef = .pointer (some ⟨g, 0, none⟩) := hout 0 (by kernel_rfl)
              have e5 : a.tmps.getD 5 undef = .pointer (some ⟨wr.heap.size, 0, none⟩) := hout 5 (by kernel_rfl)
              clear hout
              subst hC
              simp [relFacts, relR, Region.binds, Act.put, -Int.reduceNeg] at hf hK' e0 e5
              try go_split_ands
            all_goals first
              | (refine wp_load_mid 145 _ rfl wr.heap.size 0 (by simp [Act.eval, *]) (strCells s) _ HXS.out Try.underlying145 rfl (by rw [HSL.out]; exact size145) ?_; exact hK')
              | (go_simp; exact hK')
          · intro tm wx hC hsz hout hall K' hK'
            subst hC
            have t0 : tm.getD 0 undef = .pointer (some ⟨g, 0, none⟩) := hout 0 (by kernel_rfl)
            have t1 : tm.getD 1 undef = .func (.func 93) #[] #[] := hout 1 (by kernel_rfl)
            have t9 : tm.getD 9 undef = .slice (some ⟨P, 0, none⟩) V.pend.length cp := hout 9 (by kernel_rfl)
            have t10 : tm.getD 10 undef = .int .i64 V.pend.length := hout 10 (by kernel_rfl)
            have t11 : tm.getD 11 undef = .int .i64 k := hout 11 (by kernel_rfl)
            have t2 : tm.getD 2 undef = undef := hout 2 (by kernel_rfl)
            have t3 : tm.getD 3 undef = undef := hout 3 (by kernel_rfl)
            have t6 : tm.getD 6 undef = .pointer (some ⟨g, 0, none⟩) := hout 6 (by kernel_rfl)
            have t7 : tm.getD 7 undef = .pointer (some ⟨g, 0, none⟩) := hout 7 (by kernel_rfl)
            have t8 : tm.getD 8 undef = .pointer (some ⟨g, 1, none⟩) := hout 8 (by kernel_rfl)
            have t29 : tm.getD 29 undef = undef := hout 29 (by kernel_rfl)
            have t30 : tm.getD 30 undef = undef := hout 30 (by kernel_rfl)
            have t31 : tm.getD 31 undef = undef := hout 31 (by kernel_rfl)
            simp only [relAll, relR] at hall
            have t26 : tm.getD 26 undef = .agg (strCells s).toArray := hall.2.2.2.2.2.2.2.1
            have t27 : tm.getD 27 undef = .pointer (some ⟨K, at_ * 128, none⟩) := hall.2.2.2.2.2.2.2.2.1
            clear hall hout
            refine wp_store_at 145 _ _ rfl K (at_ * 128) (strCells s) t27 t26 C 145 HC.out.1 (by have := HC.out.2.1; omega) (by rw [HSL.out]; exact size145) (strCells_one s) ?_
            have ht := tmps_out tm 32 hsz
            rw [show List.range 32 = [0, 1, 2, 3, 4, 5, 6, 7, 8, 9, 10, 11, 12, 13, 14, 15, 16, 17, 18, 19, 20, 21, 22, 23, 24, 25, 26, 27, 28, 29, 30, 31] from rfl] at ht
            simp only [List.map, t2, t3, t6, t7, t8, t29, t30, t31, t0, t1, t9, t10, t11, t26, t27] at ht
            rw [ht]
            clear ht t0 t1 t9 t10 t11 t26 t27 hgx hxat t2 t3 t6 t7 t8 t29 t30 t31
            refine hK' _ _ ?_
            go_wp2
            exact ⟨⟨k + 1, by omega, by go_num, HN.out⟩, by simp [intOf]; omega⟩
    · obtain rfl : k = V.pend.length := by omega
      have F := Lib.hid (FIN.out wr HI.out)
      have hd : wr.heap[g]? = some (.cells (hdCells K V.kept.length c (.slice A V.pend.length cp) V.fuse V.dead) 90) := HI.out.keep.heap HH.out.hd (by simpa using hgK)
      have g1 : wr.cell? ⟨g, 1, none⟩ = some (.slice A V.pend.length cp) := (cell_of_row _ _ 1 _ _ _ hd).trans rfl
      have f1 : wr.frozen? ⟨g, 1, none⟩ = false := frozen_of_row wr g 1 _ _ hd
      clear hd
      go_wp2
      go_end0
      exact ⟨rfl, F.out⟩

set_option maxRecDepth 100000 in
set_option maxHeartbeats 8000000 in
theorem keep_some (w : World) (g K c : Nat) (pv : Value) (V : DiskV) (pick : Nat → Bool) (bx : Nat) (h : DiskAt w g K c pv V)
    (hpick : ∀ (k : Nat) (W : World), Keep [K] w W → Calls Try.prog 88 #[.int .i64 k, .pointer (some ⟨bx, 0, none⟩)] W fun e w' => e = .returned (.bool (pick k)) ∧ W = w') :
    Calls Try.prog 87 #[.pointer (some ⟨g, 0, none⟩), .func (.func 88) #[] #[.pointer (some ⟨bx, 0, none⟩)]] w fun e w' => e = .returned (.tuple #[]) ∧ DiskAt w' g K c (.slice none 0 0) (V.keepV pick) ∧ Keep [g, K] w w' := by
  obtain ⟨i147, hi147, hz147, hz1, hz2⟩ := info_parts info147
  obtain ⟨c0, c1, _, _⟩ := h.cells
  have hKlt : K < w.heap.size := (h.kept.lt _ rfl).2
  obtain ⟨A, cp, rfl⟩ := own_form h.pend
  have HH := Lib.hid h
  have HP := Lib.hid hpick
  have hgK : g ≠ K := h.ne
  have hcm : cp ≤ maxLen := by
    rcases h.pend.2 with ⟨h1, h2⟩ | ⟨g', cap', cur, h1, _, _, h3, h4, _⟩
    · injection h1 with _ _ h5; rw [h5]; exact Nat.zero_le _
    · injection h1 with _ _ h5; rw [h5]; exact h4
  have hml : V.pend.length ≤ cp := own_cap h.pend
  unfold maxLen at hcm
  have hn2 : V.kept.length ≤ 16384 := h.ok.few
  have fin : ∀ wz, KeepI w g K c V pick V.pend.length wz → DiskAt (wz.setCell ⟨g, 1, none⟩ (.slice none 0 0)) g K c (.slice none 0 0) (V.keepV pick) ∧ Keep [g, K] w (wz.setCell ⟨g, 1, none⟩ (.slice none 0 0)) := by
    intro wz hz
    have hk := hz.keep
    have hrow := hz.row
    rw [keptTo_all] at hrow
    have hlen : (V.keepV pick).kept.length = V.kept.length := keepGo_length _ _ _ _
    have hd : wz.heap[g]? = some (.cells (hdCells K V.kept.length c (.slice A V.pend.length cp) V.fuse V.dead) 90) := hk.heap HH.out.hd (by simpa using hgK)
    refine ⟨⟨?_, ?_, World.ownsRow_nil _ _ _ _, hgK, by simp [Value.ownBlock], by simp [Value.ownBlock], HH.out.ok.keep pick⟩, ((hk.mono (S' := [g, K]) (by simp)).setCell (.inl (by simp)) _)⟩
    · rw [hlen]
      exact heap_setCell_same _ g 1 _ 90 _ hd
    · rw [hlen]
      exact (keep_set wz g 1 _).owns hrow (fun k e => by cases e; simpa using Ne.symm hgK)
  have FIN := Lib.hid fin
  clear h hpick fin
  go_enter Try.func87, Try.ntmps87
  go_wp2
  go_loopw [11] (fun i wr => ∃ k : Nat, k ≤ V.pend.length ∧ i = .int .i64 k ∧ KeepI w g K c V pick k wr) (fun i _ => V.pend.length - (intOf i).toNat)
  case atStart => exact ⟨0, by omega, rfl, ⟨by rw [keptTo_zero]; exact HH.out.kept, Keep.refl _ _⟩⟩
  case round =>
    obtain ⟨k, hk, rfl, hI⟩ := hrel
    have HI := Lib.hid hI
    clear hI
    by_cases hlt : k < V.pend.length
    · have hp0 := HI.out.keep.owns HH.out.pend (fun j e => by have := HH.out.nK; rintro hm; simp at hm; subst hm; exact this e)
      cases A with
      | none =>
        exfalso
        rcases hp0.2 with ⟨h1, h2⟩ | ⟨g', cap', cur, h1, _⟩
        · omega
        · cases h1
      | some ad =>
        obtain ⟨P, rfl⟩ : ∃ P, ad = ⟨P, 0, none⟩ := by
          rcases hp0.2 with ⟨h1, h2⟩ | ⟨g', cap', cur, h1, _⟩
          · cases h1
          · cases h1; exact ⟨_, rfl⟩
        have hrg := pend_range hp0 HH.out.ok k hlt
        have hpk := HH.out.ok.pend _ (List.getElem_mem hlt)
        have hkept1 := keptTo_succ V pick k hlt
        obtain ⟨pk, hpkE⟩ : ∃ pk, V.pend[k] = pk := ⟨_, rfl⟩
        rw [hpkE] at hrg hpk hkept1
        obtain ⟨at_, s⟩ := pk
        have hs : s.size = 128 := hpk.2
        have hat : at_ < V.kept.length := hpk.1
        have hPlt : P < wr.heap.size := (hp0.lt _ rfl).2
        have hwl : (wrCells (at_, s)).length = 129 := wrCells_length hs
        have hx0 : (wr.alloc (.cells z147 147)).heap[wr.heap.size]? = some (.cells z147.toList.toArray 147) := by simpa using heap_alloc_new wr (.cells z147 147)
        have hz147l : z147.toList.length = 129 := by simp [z147]
        have hxs := setRow_same hx0 (splice z147.toList 0 (wrCells (at_, s))).toArray
        rw [splice_all (by omega)] at hxs
        have hk1 : Keep [] wr ((wr.alloc (.cells z147 147)).setRow wr.heap.size (wrCells (at_, s)).toArray) := ((Keep.refl [] wr).alloc _).putRow _ (.inr (Nat.le_refl _))
        have hxlt : wr.heap.size < ((wr.alloc (.cells z147 147)).setRow wr.heap.size (wrCells (at_, s)).toArray).heap.size := heap_lt hxs
        have HZ := Lib.hid (And.intro hi147 hz147)
        have HS := Lib.hid (And.intro hx0 hz147l)
        have HK1 := Lib.hid hkept1
        have HP0 := Lib.hid hp0
        have HPK := Lib.hid hpkE
        clear hkept1 hp0 hpkE
        have hone := wr_one (at_ : Int) s
        have HO := Lib.hid hone
        clear hone
        go_wp2_with (first
          | (refine wpList_load_mid rfl 147 _ rfl P (k * 129) rfl (wrCells (at_, s)) _ hrg Try.underlying147 rfl (by rw [hwl]; exact size147) ?_)
          | (refine wpList_alloc_big rfl 147 rfl i147 z147 HZ.out.1 HZ.out.2 ?_)
          | (refine wpList_store_at rfl 147 _ _ rfl wr.heap.size 0 (wrCells (at_, s)) rfl rfl z147.toList 147 HS.out.1 (by rw [HS.out.2]; omega) (by rw [hwl]; exact size147) HO.out ?_; rw [splice_all (by rw [HS.out.2]; omega)]))
        have hk1w : Keep [K] w ((wr.alloc (.cells z147 147)).setRow wr.heap.size (wrCells (at_, s)).toArray) := HI.out.keep.trans (hk1.mono (by simp))
        have hgx : ((wr.alloc (.cells z147 147)).setRow wr.heap.size (wrCells (at_, s)).toArray).cell? ⟨g, 0, none⟩ = some (.slice (some ⟨K, 0, none⟩) V.kept.length c) := hk1w.cell c0 (by simpa using hgK)
        have hKr : K < wr.heap.size := (HI.out.row.lt _ rfl).2
        have hrow1 := hk1.owns HI.out.row (by simp)
        clear hrg
        generalize ((wr.alloc (.cells z147 147)).setRow wr.heap.size (wrCells (at_, s)).toArray) = W2 at *
        have HW2 := Lib.hid (And.intro hk1w (And.intro hrow1 hxs))
        clear hk1 hrow1
        refine (HP.out k W2 HW2.out.1).mono ?_
        rintro e w3 ⟨rfl, rfl⟩
        cases hpb : pick k with
        | false =>
          have hnext : KeepI w g K c V pick (k + 1) W2 := ⟨by rw [HK1.out, hpb, if_neg (by simp)]; exact HW2.out.2.1, HW2.out.1⟩
          have HN := Lib.hid hnext
          clear hnext hpb hk1w hgx hxs
          go_wp2
          exact ⟨⟨k + 1, by omega, by go_num, HN.out⟩, by simp [intOf]; omega⟩
        | true =>
          have hset := keptTo_set_own HW2.out.2.1.drew (keptTo_length V pick k) (keptTo_full HH.out.ok pick k) hat hs
          obtain ⟨C, hC1, hC2, hC3⟩ := hset
          have hKw : Keep [K] w (W2.drew.setRow K (splice C (at_ * 128) (strCells s)).toArray) := hk1w.drew.putRow _ (.inl (by simp))
          have HC := Lib.hid (And.intro hC1 (And.intro hC2 (And.intro hC3 hKw)))
          have hnext : KeepI w g K c V pick (k + 1) (W2.drew.setRow K (splice C (at_ * 128) (strCells s)).toArray) := ⟨by rw [HK1.out, hpb, if_pos rfl]; exact HC.out.2.2.1, HC.out.2.2.2⟩
          have HN := Lib.hid hnext
          have hxat := wr_cell_at hxs hs
          have hxsec : W2.drew.rangeAt wr.heap.size 0 (strCells s) := wr_range_sec (w := W2.drew) hxs hs
          have HXS := Lib.hid hxsec
          have hsl : (strCells s).length = 128 := by rw [strCells_length, hs]
          have HSL := Lib.hid hsl
          have hat0 : (0 : Int) ≤ (at_ : Int) := by omega
          have hat1 : (at_ : Int) < (V.kept.length : Int) := by omega
          clear hnext hpb hC1 hC2 hC3 hKw hk1w hxs hxsec hsl
          go_wp2_with fail
          refine wp_region_relz (by simp only [List.dropLast]; rfl) (by simp only [List.getLast?_cons_cons, List.getLast?_singleton]; rfl) (by kernel_rfl) (by kernel_rfl) (fun w' => w' = W2.drew) (fun a b => b = a) (relR
            [some (.pointer (some ⟨g, 0, none⟩)), some (.pointer (some ⟨g, 0, none⟩)), some (.pointer (some ⟨g, 0, none⟩)), some (.slice (some ⟨K, 0, none⟩) V.kept.length c), some (.pointer (some ⟨wr.heap.size, 128, none⟩)), some (.int .i64 at_),
             some (.pointer (some ⟨wr.heap.size, 0, none⟩)), some (.agg (strCells s).toArray), some (.pointer (some ⟨K, at_ * 128, none⟩))] (fun _ _ _ => True)) (fun _ _ _ _ h hr => h ▸ hr) rfl ?_ ?_
          · repeat (refine relSteps_cons (fun a w' hC hout hf K' Q' hK' => ?_) ?_; rotate_left)
            · exact trivial
            all_goals
              have e0 : a.tmps.getD 0 undef = .pointer (some ⟨g, 0, none⟩) := hout 0 (by kernel_rfl)
              have e5 : a.tmps.getD 5 undef = .pointer (some ⟨wr.heap.size, 0, none⟩) := hout 5 (by kernel_rfl)
              clear hout
              subst hC
              simp [relFacts, relR, Region.binds, Act.put, -Int.reduceNeg] at hf hK' e0 e5
              try go_split_ands
            all_goals first
              | (refine wp_load_mid 145 _ rfl wr.heap.size 0 (by simp [Act.eval, *]) (strCells s) _ HXS.out Try.underlying145 rfl (by rw [HSL.out]; exact size145) ?_; exact hK')
              | (go_simp; exact hK')
          · intro tm wx hC hsz hout hall K' hK'
            subst hC
            have t0 : tm.getD 0 undef = .pointer (some ⟨g, 0, none⟩) := hout 0 (by kernel_rfl)
            have t1 : tm.getD 1 undef = .func (.func 88) #[] #[.pointer (some ⟨bx, 0, none⟩)] := hout 1 (by kernel_rfl)
            have t9 : tm.getD 9 undef = .slice (some ⟨P, 0, none⟩) V.pend.length cp := hout 9 (by kernel_rfl)
            have t10 : tm.getD 10 undef = .int .i64 V.pend.length := hout 10 (by kernel_rfl)
            have t11 : tm.getD 11 undef = .int .i64 k := hout 11 (by kernel_rfl)
            have t2 : tm.getD 2 undef = undef := hout 2 (by kernel_rfl)
            have t3 : tm.getD 3 undef = undef := hout 3 (by kernel_rfl)
            have t6 : tm.getD 6 undef = .pointer (some ⟨g, 0, none⟩) := hout 6 (by kernel_rfl)
            have t7 : tm.getD 7 undef = .pointer (some ⟨g, 0, none⟩) := hout 7 (by kernel_rfl)
            have t8 : tm.getD 8 undef = .pointer (some ⟨g, 1, none⟩) := hout 8 (by kernel_rfl)
            have t29 : tm.getD 29 undef = undef := hout 29 (by kernel_rfl)
            have t30 : tm.getD 30 undef = undef := hout 30 (by kernel_rfl)
            have t31 : tm.getD 31 undef = undef := hout 31 (by kernel_rfl)
            simp only [relAll, relR] at hall
            have t26 : tm.getD 26 undef = .agg (strCells s).toArray := hall.2.2.2.2.2.2.2.1
            have t27 : tm.getD 27 undef = .pointer (some ⟨K, at_ * 128, none⟩) := hall.2.2.2.2.2.2.2.2.1
            clear hall hout
            refine wp_store_at 145 _ _ rfl K (at_ * 128) (strCells s) t27 t26 C 145 HC.out.1 (by have := HC.out.2.1; omega) (by rw [HSL.out]; exact size145) (strCells_one s) ?_
            have ht := tmps_out tm 32 hsz
            rw [show List.range 32 = [0, 1, 2, 3, 4, 5, 6, 7, 8, 9, 10, 11, 12, 13, 14, 15, 16, 17, 18, 19, 20, 21, 22, 23, 24, 25, 26, 27, 28, 29, 30, 31] from rfl] at ht
            simp only [List.map, t2, t3, t6, t7, t8, t29, t30, t31, t0, t1, t9, t10, t11, t26, t27] at ht
            rw [ht]
            clear ht t0 t1 t9 t10 t11 t26 t27 hgx hxat t2 t3 t6 t7 t8 t29 t30 t31
            refine hK' _ _ ?_
            go_wp2
            exact ⟨⟨k + 1, by omega, by go_num, HN.out⟩, by simp [intOf]; omega⟩
    · obtain rfl : k = V.pend.length := by omega
      have F := Lib.hid (FIN.out wr HI.out)
      have hd : wr.heap[g]? = some (.cells (hdCells K V.kept.length c (.slice A V.pend.length cp) V.fuse V.dead) 90) := HI.out.keep.heap HH.out.hd (by simpa using hgK)
      have g1 : wr.cell? ⟨g, 1, none⟩ = some (.slice A V.pend.length cp) := (cell_of_row _ _ 1 _ _ _ hd).trans rfl
      have f1 : wr.frozen? ⟨g, 1, none⟩ = false := frozen_of_row wr g 1 _ _ hd
      clear hd
      go_wp2
      go_end0
      exact ⟨rfl, F.out⟩
end Go.Proofs.Ytkhggpopohkjfaa
