/- (*block.Disk).Read. Premise: the disk is right. -/
import Derived.Test.YtkhggpopohkjfaaBack
import Derived.Test.YtkhggpopohkjfaaRelP
import Derived.Test.YtkhggpopohkjfaaBytesIn
import Derived.Test.YtkhggpopohkjfaaDiskL
import Derived.Test.YtkhggpopohkjfaaActsIn
import Derived.RangeFuncBox
namespace Go.Proofs.Ytkhggpopohkjfaa
open Go.RowKit Go.Proofs Go.Lib
set_option linter.unusedVariables false
set_option linter.unusedSimpArgs false
attribute [local go_sem] Oper.semAt_some wide_fn_eq

/-- What Read hands back. -/
def RdPost (w : World) (V : DiskV) (i : Int) (e : Ending) (w' : World) : Prop :=
  Keep [] w w' ∧ ∃ A n cap, e = .returned (.tuple #[.slice A n cap, .int .i64 (V.readE i)]) ∧ BytesIn w' A n cap (V.readB i) ∧ ∀ a, A = some a → w.heap.size ≤ a.block

theorem bytesIn_nil (w : World) : BytesIn w none 0 0 ByteArray.empty := ⟨rfl, Nat.le_refl _, Nat.zero_le _, fun a ha => (by cases ha), fun _ => ⟨rfl, rfl⟩⟩

theorem dread_bad {w : World} {g : Nat} {S : List Nat} {V : DiskV} (i : Int) (h : Disk w g S V) (he : V.withinE i ≠ 0) : Calls Try.prog 39 #[.pointer (some ⟨g, 0, none⟩), .int .i64 i] w (RdPost w V i) := by
  have hk : Keep [] w (w.alloc (.cells #[.int .i64 i] 3)) := (Keep.refl _ _).alloc _
  have hm := within_ok i (h.keep0 hk)
  have hE : V.readE i = V.withinE i := rfl
  have hB : V.readB i = ByteArray.empty := by unfold DiskV.readB; rw [if_neg he]
  have FIN : Hid (RdPost w V i (.returned (.tuple #[.slice none 0 0, .int .i64 (V.withinE i)])) (w.alloc (.cells #[.int .i64 i] 3))) := Lib.hid ⟨hk, none, 0, 0, by rw [hE], by rw [hB]; exact bytesIn_nil _, fun a ha => by cases ha⟩
  generalize V.withinE i = x at *
  have HM := Lib.hid hm
  clear hm hE hB hk h
  go_enter Try.func39, Try.ntmps39
  go_wp2_with fail
  refine HM.out.mono ?_
  rintro e w1 ⟨rfl, rfl⟩
  go_wp2
  go_ret2
  exact FIN.out

/-- What holds between two rounds. -/
structure ReadI (w : World) (i : Nat) (ib B Bc D : Nat) (bv : Value) (s : ByteArray) (L : Loop) (W : World) : Prop where
  hi : W.heap[ib]? = some (.cells #[.int .i64 i] 3 (0, 0))
  hB : W.heap[B]? = some (.cells (strCells s).toArray 145)
  hc : W.heap[Bc]? = some (.cells #[bv] 88 (0, 0))
  hD : W.heap[D]? = some (.deferred (some []))
  hL : W.heap[D + 1]? = some (.loop L)
  keep : Keep [] w W

set_option maxRecDepth 100000 in
set_option maxHeartbeats 4000000 in
theorem dread_ok {w : World} {g K c : Nat} {pv : Value} {V : DiskV} (i : Nat) (h : DiskAt w g K c pv V) (he : V.withinE i = 0) : CallsIn Fence.wide 5 Try.prog 39 #[.pointer (some ⟨g, 0, none⟩), .int .i64 i] w (RdPost w V i) := by
  obtain ⟨hdead, _, hil⟩ := withinE_zero he
  rw [Int.toNat_natCast] at hil
  have hk : Keep [] w (w.alloc (.cells #[.int .i64 i] 3)) := (Keep.refl _ _).alloc _
  have h1 := h.keep (T := []) hk (fun _ _ => by simp)
  have hm := within_ok i ⟨K, c, pv, h1, rfl⟩
  rw [he] at hm
  obtain ⟨i145, hi145, hz145, hz1, hz2⟩ := info_parts info145
  obtain ⟨i147, hi147, hz147, hz3, hz4⟩ := info_parts info147
  have HE := Lib.hid he
  have HM := Lib.hid hm
  have HZ := Lib.hid (And.intro hi145 (And.intro hz145 (And.intro hi147 hz147)))
  have HH := Lib.hid h
  have H1 := Lib.hid h1
  have hgl : g < w.heap.size := h.lt g (mem_foot.2 (.inl rfl))
  have hKl : K < w.heap.size := h.lt K (mem_foot.2 (.inr (.inl rfl)))
  have hib := heap_alloc_new w (.cells #[.int .i64 i] 3)
  have hi0 : (0 : Int) ≤ (i : Int) := by omega
  have hi1 : (i : Int) < (V.kept.length : Int) := by omega
  have hn2 : V.kept.length ≤ 16384 := h.ok.few
  obtain ⟨s0, hs0⟩ : ∃ s0, V.kept.getD i ByteArray.empty = s0 := ⟨_, rfl⟩
  have hs0l : s0.size = 128 := hs0 ▸ h.ok.at_size hil
  have hrg0 : w.rangeAt K (i * 128) (strCells s0) := fun j v hv => by
    have hj : j < 128 := by have := (List.getElem?_eq_some_iff.1 hv).1; rw [strCells_length, hs0l] at this; exact this
    rw [h.kept.cellAt (i * 128 + j) (by omega), keptCells_get V.kept i j hil h.ok.full hj, ← hv, ← hs0, List.getD_eq_getElem?_getD, List.getElem?_eq_getElem hil]
    rfl
  have hrg1 := rangeAt_keep hrg0 hk.drew (by simp)
  have HR := Lib.hid (And.intro hrg1 (And.intro hs0l hs0))
  clear hm he hdead h hi145 hz145 hi147 hz147 hz1 hz2 hz3 hz4 h1 hs0l hs0 hrg0 hrg1
  refine callsIn_of_wp_marks Try.func39 rfl (wide_fn _) ?_
  simp only [Try.ntmps39, List.size_toArray, List.length_cons, List.length_nil, Nat.reduceAdd, Nat.reduceSub, Array.replicate_succ, Array.replicate_zero, List.push_toArray, List.append_toArray, List.nil_append, List.cons_append]
  gi_wp2_with (gi_at_call 90; refine (callsIn_wide.2 HM.out).mono ?_; rintro e w' ⟨rfl, rfl⟩)
  obtain ⟨d0, d1, _, _⟩ := H1.out.cells
  have hci := cell_of_one hib
  refine wpIn_wide.2 (wp_region_relp (by simp only [List.dropLast]; rfl) (by simp only [List.getLast?_cons_cons, List.getLast?_singleton]; rfl) (by kernel_rfl) (by kernel_rfl) (fun w' => Keep [] (w.alloc (.cells #[.int .i64 i] 3)).drew w') (fun _ _ => True) (relR
      [some (.pointer (some ⟨g, 0, none⟩)), some (.pointer (some ⟨g, 0, none⟩)), some (.pointer (some ⟨g, 0, none⟩)), some (.slice (some ⟨K, 0, none⟩) V.kept.length c), some (.int .i64 i), some (.pointer (some ⟨K, i * 128, none⟩)), some (.agg (strCells s0).toArray), none]
      (fun j v w' => j = 7 → ∃ y, v = .pointer (some ⟨y, 0, none⟩) ∧ w'.heap[y]? = some (.cells z145 145) ∧ w.heap.size < y)) (Keep.refl _ _) (fun _ => trivial) ?_ ?_)
  · repeat (refine relpSteps_cons (fun a w' hC hpre hout hf K' Q' hK' => ?_) ?_; rotate_left)
    · exact trivial
    all_goals
      have e0 : a.tmps.getD 0 undef = .pointer (some ⟨g, 0, none⟩) := hout 0 (by kernel_rfl)
      have e3 : a.tmps.getD 3 undef = .pointer (some ⟨w.heap.size, 0, none⟩) := hout 3 (by kernel_rfl)
      clear hout
      have hd0 := hC.cell d0 (by simp)
      have hd3 := hC.cell hci (by simp)
      simp [relFacts, relR, Region.binds, -Int.reduceNeg] at hf e0 e3
      try go_split_ands
    all_goals first
      | (refine wp_load_mid 145 _ rfl K (i * 128) (by simp [Act.eval, *]) (strCells s0) _ (rangeAt_keep HR.out.1 hC (by simp)) Try.underlying145 rfl (by rw [strCells_length, HR.out.2.1]; exact size145) ?_; exact hK' _ _ rfl hC (fun _ _ _ h => h) (fun _ _ h => h))
      | (refine wp_alloc_big 145 rfl i145 z145 HZ.out.1 HZ.out.2.1 ?_; exact hK' _ _ (fun _ => ⟨_, rfl, heap_alloc_new _ _, (by have := hC.size; simp at this; omega)⟩) (hC.alloc _) (fun j u hj hr => relR_stable (i := 7) (fun j v hj hs h7 => absurd h7 hj) j u hj hr) (fun _ _ h => h))
      | (go_simp; exact hK' _ _ rfl hC (fun _ _ _ h => h) (fun _ _ h => h))
      | skip
  · intro tm wx hC hsz hout hall K' hK'
    simp only [relAll, relR] at hall
    have t0 : tm.getD 0 undef = .pointer (some ⟨g, 0, none⟩) := hout 0 (by kernel_rfl)
    have t3 : tm.getD 3 undef = .pointer (some ⟨w.heap.size, 0, none⟩) := hout 3 (by kernel_rfl)
    have t22 : tm.getD 22 undef = .agg (strCells s0).toArray := hall.2.2.2.2.2.2.1
    obtain ⟨y, t7, hy, hyl⟩ := hall.2.2.2.2.2.2.2.1 trivial
    clear hall hout
    have hz145l : z145.toList.length = 128 := by simp [z145]
    have hs0l : (strCells s0).length = 128 := by rw [strCells_length, HR.out.2.1]
    have hy2 : wx.heap[y]? = some (.cells z145.toList.toArray 145) := by simpa using hy
    have hW4 := setRow_same hy2 (splice z145.toList 0 (strCells s0)).toArray
    have hspl : splice z145.toList 0 (strCells s0) = strCells s0 := splice_all (by omega)
    have hk4 : Keep [] w (wx.setRow y (splice z145.toList 0 (strCells s0)).toArray) := (hk.drew.trans hC).putRow _ (.inr (by omega))
    have hib4 : (wx.setRow y (splice z145.toList 0 (strCells s0)).toArray).heap[w.heap.size]? = some (.cells #[.int .i64 i] 3) := (setRow_other _ _ _ _ (by omega)).trans (hC.heap hib (by simp))
    refine wp_store_at 145 _ _ rfl y 0 (strCells s0) t7 t22 z145.toList 145 hy2 (by omega) (by rw [hs0l]; exact size145) (strCells_one s0) ?_
    have ht := tmps_out tm 37 hsz
    rw [show List.range 37 = [0, 1, 2, 3, 4, 5, 6, 7, 8, 9, 10, 11, 12, 13, 14, 15, 16, 17, 18, 19, 20, 21, 22, 23, 24, 25, 26, 27, 28, 29, 30, 31, 32, 33, 34, 35, 36] from rfl] at ht
    simp only [List.map, t0, t3, t7, t22] at ht
    rw [ht]
    clear ht t0 t3 t7 t22
    rw [hspl] at hW4 hk4 hib4 ⊢
    generalize wx.setRow y (strCells s0).toArray = W4 at hW4 hk4 hib4 ⊢
    clear hy hy2 hC wx hspl hz145l hs0l hsz
    refine hK' _ _ ?_
    clear hK' K'
    have H4 := Lib.hid (And.intro hW4 (And.intro hk4 hib4))
    obtain ⟨A, cp, rfl⟩ := own_form HH.out.pend
    have c1 := hk4.cell HH.out.cells.2.1 (by simp)
    have hy4 : y < W4.heap.size := heap_lt hW4
    clear hW4 hk4 hib4 d0 d1 hib hci
    gi_wp2_with (gi_at_call 94; refine (callsIn_wide.2 (backward_any _ _ _ _)).mono ?_; rintro e w' ⟨rfl, rfl⟩)
    clear c1
    refine wp_rangeFunc rfl enters128 (fun rec hround => ?_)
    have hsz : (W4.alloc (.cells #[.slice A V.pend.length cp] 88)).heap.size = W4.heap.size + 1 := by simp
    rw [hsz] at hround ⊢
    have hcp := own_cap HH.out.pend
    have hcm : cp ≤ maxLen := by
      rcases HH.out.pend.2 with ⟨h1, h2⟩ | ⟨g', cap', cur, h1, _, _, h3, h4, _⟩
      · injection h1 with _ _ h5; rw [h5]; exact Nat.zero_le _
      · injection h1 with _ _ h5; rw [h5]; exact h4
    have hfull : ∀ p ∈ V.pend, p.2.size = 128 := fun p hp => (HH.out.ok.pend p hp).2
    refine (back1_in 4 (W4.heap.size + 1 + 1) W4.heap.size (by omega) V.pend A cp hcp hcm hfull
      (fun k W => ReadI w i w.heap.size y W4.heap.size (W4.heap.size + 1) (.slice A V.pend.length cp) s0 (rec .ready none) W ∧ hasGo V.pend i s0 = hasGo (V.pend.take k) i s0)
      (fun W => ReadI w i w.heap.size y W4.heap.size (W4.heap.size + 1) (.slice A V.pend.length cp) (V.has i) (rec .done (some (.exit 0))) W) ?c1 ?c4 _ ?c5).mono ?_
    case c1 =>
      rintro k W ⟨hR, _⟩
      exact ⟨cell_of_one hR.hc, hR.keep.owns HH.out.pend (by simp)⟩
    case c5 =>
      refine ⟨⟨?_, ?_, ?_, ?_, ?_, ?_⟩, by rw [List.take_length]⟩
      · exact past (past (past H4.out.2.2))
      · exact past (past (past H4.out.1))
      · exact past (past (heap_at _ _ _ (by simp)))
      · exact past (heap_at _ _ _ (by simp))
      · exact heap_at _ _ _ (by simp)
      · exact ((H4.out.2.1.alloc _).alloc _).alloc _
    case c4 =>
      rintro k hk' W ⟨hR, hgo⟩
      obtain ⟨pk, hpkE⟩ : ∃ pk, V.pend[k] = pk := ⟨_, rfl⟩
      have hpk := HH.out.ok.pend _ (List.getElem_mem hk')
      have htk := hasGo_take V.pend i s0 k hk'
      rw [hpkE] at hpk htk ⊢
      obtain ⟨at_, s⟩ := pk
      have hs : s.size = 128 := hpk.2
      rw [htk] at hgo
      dsimp only at hgo
      have hwl : (wrCells (at_, s)).length = 129 := wrCells_length hs
      have hx0 : (W.alloc (.cells z147 147)).heap[W.heap.size]? = some (.cells z147.toList.toArray 147) := by simpa using heap_alloc_new W (.cells z147 147)
      have hz147l : z147.toList.length = 129 := by simp [z147]
      have hxs := setRow_same hx0 (splice z147.toList 0 (wrCells (at_, s))).toArray
      rw [splice_all (by omega)] at hxs
      have hyW : y < W.heap.size := heap_lt hR.hB
      have hDW : W4.heap.size + 1 + 1 < W.heap.size := heap_lt hR.hL
      have oth : ∀ (j : Nat) (o : Obj), j < W.heap.size → W.heap[j]? = some o → ((W.alloc (.cells z147 147)).setRow W.heap.size (wrCells (at_, s)).toArray).heap[j]? = some o := fun j o hj ho => (setRow_other _ _ _ _ (by omega)).trans (past ho)
      have hL1 := oth _ _ hDW hR.hL
      have hS := Lib.hid (And.intro hx0 (And.intro hz147l (And.intro hwl (wr_one (at_ : Int) s))))
      have HRI := Lib.hid (And.intro hR (And.intro hxs (And.intro oth hgo)))
      have hRL := hR.hL
      clear hR hxs hx0 hz147l oth hgo htk hpkE
      refine' hround 3 _ W ((W.alloc (.cells z147 147)).setRow W.heap.size (wrCells (at_, s)).toArray) _ _ rfl hRL hL1 ?asn ?bd
      case asn =>
        intro K hK
        gi_wp2_with (first
          | (refine wpListIn_alloc_big rfl 147 rfl i147 z147 HZ.out.2.2.1 HZ.out.2.2.2 ?_)
          | (refine wpListIn_store_at rfl 147 _ _ rfl W.heap.size 0 (wrCells (at_, s)) (by simp [Act.eval, Act.put]) (by simp [Act.eval, Act.put]) z147.toList 147 hS.out.1 (by rw [hS.out.2.1]; have := hS.out.2.2.1; omega) (by rw [hS.out.2.2.1]; exact size147) hS.out.2.2.2 ?_; rw [splice_all (by rw [hS.out.2.1]; have := hS.out.2.2.1; omega)]))
        exact hK
      case bd =>
        obtain ⟨hR, hxs, oth, hgo⟩ := HRI.out
        obtain ⟨W2, hW2⟩ : ∃ W2, ((W.alloc (.cells z147 147)).setRow W.heap.size (wrCells (at_, s)).toArray).putObj (W4.heap.size + 1 + 1) (.loop (rec .busy none)) = W2 := ⟨_, rfl⟩
        have oth2 : ∀ (j : Nat) (o : Obj), j < W.heap.size → j ≠ W4.heap.size + 1 + 1 → W.heap[j]? = some o → W2.heap[j]? = some o := fun j o hj hne ho => by rw [← hW2]; exact (heap_putObj_other _ hne).trans (oth j o hj ho)
        have b0 : W2.heap[w.heap.size]? = some (.cells #[.int .i64 i] 3 (0, 0)) := oth2 _ _ (heap_lt hR.hi) (by omega) hR.hi
        have b1 : W2.heap[y]? = some (.cells (strCells s0).toArray 145) := oth2 _ _ hyW (by omega) hR.hB
        have b2 : W2.heap[W4.heap.size]? = some (.cells #[.slice A V.pend.length cp] 88 (0, 0)) := oth2 _ _ (heap_lt hR.hc) (by omega) hR.hc
        have b3 : W2.heap[W4.heap.size + 1]? = some (.deferred (some [])) := oth2 _ _ (heap_lt hR.hD) (by omega) hR.hD
        have b4 : W2.heap[W4.heap.size + 1 + 1]? = some (.loop (rec .busy none)) := by rw [← hW2]; exact heap_putObj_same _ (heap_lt hL1)
        have b5 : W2.heap[W.heap.size]? = some (.cells (wrCells (at_, s)).toArray 147) := by rw [← hW2]; exact (heap_putObj_other _ (by omega)).trans hxs
        have hk2 : Keep [] w W2 := by rw [← hW2]; exact ((hR.keep.alloc _).putRow _ (.inr (by omega))).putObj _ (.inr (by have := H4.out.2.1.size; omega))
        rw [hW2]
        clear hW2 oth2 oth hxs hL1 hRL HRI
        have cx := wr_cell_at b5 hs
        have ci := cell_of_one b0
        have hW4w := H4.out.2.1.size
        by_cases hpi : at_ = i
        · subst hpi
          have hsl : (strCells s).length = 128 := by rw [strCells_length, hs]
          have hxsec := wr_range_sec b5 hs
          have hhas : V.has at_ = s := by unfold DiskV.has; rw [HR.out.2.2, hgo, if_pos rfl]
          have hsp : splice (strCells s0) 0 (strCells s) = strCells s := splice_all (by rw [hsl, strCells_length, HR.out.2.1])
          have hW3 := setRow_same b1 (splice (strCells s0) 0 (strCells s)).toArray
          rw [hsp] at hW3
          have oth3 : ∀ (j : Nat) (o : Obj), j ≠ y → W2.heap[j]? = some o → (W2.setRow y (strCells s).toArray).heap[j]? = some o := fun j o hj ho => (setRow_other _ _ _ _ hj).trans ho
          have fin : (W2.setRow y (strCells s).toArray).heap[W4.heap.size + 1 + 1]? = some (.loop (rec .busy none)) ∧ ReadI w at_ w.heap.size y W4.heap.size (W4.heap.size + 1) (.slice A V.pend.length cp) (V.has at_) (rec .done (some (.exit 0))) ((W2.setRow y (strCells s).toArray).putObj (W4.heap.size + 1 + 1) (.loop (rec .done (some (.exit 0))))) := by
            refine ⟨oth3 _ _ (by omega) b4, ⟨?_, ?_, ?_, ?_, ?_, ?_⟩⟩
            · exact (heap_putObj_other _ (by omega)).trans (oth3 _ _ (by omega) b0)
            · rw [hhas]; exact (heap_putObj_other _ (by omega)).trans hW3
            · exact (heap_putObj_other _ (by omega)).trans (oth3 _ _ (by omega) b2)
            · exact (heap_putObj_other _ (by omega)).trans (oth3 _ _ (by omega) b3)
            · exact heap_putObj_same _ (heap_lt (oth3 _ _ (by omega) b4))
            · exact (hk2.putRow _ (.inr (by omega))).putObj _ (.inr (by omega))
          have FIN := Lib.hid fin
          have HX := Lib.hid (And.intro hxsec (And.intro hsl (And.intro b1 (And.intro hsp HR.out.2.1))))
          clear fin hxsec hsl hhas hsp hW3 oth3 hgo hR hk2 b0 b1 b2 b3 b4 b5
          gi_wp2_with (first
            | (refine wpListIn_load_mid rfl 145 _ rfl W.heap.size 0 (by simp [Act.eval, Act.put]) (strCells s) _ HX.out.1 Try.underlying145 rfl (by rw [HX.out.2.1]; exact size145) ?_)
            | (refine wpListIn_store_at rfl 145 _ _ rfl y 0 (strCells s) (by simp [Act.eval, Act.put]) (by simp [Act.eval, Act.put]) (strCells s0) 145 HX.out.2.2.1 (by rw [HX.out.2.1, strCells_length, HX.out.2.2.2.2]; omega) (by rw [HX.out.2.1]; exact size145) (strCells_one s) ?_; rw [HX.out.2.2.2.1]))
          exact ⟨FIN.out.1, .inr ⟨rfl, FIN.out.2⟩⟩
        · have hpi2 : ¬ ((at_ : Int) = (i : Int)) := by omega
          rw [if_neg hpi] at hgo
          have fin : ReadI w i w.heap.size y W4.heap.size (W4.heap.size + 1) (.slice A V.pend.length cp) s0 (rec .ready none) (W2.putObj (W4.heap.size + 1 + 1) (.loop (rec .ready none))) := by
            refine ⟨?_, ?_, ?_, ?_, ?_, ?_⟩
            · exact (heap_putObj_other _ (by omega)).trans b0
            · exact (heap_putObj_other _ (by omega)).trans b1
            · exact (heap_putObj_other _ (by omega)).trans b2
            · exact (heap_putObj_other _ (by omega)).trans b3
            · exact heap_putObj_same _ (heap_lt b4)
            · exact hk2.putObj _ (.inr (by omega))
          have FIN := Lib.hid (And.intro fin (And.intro hgo b4))
          clear fin hgo hR hk2 b0 b1 b2 b3 b4 b5 hpi
          gi_wp2
          exact ⟨FIN.out.2.2, .inl ⟨rfl, FIN.out.1, FIN.out.2.1⟩⟩
    have hW4w := H4.out.2.1.size
    have fin : ∀ (W : World) (pe : Option Code) (st : LoopState), ReadI w i w.heap.size y W4.heap.size (W4.heap.size + 1) (.slice A V.pend.length cp) (V.has i) (rec st pe) W → ∀ pe', (W.putObj (W4.heap.size + 1 + 1) (.loop (rec .exhausted pe'))).heap[W4.heap.size + 1]? = some (.deferred (some [])) ∧
        RdPost w V i (.returned (.tuple #[.slice (some ⟨y, 0, none⟩) 128 128, .int .i64 0])) ((W.putObj (W4.heap.size + 1 + 1) (.loop (rec .exhausted pe'))).putObj (W4.heap.size + 1) (.deferred none)) := by
      intro W pe st hR pe'
      refine ⟨(heap_putObj_other _ (by omega)).trans hR.hD, (hR.keep.putObj _ (.inr (by omega))).putObj _ (.inr (by omega)), some ⟨y, 0, none⟩, 128, 128, ?_, ?_, fun a ha => by cases ha; show w.heap.size ≤ y; omega⟩
      · rw [show V.readE i = 0 from HE.out]
      · have hrb : V.readB i = V.has i := by unfold DiskV.readB; rw [show V.withinE i = 0 from HE.out, if_pos rfl, Int.toNat_natCast]
        rw [hrb]
        have hsz := HH.out.ok.has_size hil
        have hB : ((W.putObj (W4.heap.size + 1 + 1) (.loop (rec .exhausted pe'))).putObj (W4.heap.size + 1) (.deferred none)).heap[y]? = some (.cells (strCells (V.has i)).toArray 145) := (heap_putObj_other _ (by omega)).trans ((heap_putObj_other _ (by omega)).trans hR.hB)
        refine ⟨hsz, Nat.le_refl _, by decide, fun a ha j hj => ?_, fun ha => by cases ha⟩
        cases ha
        rw [addr_add, Nat.zero_add, cell_of_row _ y j _ _ _ hB]
        simp only [strCells, List.getElem?_toArray, List.getElem?_map]
        rw [List.getElem?_eq_getElem (by exact hj)]
        rfl
    have FIN := Lib.hid fin
    clear fin hround
    rintro e W ⟨⟨v0, rfl⟩, (⟨hR, hgo⟩ | hR)⟩
    · rw [show V.has i = s0 by unfold DiskV.has; rw [HR.out.2.2, hgo]; rfl] at FIN
      have F := Lib.hid (FIN.out W none .ready hR none)
      refine ⟨⟨_, rfl⟩, .inl ⟨.ready, by simp, hR.hL, ?_⟩⟩
      clear hR hgo
      gi_wp2
      refine ⟨by simp, .inl ⟨_, _, rfl, run_takeDeferred F.out.1, ?_⟩⟩
      refine ⟨_, results_tmp2 rfl _ _ _, ?_⟩
      exact F.out.2
    · have F := Lib.hid (FIN.out W (some (.exit 0)) .done hR (some (.exit 0)))
      refine ⟨⟨_, rfl⟩, .inr ⟨.done, .exit 0, by simp, hR.hL, ?_⟩⟩
      clear hR
      gi_wp2
      refine ⟨by simp, .inl ⟨_, _, rfl, run_takeDeferred F.out.1, ?_⟩⟩
      refine ⟨_, results_tmp2 rfl _ _ _, ?_⟩
      exact F.out.2
theorem dread_any {w : World} {g : Nat} {S : List Nat} {V : DiskV} (i : Int) (h : Disk w g S V) : Calls Try.prog 39 #[.pointer (some ⟨g, 0, none⟩), .int .i64 i] w (RdPost w V i) := by
  by_cases he : V.withinE i = 0
  · obtain ⟨m, rfl⟩ := Int.eq_ofNat_of_zero_le (withinE_zero he).2.1
    obtain ⟨K, c, pv, h, rfl⟩ := h
    exact callsIn_wide.1 (dread_ok m h he)
  · exact dread_bad i h he
end Go.Proofs.Ytkhggpopohkjfaa
