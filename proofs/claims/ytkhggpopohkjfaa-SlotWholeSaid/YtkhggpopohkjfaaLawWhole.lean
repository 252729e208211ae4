/- ambrylaw05.SlotWhole returns true whatever the input. Premises: what every argument meets by its type. -/
import Derived.Test.YtkhggpopohkjfaaLawElder
import Derived.Test.YtkhggpopohkjfaaWholeM
namespace Go.Proofs.Ytkhggpopohkjfaa
open Go.RowKit Go.Proofs Go.Lib

theorem slotCells_take (l : List SlotV) (M : Nat) : (slotCells l).take (M * 5) = slotCells (l.take M) := by
  induction l generalizing M with
  | nil => simp [slotCells]
  | cons a r ih =>
    cases M with
    | zero => simp [slotCells]
    | succ M =>
      have := ih M
      simp only [slotCells, List.take_succ_cons, List.flatMap_cons] at this ⊢
      rw [List.take_append]
      have hl : a.cells.length = 5 := rfl
      rw [hl, show (M + 1) * 5 - 5 = M * 5 by omega, this, List.take_of_length_le (by rw [hl]; omega)]

/-- The cells of the ends. -/
def endCells (l : List ByteArray) (q : Int) (k : Nat) : List Value := (List.range k).map fun i => .int .i64 (q + sumN (l.take (i + 1)))
theorem endCells_succ (l : List ByteArray) (q : Int) (k : Nat) : endCells l q (k + 1) = endCells l q k ++ [.int .i64 (q + sumN (l.take (k + 1)))] := by simp [endCells, List.range_succ]
theorem endCells_get (l : List ByteArray) (q : Int) (n i : Nat) (h : i < n) : (endCells l q n)[i]? = some (.int .i64 (q + sumN (l.take (i + 1)))) := by
  unfold endCells
  rw [List.getElem?_map, List.getElem?_range h]
  rfl

/-- What the first loop of SlotWhole has done. -/
def WholeI (w : World) (ls : List ByteArray) (ep q : Int) (k : Nat) (va ve : Value) (wr : World) : Prop :=
  okL (ls.take k) ep q ∧ wr.ownsRow w.heap.size 41 5 va (sumN (ls.take k)) (slotCells (allL (ls.take k) ep q)) ∧ wr.ownsRow w.heap.size 3 1 ve k (endCells ls q k) ∧ Keep [] w wr

theorem sum_succ {ls : List ByteArray} {k : Nat} (h : k < ls.length) : sumN (ls.take (k + 1)) = sumN (ls.take k) + npc ls[k] := by
  rw [List.take_succ_eq_append_getElem h, sumN_append]
  simp [sumN]
theorem all_succ {ls : List ByteArray} {k : Nat} (h : k < ls.length) (e q : Int) : allL (ls.take (k + 1)) e q = allL (ls.take k) e q ++ cutL ls[k] e (q + sumN (ls.take k)) := by
  rw [List.take_succ_eq_append_getElem h, allL_append]
  simp [allL]
theorem ok_succ {ls : List ByteArray} {k : Nat} (h : k < ls.length) {e q : Int} (h1 : okL (ls.take k) e q) (h2 : cutErr ls[k] e (q + sumN (ls.take k)) = 0) : okL (ls.take (k + 1)) e q := by
  rw [List.take_succ_eq_append_getElem h, okL_append]
  exact ⟨h1, h2, trivial⟩

/-- What joining the first M slots gives: H whole records. -/
def nextOf (ls : List ByteArray) (q : Int) (M : Nat) : Int := if M = 0 then 0 else q + sumN (ls.take (wholeN ls M))
theorem joinF_take {ls : List ByteArray} {e q : Int} (hok : okL ls e q) (hl : ls ≠ []) (M : Nat) : joinF ((allL ls e q).take M) = (recsL (ls.take (wholeN ls M)) q, nextOf ls q M) := by
  unfold nextOf
  by_cases h0 : M = 0
  · subst h0
    have hw : wholeN ls 0 = 0 := by
      cases ls with
      | nil => rfl
      | cons s r => unfold wholeN; rw [if_neg (by have := npc_pos s; omega)]
    rw [hw]
    rfl
  · rw [if_neg h0, join_all hok M (by omega) hl]

theorem whole_call {ls : List ByteArray} {ep q : Int} (hok : okL ls ep q) (hl : ls ≠ []) (hn : ls.length ≤ 20) (M c g : Nat) (W : World) (hM : M ≤ sumN ls) (ho : W.ownsRow 0 41 5 (.slice (some ⟨g, 0, none⟩) (sumN ls) c) (sumN ls) (slotCells (allL ls ep q))) :
    Calls Try.prog 28 #[.slice (some ⟨g, 0, none⟩) M c] W fun en w' => ∃ A c', en = .returned (.tuple #[.slice A (wholeN ls M) c', .int .i64 (nextOf ls q M)]) ∧ Keep [] W w' ∧ w'.ownsRow 0 37 3 (.slice A (wholeN ls M) c') (wholeN ls M) (recCells (recsL (ls.take (wholeN ls M)) q)) := by
  have hs := sumN_le hok
  have ho2 := own_take ho hM
  rw [slotCells_take] at ho2
  refine (join_any _ ((allL ls ep q).take M) W M (by rw [List.length_take, allL_length]; omega) (by omega) ho2 ?_).mono ?_
  · intro s hs
    exact allL_data (List.mem_of_mem_take hs)
  · rintro en w' ⟨hk, vo, he, hoo⟩
    rw [joinF_take hok hl] at he hoo
    have hlen : (recsL (ls.take (wholeN ls M)) q).length = wholeN ls M := by
      rw [recsL_length, List.length_take]
      have := wholeN_le ls M
      omega
    simp only at he hoo
    rw [hlen] at hoo
    obtain ⟨A, c', rfl⟩ : ∃ A c', vo = .slice A (wholeN ls M) c' := by
      rcases hoo.2 with ⟨rfl, h0⟩ | ⟨g, cap, cur, rfl, _⟩
      · exact ⟨none, 0, by rw [h0]⟩
      · exact ⟨_, _, rfl⟩
    exact ⟨A, c', he, hk, owns_base hoo (Nat.zero_le _)⟩

/-- The cells of the records that were joined. -/
theorem got_cells {w : World} {g c H : Nat} {l : List ByteArray} {q : Int} (h : w.ownsRow 0 37 3 (.slice (some ⟨g, 0, none⟩) H c) H (recCells (recsL (l.take H) q))) {j : Nat} (hj : j < H) (hl : j < l.length) :
    w.cell? ⟨g, j * 3 + 2, none⟩ = some (.string l[j]) ∧ w.cell? ⟨g, j * 3 + 1, none⟩ = some (.int .i64 (q + sumN (l.take (j + 1)))) ∧ w.cell? ⟨g, j * 3, none⟩ = some (.int .i64 (q + sumN (l.take j))) := by
  have hlen : j < (recsL (l.take H) q).length := by rw [recsL_length, List.length_take]; omega
  have hlen2 : j < (l.take H).length := by rw [List.length_take]; omega
  have f : ∀ i, i < 3 → w.cell? ⟨g, j * 3 + i, none⟩ = ((recsL (l.take H) q)[j].cells)[i]? := fun i hi => by
    rw [h.cellAt (j * 3 + i) (by omega), recCells_get _ j i hlen hi]
  rw [recsL_get (l.take H) q j hlen hlen2, List.take_take, List.take_take, Nat.min_eq_left (by omega), Nat.min_eq_left (by omega), List.getElem_take] at f
  exact ⟨(f 2 (by omega)).trans rfl, (f 1 (by omega)).trans rfl, (f 0 (by omega)).trans rfl⟩

set_option maxRecDepth 100000 in
set_option maxHeartbeats 8000000 in
theorem whole_walk (ls : List ByteArray) (b off cap : Nat) (ep sq lost : Int) (w : World) (hn0 : 0 < ls.length) (hn : ls.length ≤ 20) (hc : ∀ i (h : i < ls.length), w.cell? ⟨b, off + i, none⟩ = some (.string ls[i]))
    (hd : ∀ s ∈ ls, s.size ≤ 9223372036854775807) (h1 : 0 ≤ sq) (h2 : sq ≤ 1125899906842624) (h3 : 0 ≤ lost) (h4 : lost ≤ 9223372036854775807) :
    Calls Try.prog 4 #[.slice (some ⟨b, off, none⟩) ls.length cap, .int .i64 ep, .int .i64 sq, .int .i64 lost] w fun e w' => e = .returned (.bool true) ∧ Keep [] w w' := by
  obtain ⟨i0, hi, hz0, hz1, hz2⟩ := info_parts info41
  obtain ⟨i3, hi3, hz30, hz31, hz32⟩ := info_parts info3
  obtain ⟨n, hN⟩ : ∃ n, ls.length = n := ⟨_, rfl⟩
  have hnn : (n : Int) ≤ 20 := by omega
  have hlne : ls ≠ [] := by intro e; rw [e] at hn0; simp at hn0
  rw [hN] at hn hn0 ⊢
  have HN := Lib.hid hN
  have HC := Lib.hid hc
  clear hN hc
  have hst : WholeI w ls ep sq 0 (.slice none 0 0) (.slice none 0 0) w := ⟨by simp [okL], by simpa [sumN, allL, slotCells] using World.ownsRow_nil w w.heap.size 41 5, by simpa [endCells] using World.ownsRow_nil w w.heap.size 3 1, Keep.refl _ _⟩
  have HST := Lib.hid hst
  clear hst
  go_enter Try.func4, Try.ntmps4
  go_wp2
  go_loopw [9, 10, 11, 12] (fun va ve at_ i wr => ∃ k : Nat, k ≤ n ∧ i = .int .i64 k ∧ at_ = .int .i64 (sq + (sumN (ls.take k) : Int)) ∧ WholeI w ls ep sq k va ve wr) (fun _ _ _ i _ => n - (intOf i).toNat)
  case atStart => exact ⟨0, by omega, rfl, by simp [sumN], HST.out⟩
  case round =>
    obtain ⟨k, hk, rfl, rfl, hI⟩ := hrel
    obtain ⟨hok, hra, hre, hkp⟩ := hI
    have hsw : w.heap.size ≤ wr.heap.size := hkp.size
    have hlk : (ls.take k).length ≤ 20 := by rw [List.length_take]; omega
    have hS := sumN_le hok
    have hS2 : (sumN (ls.take k) : Int) ≤ 4000 := by omega
    by_cases hlt : k < n
    · have hlt2 : k < ls.length := by rw [HN.out]; exact hlt
      have hcell := hkp.cell (HC.out k hlt2) (by simp)
      have hdk := hd ls[k] (List.getElem_mem _)
      have e1 := sum_succ hlt2
      have e2 := all_succ hlt2 ep sq
      have HE1 := Lib.hid e1
      have HE2 := Lib.hid e2
      have HOK := Lib.hid (fun h2 => ok_succ hlt2 hok h2)
      clear e1 e2
      generalize hsk : ls[k] = s at *
      clear hsk
      go_wp2_with fail
      refine (cut_shape s _ _ _ hdk).mono ?_
      rintro e w1 ⟨A1, c1, rfl, hk1, hxf⟩
      by_cases dE : cutErr s ep (sq + (sumN (ls.take k) : Int)) = 0
      · obtain ⟨hx, g1, rfl⟩ := hxf dE
        clear hxf
        have hok' := HOK.out dE
        rw [cutN_of dE] at hx ⊢
        have hp := npc_pos s
        have hp2 := npc_le (err_zero dE).1
        rw [dE]
        clear dE
        have hlX : (slotCells (cutL s ep (sq + (sumN (ls.take k) : Int)))).length = npc s * 5 := by rw [slotCells_length, cutL_length]
        have LX := Lib.hid hlX
        clear hlX
        have OX := Lib.hid (slotCells_cell (cutL s ep (sq + (sumN (ls.take k) : Int))))
        have hra1 := hk1.owns hra (by simp)
        have hre1 := hk1.owns hre (by simp)
        have hkp1 := hkp.trans hk1
        have hs1 := hkp1.size
        have hSn := hS
        have tok1 : True := trivial
        have hN1 : sumN (ls.take k) + npc s ≤ 4000 := by omega
        go_wp2_with (first | (at_builtin; have _t := tok1; clear tok1; refine wpList_append_own _ rfl _ _ 22 rfl w.heap.size 41 i0 (.agg #[.int .i64 0, .int .i64 0, .bool false, .bool false, .string .empty]) 5 40 Try.underlying22 hi hz0 hz1 hz2 rfl (by decide) _ _ _ rfl hra1 ⟨g1, 0, none⟩ (npc s) c1 (slotCells (cutL s ep (sq + (sumN (ls.take k) : Int)))) rfl LX.out (hx.cells rfl) OX.out (by unfold maxLen; omega) (by omega) hs1 ?_; intro va2 w2 hra2 hga _; have hre2 := hre1.kept hga (own_types hre1 hra1 (by decide)); have hs2 := hga.size; have hkp2 := hkp1.grown hga (fun j e => .inr (hra1.lt j e).1)) | (at_builtin; refine wpList_append_own _ rfl _ _ 32 rfl w.heap.size 3 i3 (.int .i64 0) 1 8 Try.underlying32 hi3 hz30 hz31 hz32 rfl (by decide) _ _ _ rfl (hre2.alloc _) ⟨w2.heap.size, 0, none⟩ 1 1 [.int .i64 (sq + (sumN (ls.take k) : Int) + (npc s : Int))] rfl rfl (news_alloc w2 [.int .i64 (sq + (sumN (ls.take k) : Int) + (npc s : Int))] 3) (by simp [Value.oneCell']) (by unfold maxLen; omega) (by omega) (by simp; omega) ?_; intro ve3 w3 hre3 hgb _))
        have hra3 : w3.ownsRow w.heap.size 41 5 va2 (sumN (ls.take (k + 1))) (slotCells (allL (ls.take (k + 1)) ep sq)) := by
          rw [HE1.out, HE2.out, slotCells_append]
          exact (hra2.alloc (.cells #[.int .i64 (sq + (sumN (ls.take k) : Int) + (npc s : Int))] 3)).kept hgb (own_types hra2 hre2 (by decide))
        have eq2 : sq + (sumN (ls.take k) : Int) + (npc s : Int) = sq + (sumN (ls.take (k + 1)) : Int) := by rw [HE1.out]; omega
        have hre4 : w3.ownsRow w.heap.size 3 1 ve3 (k + 1) (endCells ls sq (k + 1)) := by
          rw [endCells_succ, ← eq2]
          exact hre3
        have hkp3 := (hkp2.alloc (.cells #[.int .i64 (sq + (sumN (ls.take k) : Int) + (npc s : Int))] 3)).grown hgb (fun j e => .inr (hre2.lt j e).1)
        exact ⟨⟨k + 1, by omega, by go_num, by rw [eq2], hok', hra3, hre4, hkp3⟩, by simp [intOf] <;> omega⟩
      · have hN0 : cutN s ep (sq + (sumN (ls.take k) : Int)) = 0 := by unfold cutN; rw [if_neg dE]
        rw [hN0]
        generalize cutErr s ep (sq + (sumN (ls.take k) : Int)) = E at *
        have d1 : (E != 0) = true := by simpa using dE
        have d2 : (E == 0) = false := by simpa using dE
        have hkf := hkp.trans hk1
        clear hxf dE hN0
        go_wp2_with (go_at_call 27; refine (lives5 _).mono ?_; rintro e w4 ⟨rfl, hk4⟩)
        go_ret
        exact ⟨rfl, hkf.trans hk4⟩
    · obtain rfl : k = n := by omega
      have htk : ls.take k = ls := by rw [← HN.out, List.take_length]
      rw [htk] at hok hra hS hS2
      obtain ⟨T, hT⟩ : ∃ T, sumN ls = T := ⟨_, rfl⟩
      have hT1 : 1 ≤ T := by
        rw [← hT]
        cases ls with
        | nil => exact absurd rfl hlne
        | cons s r => have := npc_pos s; simp [sumN]; omega
      obtain ⟨T1, rfl⟩ : ∃ m, T = m + 1 := ⟨T - 1, by omega⟩
      rw [hT] at hra hS hS2
      obtain ⟨ga, ca, rfl⟩ := ownsRow_succ hra
      obtain ⟨k1, rfl⟩ : ∃ m, k = m + 1 := ⟨k - 1, by omega⟩
      obtain ⟨ge, ce, rfl⟩ := ownsRow_succ hre
      have hcap := own_cap hra
      have e0 : sq + (sumN (ls.take (k1 + 1)) : Int) = sq + ((T1 : Int) + 1) := by rw [htk, hT]; omega
      have E0 := Lib.hid e0
      clear e0 htk
      rw [E0.out]
      obtain ⟨L, rfl⟩ : ∃ L : Nat, lost = (L : Int) := ⟨lost.toNat, by omega⟩
      by_cases hLT : T1 + 1 < L
      · have hLT2 : (T1 : Int) + 1 < (L : Int) := by omega
        go_wp2_with (go_at_call 27; refine (lives5 _).mono ?_; rintro e w4 ⟨rfl, hk4⟩)
        go_ret
        exact ⟨rfl, hkp.trans hk4⟩
      · have hLT2 : (L : Int) ≤ (T1 : Int) + 1 := by omega
        obtain ⟨M, hM⟩ : ∃ M, T1 + 1 = M + L := ⟨T1 + 1 - L, by omega⟩
        have hsub : (T1 : Int) + 1 - (L : Int) = (M : Int) := by omega
        have hMc : (M : Int) ≤ (ca : Int) := by omega
        have hMT : M ≤ sumN ls := by omega
        have hra0 := owns_base hra (Nat.zero_le _)
        have hj := whole_call hok hlne (by rw [HN.out]; exact hn) M ca ga wr hMT (by rw [hT]; exact hra0)
        have HJ := Lib.hid hj
        have hW : wholeN ls M ≤ k1 + 1 := by have := wholeN_le ls M; rw [HN.out] at this; exact this
        have hiff := whole_iff ls M
        have HIFF := Lib.hid hiff
        have HM := Lib.hid hM
        have HT := Lib.hid hT
        clear hj hiff hM hT hLT hra0
        generalize hWn : wholeN ls M = H at *
        have HWn := Lib.hid hWn
        clear hWn
        go_wp2_with fail
        refine HJ.out.mono ?_
        rintro e w1 ⟨A1, c1, rfl, hk1, hgot⟩
        have hre1 := hk1.owns hre (by simp)
        have hkp1 := hkp.trans hk1
        go_wp2
        go_loopw [17, 18, 19] (fun wh wa i wr => ∃ j q : Nat, j ≤ k1 + 1 ∧ i = .int .i64 j ∧ wh = .int .i64 ((min j H : Nat) : Int) ∧ wa = .int .i64 (sq + (sumN (ls.take (min j H)) : Int)) ∧ w1.drewN q = wr) (fun _ _ i _ => k1 + 1 - (intOf i).toNat)
        case atStart => exact ⟨0, 0, by omega, rfl, by simp, by simp [sumN], rfl⟩
        case round =>
          obtain ⟨j, q, hj, rfl, rfl, rfl, rfl⟩ := hrel
          by_cases hjl : j < k1 + 1
          · have hend := (hre1.cellAt j (by omega)).trans (endCells_get ls sq (k1 + 1) j hjl)
            have hi2 := HIFF.out j (by rw [HN.out]; exact hjl)
            by_cases hjH : j < H
            · have e1 : min (j + 1) H = j + 1 := by omega
              have htest : sq + (sumN (ls.take (j + 1)) : Int) ≤ sq + ((T1 : Int) + 1) - (L : Int) := by have := hi2.1 hjH; omega
              have E1 := Lib.hid e1
              have hmj : min j H = j := by omega
              have hjn : (j : Int) ≤ 20 := by omega
              rw [hmj]
              clear e1 hi2 hmj
              have hSj : (sumN (ls.take (j + 1)) : Int) ≤ 4000 := by omega
              generalize hSg : sumN (ls.take (j + 1)) = Sj at *
              have HSg := Lib.hid hSg
              clear hSg
              go_wp2_with fail
              go_quiet (fail)
              go_wp2
              exact ⟨⟨j + 1, q + nq, by omega, by go_num, by rw [E1.out]; go_num, by rw [E1.out, HSg.out], rfl⟩, by simp [intOf] <;> omega⟩
            · have e1 : min (j + 1) H = min j H := by omega
              have htest : sq + ((T1 : Int) + 1) - (L : Int) < sq + (sumN (ls.take (j + 1)) : Int) := by
                have hn := mt hi2.2 hjH
                omega
              have E1 := Lib.hid e1
              have hjn : (j : Int) ≤ 20 := by omega
              have hS0 : (sumN (ls.take (j + 1)) : Int) ≤ 4000 := by
                have h5 : sumN (ls.take (j + 1)) ≤ T1 + 1 := by
                  rw [← HT.out]
                  have h6 := sumN_append (ls.take (j + 1)) (ls.drop (j + 1))
                  rw [List.take_append_drop] at h6
                  omega
                omega
              clear e1 hi2
              generalize sumN (ls.take (j + 1)) = Sj at *
              generalize min j H = mj at *
              go_wp2
              exact ⟨⟨j + 1, q, by omega, by go_num, by rw [E1.out], by rw [E1.out], rfl⟩, by simp [intOf] <;> omega⟩
          · obtain rfl : j = k1 + 1 := by omega
            have e1 : min (k1 + 1) H = H := by omega
            rw [e1]
            clear e1 hjl hj
            have hnx : nextOf ls sq M = if M = 0 then 0 else sq + (sumN (ls.take H) : Int) := by unfold nextOf; rw [HWn.out]
            have hSH : (sumN (ls.take H) : Int) ≤ 4000 ∧ 0 ≤ (sumN (ls.take H) : Int) := by
              have h5 : sumN (ls.take H) ≤ T1 + 1 := by
                rw [← HT.out]
                have h6 := sumN_append (ls.take H) (ls.drop H)
                rw [List.take_append_drop] at h6
                omega
              omega
            obtain ⟨hSH1, hSH2⟩ := hSH
            have hH20 : (H : Int) ≤ 20 := by omega
            rcases Nat.eq_zero_or_pos M with hM0 | hM0
            · rw [if_pos hM0] at hnx
              rw [hnx]
              have hLL : (T1 : Int) + 1 ≤ (L : Int) := by omega
              clear hnx
              cases hb : ((0 : Int) == sq + (sumN (ls.take H) : Int))
              · have hb2 : ((0 : Int) != sq + (sumN (ls.take H) : Int)) = true := by rw [bne, hb]; rfl
                rcases hgot.2 with ⟨h5, h6⟩ | ⟨gg, cg, cur, h5, _⟩
                · obtain rfl : H = 0 := h6
                  clear h5
                  rw [List.take_zero] at hb hb2 ⊢
                  go_wp2
                  go_loopw [20] (fun i wr => ∃ j q2 : Nat, j ≤ 0 ∧ i = .int .i64 j ∧ w1.drewN q2 = wr) (fun i _ => 0 - (intOf i).toNat)
                  case atStart => exact ⟨0, q, by omega, rfl, rfl⟩
                  case round =>
                    obtain ⟨j, q2, hj, rfl, rfl⟩ := hrel
                    by_cases hjl : j < 0
                    · exact absurd hjl (by omega)
                    · obtain rfl : j = 0 := by omega
                      go_wp2_with (go_at_call 27; refine (lives5 _).mono ?_; rintro e w4 ⟨rfl, hk4⟩)
                      go_ret
                      exact ⟨rfl, (hkp1.drewN _).trans hk4⟩
                · obtain rfl : A1 = some ⟨gg, 0, none⟩ := by cases h5; rfl
                  clear h5
                  go_wp2
                  go_loopw [20] (fun i wr => ∃ j q2 : Nat, j ≤ H ∧ i = .int .i64 j ∧ w1.drewN q2 = wr) (fun i _ => H - (intOf i).toNat)
                  case atStart => exact ⟨0, q, by omega, rfl, rfl⟩
                  case round =>
                    obtain ⟨j, q2, hj, rfl, rfl⟩ := hrel
                    by_cases hjl : j < H
                    · have hjn : j < ls.length := by rw [HN.out]; omega
                      have hjn2 : (j : Int) ≤ 20 := by omega
                      obtain ⟨p0, p1, p2⟩ := got_cells hgot (l := ls) (q := sq) hjl hjn
                      have pl := hkp1.cell (HC.out j hjn) (by simp)
                      have pe := (hre1.cellAt j (by omega)).trans (endCells_get ls sq (k1 + 1) j (by omega))
                      generalize ls[j] = sj at *
                      have hss : (sj.toList == sj.toList) = true := by simp
                      rcases Nat.eq_zero_or_pos j with hj0 | hj0
                      · subst hj0
                        have hxx : (sq + (sumN (ls.take (0 + 1)) : Int) != sq + (sumN (ls.take (0 + 1)) : Int)) = false := by simp
                        simp only [Nat.zero_mul, Nat.zero_add, Nat.add_zero] at p0 p1 p2 pl pe hxx
                        generalize sumN (ls.take 1) = SA at *
                        go_wp2_with fail
                        go_quiet (fail)
                        go_wp2
                        exact ⟨⟨1, q2 + nq, by omega, rfl, rfl⟩, by simp [intOf] <;> omega⟩
                      · obtain ⟨i, rfl⟩ : ∃ i, j = i + 1 := ⟨j - 1, by omega⟩
                        have pf := (hre1.cellAt i (by omega)).trans (endCells_get ls sq (k1 + 1) i (by omega))
                        have hxx : (sq + (sumN (ls.take (i + 1 + 1)) : Int) != sq + (sumN (ls.take (i + 1 + 1)) : Int)) = false := by simp
                        have hyy : (sq + (sumN (ls.take (i + 1)) : Int) != sq + (sumN (ls.take (i + 1)) : Int)) = false := by simp
                        generalize sumN (ls.take (i + 1 + 1)) = SA at *
                        generalize sumN (ls.take (i + 1)) = SB at *
                        go_wp2_with fail
                        go_quiet (fail)
                        go_wp2
                        exact ⟨⟨i + 1 + 1, q2 + nq, by omega, by go_num, rfl⟩, by simp [intOf] <;> omega⟩
                    · obtain rfl : j = H := by omega
                      go_wp2_with (go_at_call 27; refine (lives5 _).mono ?_; rintro e w4 ⟨rfl, hk4⟩)
                      go_ret
                      exact ⟨rfl, (hkp1.drewN _).trans hk4⟩
              · have hb2 : ((0 : Int) != sq + (sumN (ls.take H) : Int)) = false := by rw [bne, hb]; rfl
                rcases hgot.2 with ⟨h5, h6⟩ | ⟨gg, cg, cur, h5, _⟩
                · obtain rfl : H = 0 := h6
                  clear h5
                  rw [List.take_zero] at hb hb2 ⊢
                  go_wp2
                  go_loopw [20] (fun i wr => ∃ j q2 : Nat, j ≤ 0 ∧ i = .int .i64 j ∧ w1.drewN q2 = wr) (fun i _ => 0 - (intOf i).toNat)
                  case atStart => exact ⟨0, q, by omega, rfl, rfl⟩
                  case round =>
                    obtain ⟨j, q2, hj, rfl, rfl⟩ := hrel
                    by_cases hjl : j < 0
                    · exact absurd hjl (by omega)
                    · obtain rfl : j = 0 := by omega
                      go_wp2_with (go_at_call 27; refine (lives5 _).mono ?_; rintro e w4 ⟨rfl, hk4⟩)
                      go_ret
                      exact ⟨rfl, (hkp1.drewN _).trans hk4⟩
                · obtain rfl : A1 = some ⟨gg, 0, none⟩ := by cases h5; rfl
                  clear h5
                  go_wp2
                  go_loopw [20] (fun i wr => ∃ j q2 : Nat, j ≤ H ∧ i = .int .i64 j ∧ w1.drewN q2 = wr) (fun i _ => H - (intOf i).toNat)
                  case atStart => exact ⟨0, q, by omega, rfl, rfl⟩
                  case round =>
                    obtain ⟨j, q2, hj, rfl, rfl⟩ := hrel
                    by_cases hjl : j < H
                    · have hjn : j < ls.length := by rw [HN.out]; omega
                      have hjn2 : (j : Int) ≤ 20 := by omega
                      obtain ⟨p0, p1, p2⟩ := got_cells hgot (l := ls) (q := sq) hjl hjn
                      have pl := hkp1.cell (HC.out j hjn) (by simp)
                      have pe := (hre1.cellAt j (by omega)).trans (endCells_get ls sq (k1 + 1) j (by omega))
                      generalize ls[j] = sj at *
                      have hss : (sj.toList == sj.toList) = true := by simp
                      rcases Nat.eq_zero_or_pos j with hj0 | hj0
                      · subst hj0
                        have hxx : (sq + (sumN (ls.take (0 + 1)) : Int) != sq + (sumN (ls.take (0 + 1)) : Int)) = false := by simp
                        simp only [Nat.zero_mul, Nat.zero_add, Nat.add_zero] at p0 p1 p2 pl pe hxx
                        generalize sumN (ls.take 1) = SA at *
                        go_wp2_with fail
                        go_quiet (fail)
                        go_wp2
                        exact ⟨⟨1, q2 + nq, by omega, rfl, rfl⟩, by simp [intOf] <;> omega⟩
                      · obtain ⟨i, rfl⟩ : ∃ i, j = i + 1 := ⟨j - 1, by omega⟩
                        have pf := (hre1.cellAt i (by omega)).trans (endCells_get ls sq (k1 + 1) i (by omega))
                        have hxx : (sq + (sumN (ls.take (i + 1 + 1)) : Int) != sq + (sumN (ls.take (i + 1 + 1)) : Int)) = false := by simp
                        have hyy : (sq + (sumN (ls.take (i + 1)) : Int) != sq + (sumN (ls.take (i + 1)) : Int)) = false := by simp
                        generalize sumN (ls.take (i + 1 + 1)) = SA at *
                        generalize sumN (ls.take (i + 1)) = SB at *
                        go_wp2_with fail
                        go_quiet (fail)
                        go_wp2
                        exact ⟨⟨i + 1 + 1, q2 + nq, by omega, by go_num, rfl⟩, by simp [intOf] <;> omega⟩
                    · obtain rfl : j = H := by omega
                      go_wp2_with (go_at_call 27; refine (lives5 _).mono ?_; rintro e w4 ⟨rfl, hk4⟩)
                      go_ret
                      exact ⟨rfl, (hkp1.drewN _).trans hk4⟩
            · rw [if_neg (by omega)] at hnx
              rw [hnx]
              have hb2 : (sq + (sumN (ls.take H) : Int) != sq + (sumN (ls.take H) : Int)) = false := by simp
              clear hnx
              rcases hgot.2 with ⟨h5, h6⟩ | ⟨gg, cg, cur, h5, _⟩
              · obtain rfl : H = 0 := h6
                clear h5
                go_wp2
                go_loopw [20] (fun i wr => ∃ j q2 : Nat, j ≤ 0 ∧ i = .int .i64 j ∧ w1.drewN q2 = wr) (fun i _ => 0 - (intOf i).toNat)
                case atStart => exact ⟨0, q, by omega, rfl, rfl⟩
                case round =>
                  obtain ⟨j, q2, hj, rfl, rfl⟩ := hrel
                  by_cases hjl : j < 0
                  · exact absurd hjl (by omega)
                  · obtain rfl : j = 0 := by omega
                    go_wp2_with (go_at_call 27; refine (lives5 _).mono ?_; rintro e w4 ⟨rfl, hk4⟩)
                    go_ret
                    exact ⟨rfl, (hkp1.drewN _).trans hk4⟩
              · obtain rfl : A1 = some ⟨gg, 0, none⟩ := by cases h5; rfl
                clear h5
                go_wp2
                go_loopw [20] (fun i wr => ∃ j q2 : Nat, j ≤ H ∧ i = .int .i64 j ∧ w1.drewN q2 = wr) (fun i _ => H - (intOf i).toNat)
                case atStart => exact ⟨0, q, by omega, rfl, rfl⟩
                case round =>
                  obtain ⟨j, q2, hj, rfl, rfl⟩ := hrel
                  by_cases hjl : j < H
                  · have hjn : j < ls.length := by rw [HN.out]; omega
                    have hjn2 : (j : Int) ≤ 20 := by omega
                    obtain ⟨p0, p1, p2⟩ := got_cells hgot (l := ls) (q := sq) hjl hjn
                    have pl := hkp1.cell (HC.out j hjn) (by simp)
                    have pe := (hre1.cellAt j (by omega)).trans (endCells_get ls sq (k1 + 1) j (by omega))
                    generalize ls[j] = sj at *
                    have hss : (sj.toList == sj.toList) = true := by simp
                    rcases Nat.eq_zero_or_pos j with hj0 | hj0
                    · subst hj0
                      have hxx : (sq + (sumN (ls.take (0 + 1)) : Int) != sq + (sumN (ls.take (0 + 1)) : Int)) = false := by simp
                      simp only [Nat.zero_mul, Nat.zero_add, Nat.add_zero] at p0 p1 p2 pl pe hxx
                      generalize sumN (ls.take 1) = SA at *
                      go_wp2_with fail
                      go_quiet (fail)
                      go_wp2
                      exact ⟨⟨1, q2 + nq, by omega, rfl, rfl⟩, by simp [intOf] <;> omega⟩
                    · obtain ⟨i, rfl⟩ : ∃ i, j = i + 1 := ⟨j - 1, by omega⟩
                      have pf := (hre1.cellAt i (by omega)).trans (endCells_get ls sq (k1 + 1) i (by omega))
                      have hxx : (sq + (sumN (ls.take (i + 1 + 1)) : Int) != sq + (sumN (ls.take (i + 1 + 1)) : Int)) = false := by simp
                      have hyy : (sq + (sumN (ls.take (i + 1)) : Int) != sq + (sumN (ls.take (i + 1)) : Int)) = false := by simp
                      generalize sumN (ls.take (i + 1 + 1)) = SA at *
                      generalize sumN (ls.take (i + 1)) = SB at *
                      go_wp2_with fail
                      go_quiet (fail)
                      go_wp2
                      exact ⟨⟨i + 1 + 1, q2 + nq, by omega, by go_num, rfl⟩, by simp [intOf] <;> omega⟩
                  · obtain rfl : j = H := by omega
                    go_wp2_with (go_at_call 27; refine (lives5 _).mono ?_; rintro e w4 ⟨rfl, hk4⟩)
                    go_ret
                    exact ⟨rfl, (hkp1.drewN _).trans hk4⟩

set_option maxRecDepth 100000 in
set_option maxHeartbeats 2000000 in
theorem whole_guard (A : Option Addr) (n cap : Nat) (ep sq lost : Int) (w : World) (hm : n ≤ 9223372036854775807) (h : 20 < n ∨ sq < 0 ∨ 1125899906842624 < sq ∨ lost < 0) :
    Calls Try.prog 4 #[.slice A n cap, .int .i64 ep, .int .i64 sq, .int .i64 lost] w fun e w' => e = .returned (.bool true) ∧ Keep [] w w' := by
  have a1 : 20 < (n : Int) ∨ (n : Int) ≤ 20 := by omega
  have a2 : sq < 0 ∨ 0 ≤ sq := by omega
  have a3 : 1125899906842624 < sq ∨ sq ≤ 1125899906842624 := by omega
  rcases a1 with a1 | a1
  · clear h a2 a3
    go_enter Try.func4, Try.ntmps4
    go_wp2_with (go_at_call 27; refine (lives5 _).mono ?_; rintro e w1 ⟨rfl, hk⟩)
    go_ret
    exact ⟨rfl, hk⟩
  rcases a2 with a2 | a2
  · clear h a3
    go_enter Try.func4, Try.ntmps4
    go_wp2_with (go_at_call 27; refine (lives5 _).mono ?_; rintro e w1 ⟨rfl, hk⟩)
    go_ret
    exact ⟨rfl, hk⟩
  rcases a3 with a3 | a3
  · clear h
    go_enter Try.func4, Try.ntmps4
    go_wp2_with (go_at_call 27; refine (lives5 _).mono ?_; rintro e w1 ⟨rfl, hk⟩)
    go_ret
    exact ⟨rfl, hk⟩
  have a4 : lost < 0 := by omega
  clear h
  go_enter Try.func4, Try.ntmps4
  go_wp2_with (go_at_call 27; refine (lives5 _).mono ?_; rintro e w1 ⟨rfl, hk⟩)
  go_ret
  exact ⟨rfl, hk⟩

theorem join_nil_val (W : World) : Calls Try.prog 28 #[.slice none 0 0] W fun e w' => e = .returned (.tuple #[.slice none 0 0, .int .i64 0]) ∧ W = w' := by
  go_enter Try.func28, Try.ntmps28
  go_wp2
  go_ret2
  exact ⟨rfl, rfl⟩

set_option maxRecDepth 100000 in
set_option maxHeartbeats 4000000 in
theorem whole_zero (A : Option Addr) (cap : Nat) (ep sq lost : Int) (w : World) (h1 : 0 ≤ sq) (h2 : sq ≤ 1125899906842624) (h3 : 0 ≤ lost) (h4 : lost ≤ 9223372036854775807) :
    Calls Try.prog 4 #[.slice A 0 cap, .int .i64 ep, .int .i64 sq, .int .i64 lost] w fun e w' => e = .returned (.bool true) ∧ Keep [] w w' := by
  have hj := join_nil_val
  have HJ := Lib.hid hj
  clear hj
  go_enter Try.func4, Try.ntmps4
  go_wp2
  go_loop [9, 10, 11, 12] (fun va ve at_ i => va = .slice none 0 0 ∧ ve = .slice none 0 0 ∧ at_ = .int .i64 sq ∧ i = .int .i64 0) (fun _ _ _ _ => 0)
  case atStart => exact ⟨rfl, rfl, rfl, rfl⟩
  case round =>
    obtain ⟨rfl, rfl, rfl, rfl⟩ := hrel
    rcases (show 0 < lost ∨ lost ≤ 0 by omega) with hl | hl
    · go_wp2_with (go_at_call 27; refine (lives5 _).mono ?_; rintro e w4 ⟨rfl, hk4⟩)
      go_ret
      exact ⟨rfl, hk4⟩
    · obtain rfl : lost = 0 := by omega
      clear hl h3 h4
      cases hb : ((0 : Int) == sq)
      all_goals
        have hb2 : ((0 : Int) != sq) = !((0 : Int) == sq) := rfl
        rw [hb] at hb2
        go_wp2_with (go_at_call 28; refine (HJ.out _).mono ?_; rintro e w1 ⟨rfl, rfl⟩)
        go_loop [17, 18, 19] (fun wh wa i => wh = .int .i64 0 ∧ wa = .int .i64 sq ∧ i = .int .i64 0) (fun _ _ _ => 0)
        case atStart => exact ⟨rfl, rfl, rfl⟩
        case round =>
          obtain ⟨rfl, rfl, rfl⟩ := hrel
          go_wp2
          go_loop [20] (fun i => i = .int .i64 0) (fun _ => 0)
          case atStart => rfl
          case round =>
            subst hrel
            go_wp2_with (go_at_call 27; refine (lives5 _).mono ?_; rintro e w4 ⟨rfl, hk4⟩)
            go_ret
            exact ⟨rfl, hk4⟩

/-- What is told of an argument that is a slice of strings. -/
def StrsAt (w : World) (A : Option Addr) (ls : List ByteArray) : Prop :=
  (∀ s ∈ ls, s.size ≤ 9223372036854775807) ∧ (ls = [] ∨ ∃ b off, A = some ⟨b, off, none⟩ ∧ ∀ i (h : i < ls.length), w.cell? ⟨b, off + i, none⟩ = some (.string ls[i]))

theorem whole_any (A : Option Addr) (cap : Nat) (ls : List ByteArray) (ep sq lost : Int) (w : World) (h : StrsAt w A ls) (hm : ls.length ≤ 9223372036854775807) (h4 : lost ≤ 9223372036854775807) :
    Calls Try.prog 4 #[.slice A ls.length cap, .int .i64 ep, .int .i64 sq, .int .i64 lost] w fun e w' => e = .returned (.bool true) ∧ Keep [] w w' := by
  by_cases hg : 20 < ls.length ∨ sq < 0 ∨ 1125899906842624 < sq ∨ lost < 0
  · exact whole_guard A ls.length cap ep sq lost w hm hg
  · rcases h with ⟨hd, rfl | ⟨b, off, rfl, hc⟩⟩
    · exact whole_zero A cap ep sq lost w (by omega) (by omega) (by omega) h4
    · rcases Nat.eq_zero_or_pos ls.length with h0 | h0
      · rw [h0]
        exact whole_zero _ cap ep sq lost w (by omega) (by omega) (by omega) h4
      · exact whole_walk ls b off cap ep sq lost w h0 (by omega) hc hd (by omega) (by omega) (by omega) h4
end Go.Proofs.Ytkhggpopohkjfaa
