/- (*block.Disk).Write, whole. Premises: the disk is right, the bytes lie elsewhere, not too many writes are pending. -/
import Derived.Test.YtkhggpopohkjfaaWrite
namespace Go.Proofs.Ytkhggpopohkjfaa
open Go.RowKit Go.Proofs Go.Lib
set_option linter.unusedSectionVars false
set_option linter.unusedVariables false
set_option linter.unusedSimpArgs false

set_option maxRecDepth 100000 in
set_option maxHeartbeats 2000000 in
theorem write_ok {w : World} {g : Nat} {S : List Nat} {V : DiskV} {i : Int} {A : Option Addr} {n cap : Nat} {s : ByteArray} (h : Disk w g S V) (hb : BytesIn w A n cap s) (hA : ∀ a, A = some a → a.block ∉ S) (hfew : V.pend.length ≤ 1000000) :
    Calls Try.prog 35 #[.pointer (some ⟨g, 0, none⟩), .int .i64 i, .slice A n cap] w (DPost w g S (.int .i64 (V.writeE i s)) (V.writeV i s)) := by
  have hm := within_ok i h
  have hok := h.ok
  have HD := Lib.hid h
  obtain ⟨K, c, pv, h, rfl⟩ := h
  have hbn := burn_ok h
  unfold BurnPost at hbn
  have hns := hb.size
  have hcm := hb.hmax
  have hcc := hb.hcap
  unfold maxLen at hcm
  have hB1 : ∀ w1, Keep [g] w w1 → BytesIn w1 A n cap s := fun w1 hk => hb.keep hk (fun a ha => by have := hA a ha; rw [mem_foot] at this; simp; intro e; exact this (.inl e))
  have HB1 := Lib.hid hB1
  clear hB1 hb hA h
  by_cases hw : V.withinE i = 0
  · obtain ⟨hdead, hi0, hi1⟩ := withinE_zero hw
    rw [hw] at hm
    by_cases hbig : 128 < n
    · have hE : V.writeE i s = 5 := by simp [DiskV.writeE, hw]; omega
      have hV : V.writeV i s = V := by simp [DiskV.writeV, hw]; omega
      have FIN : Hid (DPost w g (foot g K pv) (.int .i64 (V.writeE i s)) (V.writeV i s) (.returned (.int .i64 5)) w) := Lib.hid (by
        exact ⟨by rw [hE], _, by rw [hV]; exact HD.out, Keep.refl _ _, fun k hk => .inl hk⟩)
      have HM := Lib.hid hm
      have hbig2 : (128 : Int) < (n : Int) := by omega
      clear hm hw hE hV hbn hdead hi0 hi1 hok hns
      go_enter Try.func35, Try.ntmps35
      go_wp2_with fail
      refine HM.out.mono ?_
      rintro e w1 ⟨rfl, rfl⟩
      go_wp2
      go_ret
      exact FIN.out
    · have hns2 : s.size ≤ 128 := by omega
      by_cases h0 : V.fuse = 0
      · have hbE : V.burnE = 20 := by simp [DiskV.burnE, h0]
        have hE : V.writeE i s = 20 := by simp [DiskV.writeE, hw, hbE]; omega
        have hV : V.writeV i s = V.burnV := by simp [DiskV.writeV, hw, hbE]; omega
        have FIN : Hid (∀ w', DiskAt w' g K c pv V.burnV → Keep [g] w w' → DPost w g (foot g K pv) (.int .i64 (V.writeE i s)) (V.writeV i s) (.returned (.int .i64 20)) w') := Lib.hid (by
          intro w' hD hk
          exact ⟨by rw [hE], _, by rw [hV]; exact ⟨K, c, pv, hD, rfl⟩, hk.mono (fun k hk => .inl (mem_foot.2 (.inl (by simpa using hk)))), fun k hk => .inl hk⟩)
        rw [hbE] at hbn
        have HBN := Lib.hid hbn
        have HM := Lib.hid hm
        have hbig2 : ¬ ((128 : Int) < (n : Int)) := by omega
        clear hm hw hE hV hbn hdead hi0 hi1 hok hns h0 hbE
        go_enter Try.func35, Try.ntmps35
        go_wp2_with fail
        refine HM.out.mono ?_
        rintro e w1 ⟨rfl, rfl⟩
        go_wp2_with fail
        refine HBN.out.mono ?_
        rintro e w2 ⟨rfl, hD, hk⟩
        have F := Lib.hid (FIN.out w2 hD hk)
        clear hD hk
        go_wp2
        go_ret
        exact F.out
      · have hbE : V.burnE = 0 := by simp [DiskV.burnE, h0]
        have hE : V.writeE i s = 0 := by simp [DiskV.writeE, hw, hbE]; omega
        have hV : V.writeV i s = V.burnV.add i.toNat s := by simp [DiskV.writeV, hw, hbE]; omega
        obtain ⟨j, rfl⟩ := Int.eq_ofNat_of_zero_le hi0
        have FIN : Hid (∀ w2 w' pv', DiskAt w' g K c pv' (V.burnV.add j s) → (∀ k, pv'.ownBlock = some k → pv.ownBlock = some k ∨ w2.heap.size ≤ k) → Keep (foot g K pv) w2 w' → Keep [g] w w2 → DPost w g (foot g K pv) (.int .i64 (V.writeE j s)) (V.writeV j s) (.returned (.int .i64 0)) w') := Lib.hid (by
          intro w2 w' pv' hD hblk hk2 hk
          have hsz := hk.size
          refine ⟨by rw [hE], _, by rw [hV]; exact ⟨K, c, pv', hD, rfl⟩, (hk.mono (fun k hk => .inl (mem_foot.2 (.inl (by simpa using hk))))).trans hk2, ?_⟩
          intro k hk3
          rcases mem_foot.1 hk3 with rfl | rfl | h3
          · exact .inl (mem_foot.2 (.inl rfl))
          · exact .inl (mem_foot.2 (.inr (.inl rfl)))
          · rcases hblk k h3 with h4 | h4
            · exact .inl (mem_foot.2 (.inr (.inr h4)))
            · right; omega)
        rw [hbE] at hbn
        have HBN := Lib.hid hbn
        have HM := Lib.hid hm
        have hbig2 : ¬ ((128 : Int) < (n : Int)) := by omega
        have hjl : j < V.burnV.kept.length := by rw [burn_kept]; simpa using hi1
        have hfew2 : V.burnV.pend.length ≤ 1000000 := by rw [burn_pend]; exact hfew
        have HJ := Lib.hid (And.intro hjl hfew2)
        clear hm hw hE hV hbn hdead hi0 hi1 hok hns h0 hbE hjl hfew2 hfew
        go_enter Try.func35, Try.ntmps35
        go_wp2_with fail
        refine HM.out.mono ?_
        rintro e w1 ⟨rfl, rfl⟩
        go_wp2_with fail
        refine HBN.out.mono ?_
        rintro e w2 ⟨rfl, hD, hk⟩
        have hb2 := HB1.out w2 hk
        have H2 := Lib.hid (And.intro hD (And.intro hk hb2))
        clear hD hk hb2
        go_upto_region 8 with (fail)
        refine Code.wp_mono ?_ (write_tail w w2 g K c pv V.burnV j A n cap s _ ?_ ?_ ?_ ?_ H2.out.1 HJ.out.1 H2.out.2.2 hns2 HJ.out.2 H2.out.2.1 (bodyPost Try.prog Try.f35 (DPost w g (foot g K pv) (.int .i64 (V.writeE j s)) (V.writeV j s))) ?_)
        · intro e a wz h
          cases e with
          | normal => exact (by assumption : ∀ a w, Code.wp Try.prog (tailOf 6 (Try.f35.body.getD .skip)) _ a w → _) a wz h
          | _ => exact h
        · rfl
        · rfl
        · rfl
        · rfl
        · rintro tm' w' h6 ⟨pv', hD, hblk⟩ hk
          exact bodyPost_ret (v := .int .i64 0) ((results_tmp rfl _ _ _).trans (by rw [h6])) rfl (FIN.out w2 w' pv' hD hblk hk H2.out.2.1)
  · have hE : V.writeE i s = V.withinE i := by simp [DiskV.writeE, hw]
    have hV : V.writeV i s = V := by simp [DiskV.writeV, hw]
    have FIN : Hid (DPost w g (foot g K pv) (.int .i64 (V.writeE i s)) (V.writeV i s) (.returned (.int .i64 (V.withinE i))) w) := Lib.hid (by
      exact ⟨by rw [hE], _, by rw [hV]; exact HD.out, Keep.refl _ _, fun k hk => .inl hk⟩)
    generalize V.withinE i = x at *
    have HM := Lib.hid hm
    clear hm hE hV hbn hok hns
    go_enter Try.func35, Try.ntmps35
    go_wp2_with fail
    refine HM.out.mono ?_
    rintro e w1 ⟨rfl, rfl⟩
    go_wp2
    go_ret
    exact FIN.out
end Go.Proofs.Ytkhggpopohkjfaa
