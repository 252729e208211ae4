/- (*block.Disk).Flush, Crash. Premise: the disk is right; what is to be kept lies elsewhere. -/
import Derived.Test.YtkhggpopohkjfaaKeep
namespace Go.Proofs.Ytkhggpopohkjfaa
open Go.RowKit Go.Proofs Go.Lib
set_option linter.unusedSectionVars false
set_option linter.unusedVariables false
set_option linter.unusedSimpArgs false

theorem foot_nil (g K : Nat) : foot g K (.slice none 0 0) = [g, K] := rfl

theorem flush_ok {w : World} {g : Nat} {S : List Nat} {V : DiskV} (h : Disk w g S V) : Calls Try.prog 36 #[.pointer (some ⟨g, 0, none⟩)] w (DPost w g S (.int .i64 V.flushE) V.flushV) := by
  have hm := may_ok h
  have HD := Lib.hid h
  obtain ⟨K, c, pv, h, rfl⟩ := h
  have hb := burn_ok h
  have HB := Lib.hid hb
  clear hb h
  cases hd : V.dead with
  | true =>
    have hE : V.mayE = 20 := by simp [DiskV.mayE, hd]
    rw [hE] at hm
    have FIN : Hid (∀ e w', e = .returned (.int .i64 20) → w' = w → DPost w g (foot g K pv) (.int .i64 V.flushE) V.flushV e w') := Lib.hid (by
      rintro e w' rfl rfl
      exact ⟨by simp [DiskV.flushE, hd], _, by rw [show V.flushV = V by simp [DiskV.flushV, hd]]; exact HD.out, Keep.refl _ _, fun k hk => .inl hk⟩)
    have HM := Lib.hid hm
    clear hm hE hd
    go_enter Try.func36, Try.ntmps36
    go_wp2_with fail
    refine HM.out.mono ?_
    rintro e w1 ⟨rfl, rfl⟩
    go_wp2
    go_ret
    exact FIN.out _ _ rfl rfl
  | false =>
    have hE : V.mayE = 0 := by simp [DiskV.mayE, hd]
    rw [hE] at hm
    have HM := Lib.hid hm
    by_cases h0 : V.fuse = 0
    · have hbE : V.burnE = 20 := by simp [DiskV.burnE, h0]
      have hF : V.flushE = 20 := by simp [DiskV.flushE, hd, hbE]
      have hV : V.flushV = V.burnV := by simp [DiskV.flushV, hd, hbE]
      have FIN : Hid (∀ w', DiskAt w' g K c pv V.burnV → Keep [g] w w' → DPost w g (foot g K pv) (.int .i64 V.flushE) V.flushV (.returned (.int .i64 20)) w') := Lib.hid (by
        intro w' hD hk
        exact ⟨by rw [hF], _, by rw [hV]; exact ⟨K, c, pv, hD, rfl⟩, hk.mono (fun k hk => .inl (mem_foot.2 (.inl (by simpa using hk)))), fun k hk => .inl hk⟩)
      have hb := HB.out
      unfold BurnPost at hb
      rw [hbE] at hb
      have HB2 := Lib.hid hb
      clear hm hE hd h0 hbE hF hV hb
      go_enter Try.func36, Try.ntmps36
      go_wp2_with fail
      refine HM.out.mono ?_
      rintro e w1 ⟨rfl, rfl⟩
      go_wp2_with fail
      refine HB2.out.mono ?_
      rintro e w2 ⟨rfl, hD, hk⟩
      have F := Lib.hid (FIN.out w2 hD hk)
      clear hD hk
      go_wp2
      go_ret
      exact F.out
    · have hbE : V.burnE = 0 := by simp [DiskV.burnE, h0]
      have hF : V.flushE = 0 := by simp [DiskV.flushE, hd, hbE]
      have hV : V.flushV = V.burnV.keepV (fun _ => true) := by simp [DiskV.flushV, hd, hbE]
      have FIN : Hid (∀ w2 w', DiskAt w2 g K c pv V.burnV → Keep [g] w w2 → DiskAt w' g K c (.slice none 0 0) (V.burnV.keepV (fun _ => true)) → Keep [g, K] w2 w' → DPost w g (foot g K pv) (.int .i64 V.flushE) V.flushV (.returned (.int .i64 0)) w') := Lib.hid (by
        intro w2 w' hD hk hD2 hk2
        refine ⟨by rw [hF], _, by rw [hV]; exact ⟨K, c, _, hD2, rfl⟩, ?_, ?_⟩
        · exact (hk.mono (S' := foot g K pv) (fun k hk => .inl (mem_foot.2 (.inl (by simpa using hk))))).trans (hk2.mono (fun k hk => .inl (mem_foot.2 (by simp at hk; rcases hk with rfl | rfl <;> simp))))
        · intro k hk
          rcases mem_foot.1 hk with rfl | rfl | h3
          · exact .inl (mem_foot.2 (.inl rfl))
          · exact .inl (mem_foot.2 (.inr (.inl rfl)))
          · cases h3)
      have hb := HB.out
      unfold BurnPost at hb
      rw [hbE] at hb
      have HB2 := Lib.hid hb
      clear hm hE hd h0 hbE hF hV hb
      go_enter Try.func36, Try.ntmps36
      go_wp2_with fail
      refine HM.out.mono ?_
      rintro e w1 ⟨rfl, rfl⟩
      go_wp2_with fail
      refine HB2.out.mono ?_
      rintro e w2 ⟨rfl, hD, hk⟩
      have hkp := keep_all w2 g K c pv V.burnV (fun _ => true) hD (fun k W _ => pick_all k W)
      have HKP := Lib.hid hkp
      have HDk := Lib.hid (And.intro hD hk)
      clear hkp hD hk
      go_wp2_with fail
      refine HKP.out.mono ?_
      rintro e w3 ⟨rfl, hD3, hk3⟩
      have F := Lib.hid (FIN.out w2 w3 HDk.out.1 HDk.out.2 hD3 hk3)
      clear hD3 hk3
      go_wp2
      go_ret
      exact F.out

theorem crash_ok {w : World} {g : Nat} {S : List Nat} {V : DiskV} {A : Option Addr} {n cap : Nat} {zs : List Int} (h : Disk w g S V) (hz : IntsIn w A n cap zs) (hA : ∀ a, A = some a → 0 < n → a.block ∉ S) :
    Calls Try.prog 34 #[.pointer (some ⟨g, 0, none⟩), .slice A n cap] w (DPost w g S (.int .i64 0) (V.crashV zs)) := by
  have hk0 : Keep [] w (w.alloc (.cells #[.slice A n cap] 32)) := (Keep.refl _ _).alloc _
  have h1 := h.keep0 hk0
  have hm := made_ok h1
  have HM := Lib.hid hm
  have hlt := h1.lt
  obtain ⟨K, c, pv, h, rfl⟩ := h
  have hat := h.keep (T := []) hk0 (fun _ _ => by simp)
  have hKlt : K < w.heap.size := h.lt K (mem_foot.2 (.inr (.inl rfl)))
  have hglt : g < w.heap.size := h.lt g (mem_foot.2 (.inl rfl))
  have hbx : (w.alloc (.cells #[.slice A n cap] 32)).heap[w.heap.size]? = some (.cells #[.slice A n cap] 32) := heap_alloc_new w _
  have hz1 : IntsIn (w.alloc (.cells #[.slice A n cap] 32)) A n cap zs := hz.keep hk0 (fun _ _ _ => by simp)
  have hkp := keep_some (w.alloc (.cells #[.slice A n cap] 32)) g K c pv V (pickOf zs) w.heap.size hat (fun k W hW => pick_some k w.heap.size A n cap zs W (hz1.keep hW (fun a ha hn => by have := hA a ha hn; rw [mem_foot] at this; simp; intro e; exact this (.inr (.inl e)))) (hW.cell (cell_of_one hbx) (by simp; omega)))
  have HKP := Lib.hid hkp
  have FIN : Hid (∀ w3, DiskAt w3 g K c (.slice none 0 0) (V.keepV (pickOf zs)) → Keep [g, K] (w.alloc (.cells #[.slice A n cap] 32)) w3 → DPost w g (foot g K pv) (.int .i64 0) (V.crashV zs) (.returned (.int .i64 0)) ((w3.setCell ⟨g, 2, none⟩ (.int .i64 (-1))).setCell ⟨g, 3, none⟩ (.bool false))) := Lib.hid (by
    intro w3 hD hk
    refine ⟨rfl, _, ⟨K, c, _, (hD.put2 (-1) (by decide) (by decide)).put3 false, rfl⟩, ?_, ?_⟩
    · have hk1 : Keep [g, K] w w3 := (hk0.mono (by simp)).trans hk
      have hk2 := (hk1.setCell (a := ⟨g, 2, none⟩) (.inl (by simp)) (.int .i64 (-1))).setCell (a := ⟨g, 3, none⟩) (.inl (by simp)) (.bool false)
      exact hk2.mono (fun k hk => .inl (mem_foot.2 (by simp at hk; rcases hk with rfl | rfl <;> simp)))
    · intro k hk
      rcases mem_foot.1 hk with rfl | rfl | h3
      · exact .inl (mem_foot.2 (.inl rfl))
      · exact .inl (mem_foot.2 (.inr (.inl rfl)))
      · cases h3)
  clear hm hz hz1 hkp hat h1 h hlt hbx hA
  go_enter Try.func34, Try.ntmps34
  go_wp2_with fail
  refine HM.out.mono ?_
  rintro e w1 ⟨rfl, rfl⟩
  go_wp2_with fail
  refine HKP.out.mono ?_
  rintro e w3 ⟨rfl, hD3, hk3⟩
  have F := Lib.hid (FIN.out w3 hD3 hk3)
  obtain ⟨_, _, c2, c3⟩ := hD3.cells
  have f2 := hD3.free 2
  have f3 := hD3.free 3
  clear hD3 hk3
  go_wp2
  go_ret
  exact F.out
end Go.Proofs.Ytkhggpopohkjfaa
