/- A disk's calls that write its head alone: the fuse burns, is armed. Premise: the disk is right. -/
import Derived.Test.YtkhggpopohkjfaaDisk
namespace Go.Proofs.Ytkhggpopohkjfaa
open Go.RowKit Go.Proofs Go.Lib
set_option linter.unusedSectionVars false
set_option linter.unusedVariables false
set_option linter.unusedSimpArgs false

theorem DiskAt.rest {w w' : World} {g K c : Nat} {pv : Value} {V : DiskV} (h : DiskAt w g K c pv V) (hk : Keep [g] w w') :
    w'.ownsRow 0 145 128 (.slice (some ⟨K, 0, none⟩) V.kept.length c) V.kept.length (keptCells V.kept) ∧ w'.ownsRow 0 147 129 pv V.pend.length (pendCells V.pend) :=
  ⟨hk.owns h.kept (fun k e => by cases e; simpa using (Ne.symm h.ne)), hk.owns h.pend (fun k e => by simp; rintro rfl; exact h.ng e)⟩

theorem DiskAt.put2 {w : World} {g K c : Nat} {pv : Value} {V : DiskV} (h : DiskAt w g K c pv V) (x : Int) (hx : -1 ≤ x) (hx2 : x ≤ 9223372036854775807) :
    DiskAt (w.setCell ⟨g, 2, none⟩ (.int .i64 x)) g K c pv { V with fuse := x } := by
  have hk : Keep [g] w (w.setCell ⟨g, 2, none⟩ (.int .i64 x)) := (Keep.refl _ _).setCell (.inl (by simp)) _
  obtain ⟨h1, h2⟩ := h.rest hk
  exact ⟨heap_setCell_same _ g 2 _ 90 _ h.hd, h1, h2, h.ne, h.ng, h.nK, ⟨h.ok.some, h.ok.few, h.ok.full, h.ok.pend, hx, hx2⟩⟩
theorem DiskAt.put3 {w : World} {g K c : Nat} {pv : Value} {V : DiskV} (h : DiskAt w g K c pv V) (x : Bool) :
    DiskAt (w.setCell ⟨g, 3, none⟩ (.bool x)) g K c pv { V with dead := x } := by
  have hk : Keep [g] w (w.setCell ⟨g, 3, none⟩ (.bool x)) := (Keep.refl _ _).setCell (.inl (by simp)) _
  obtain ⟨h1, h2⟩ := h.rest hk
  exact ⟨heap_setCell_same _ g 3 _ 90 _ h.hd, h1, h2, h.ne, h.ng, h.nK, ⟨h.ok.some, h.ok.few, h.ok.full, h.ok.pend, h.ok.fuse, h.ok.fuse2⟩⟩
theorem DiskAt.free {w : World} {g K c : Nat} {pv : Value} {V : DiskV} (h : DiskAt w g K c pv V) (j : Nat) : w.frozen? ⟨g, j, none⟩ = false := frozen_of_row w g j _ _ h.hd
theorem keep_set (w : World) (g j : Nat) (v : Value) : Keep [g] w (w.setCell ⟨g, j, none⟩ v) := (Keep.refl _ _).setCell (.inl (by simp)) _

/-- What burn leaves. -/
def BurnPost (w : World) (g K c : Nat) (pv : Value) (V : DiskV) (e : Ending) (w' : World) : Prop := e = .returned (.int .i64 V.burnE) ∧ DiskAt w' g K c pv V.burnV ∧ Keep [g] w w'

theorem burn_ok {w : World} {g K c : Nat} {pv : Value} {V : DiskV} (h : DiskAt w g K c pv V) : Calls Try.prog 91 #[.pointer (some ⟨g, 0, none⟩)] w (BurnPost w g K c pv V) := by
  obtain ⟨_, _, c2, _⟩ := h.cells
  have f2 := h.free 2
  have f3 := h.free 3
  have hf := h.ok.fuse
  have hf2 := h.ok.fuse2
  have HH := Lib.hid h
  clear h
  by_cases h0 : V.fuse = 0
  · have hE : V.burnE = 20 := by simp [DiskV.burnE, h0]
    have hV : V.burnV = { V with dead := true } := by simp [DiskV.burnV, h0]
    have FIN : Hid (∀ e w', e = .returned (.int .i64 20) → w' = w.setCell ⟨g, 3, none⟩ (.bool true) → BurnPost w g K c pv V e w') := Lib.hid (by
      rintro e w' rfl rfl
      exact ⟨by rw [hE], hV ▸ HH.out.put3 true, keep_set _ _ _ _⟩)
    rw [h0] at c2
    clear hE hV h0 hf hf2
    go_enter Try.func91, Try.ntmps91
    go_wp2
    go_ret
    exact FIN.out _ _ rfl rfl
  · by_cases h1 : 0 < V.fuse
    · have hE : V.burnE = 0 := by simp [DiskV.burnE, h0]
      have hV : V.burnV = { V with fuse := V.fuse - 1 } := by simp [DiskV.burnV, h0, h1]
      have FIN : Hid (∀ e w', e = .returned (.int .i64 0) → w' = w.setCell ⟨g, 2, none⟩ (.int .i64 (V.fuse - 1)) → BurnPost w g K c pv V e w') := Lib.hid (by
        rintro e w' rfl rfl
        exact ⟨by rw [hE], hV ▸ HH.out.put2 (V.fuse - 1) (by omega) (by omega), keep_set _ _ _ _⟩)
      clear hE hV
      generalize V.fuse = f at *
      go_enter Try.func91, Try.ntmps91
      go_wp2
      go_ret
      exact FIN.out _ _ rfl rfl
    · have hE : V.burnE = 0 := by simp [DiskV.burnE, h0]
      have hV : V.burnV = V := by simp [DiskV.burnV, h0, h1]
      have FIN : Hid (∀ e w', e = .returned (.int .i64 0) → w' = w → BurnPost w g K c pv V e w') := Lib.hid (by
        rintro e w' rfl rfl
        exact ⟨by rw [hE], by rw [hV]; exact HH.out, Keep.refl _ _⟩)
      clear hE hV
      generalize V.fuse = f at *
      go_enter Try.func91, Try.ntmps91
      go_wp2
      go_ret
      exact FIN.out _ _ rfl rfl

/-- What a call leaves of a disk. -/
def DPost (w : World) (g : Nat) (S : List Nat) (v : Value) (V' : DiskV) (e : Ending) (w' : World) : Prop := e = .returned v ∧ ∃ S', Disk w' g S' V' ∧ Keep S w w' ∧ ∀ k ∈ S', k ∈ S ∨ w.heap.size ≤ k

theorem arm_ok {w : World} {g : Nat} {S : List Nat} {V : DiskV} (n : Int) (hn : n ≤ 9223372036854775807) (h : Disk w g S V) : Calls Try.prog 38 #[.pointer (some ⟨g, 0, none⟩), .int .i64 n] w (DPost w g S (.int .i64 V.armE) (V.armV n)) := by
  have hm := may_ok h
  have HD := Lib.hid h
  obtain ⟨K, c, pv, h, rfl⟩ := h
  have f2 := h.free 2
  obtain ⟨_, _, c2, _⟩ := h.cells
  have HH := Lib.hid h
  clear h
  cases hd : V.dead with
  | true =>
    have hE : V.mayE = 20 := by simp [DiskV.mayE, hd]
    rw [hE] at hm
    have FIN : Hid (∀ e w', e = .returned (.int .i64 20) → w' = w → DPost w g (foot g K pv) (.int .i64 V.armE) (V.armV n) e w') := Lib.hid (by
      rintro e w' rfl rfl
      exact ⟨by rw [DiskV.armE, hE], _, by rw [show V.armV n = V by simp [DiskV.armV, hd]]; exact HD.out, Keep.refl _ _, fun k hk => .inl hk⟩)
    have HM := Lib.hid hm
    clear hm hE hd
    go_enter Try.func38, Try.ntmps38
    go_wp2_with fail
    refine HM.out.mono ?_
    rintro e w1 ⟨rfl, rfl⟩
    go_wp2
    go_ret
    exact FIN.out _ _ rfl rfl
  | false =>
    have hE : V.mayE = 0 := by simp [DiskV.mayE, hd]
    rw [hE] at hm
    obtain ⟨m, hmx⟩ : ∃ m : Int, m = max (-1) n := ⟨_, rfl⟩
    have FIN : Hid (∀ e w', e = .returned (.int .i64 0) → w' = w.setCell ⟨g, 2, none⟩ (.int .i64 m) → DPost w g (foot g K pv) (.int .i64 V.armE) (V.armV n) e w') := Lib.hid (by
      rintro e w' rfl rfl
      refine ⟨by rw [DiskV.armE, hE], _, ⟨K, c, pv, ?_, rfl⟩, (keep_set _ _ _ _).mono (fun k hk => .inl (mem_foot.2 (.inl (by simpa using hk)))), fun k hk => .inl hk⟩
      rw [show V.armV n = { V with fuse := m } by simp [DiskV.armV, hd, hmx]]
      exact HH.out.put2 m (by omega) (by omega))
    have HM := Lib.hid hm
    clear hm hE hd
    have hmax1 : n ≤ -1 → m = -1 := fun h => by omega
    have hmax2 : -1 ≤ n → m = n := fun h => by omega
    have HX := Lib.hid (And.intro hmax1 hmax2)
    clear hmx hmax1 hmax2
    by_cases hx : n ≤ -1
    · obtain rfl := HX.out.1 hx
      go_enter Try.func38, Try.ntmps38
      go_wp2_with fail
      refine HM.out.mono ?_
      rintro e w1 ⟨rfl, rfl⟩
      go_wp2
      go_ret
      exact FIN.out _ _ rfl (by first | rfl | (congr 2; omega))
    · obtain rfl := HX.out.2 (by omega)
      go_enter Try.func38, Try.ntmps38
      go_wp2_with fail
      refine HM.out.mono ?_
      rintro e w1 ⟨rfl, rfl⟩
      go_wp2
      go_ret
      exact FIN.out _ _ rfl (by first | rfl | (congr 2; omega))
end Go.Proofs.Ytkhggpopohkjfaa
