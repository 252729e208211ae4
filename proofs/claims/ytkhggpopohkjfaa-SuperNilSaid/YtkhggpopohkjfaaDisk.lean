/- A disk in memory; the calls that only look, the fuse. Premise: the disk is right. -/
import Derived.Test.YtkhggpopohkjfaaArr
import Derived.Test.YtkhggpopohkjfaaFam
import Derived.WalkLawsBesides
namespace Go.Proofs.Ytkhggpopohkjfaa
open Go.RowKit Go.Proofs Go.Lib
set_option linter.unusedSectionVars false
set_option linter.unusedVariables false
set_option linter.unusedSimpArgs false

def hdCells (K n c : Nat) (pv : Value) (fuse : Int) (dead : Bool) : Array Value := #[.slice (some ⟨K, 0, none⟩) n c, pv, .int .i64 fuse, .bool dead]

/-- A disk at g: what is kept lies in K, what is pending in pv. -/
structure DiskAt (w : World) (g K c : Nat) (pv : Value) (V : DiskV) : Prop where
  hd : w.heap[g]? = some (.cells (hdCells K V.kept.length c pv V.fuse V.dead) 90)
  kept : w.ownsRow 0 145 128 (.slice (some ⟨K, 0, none⟩) V.kept.length c) V.kept.length (keptCells V.kept)
  pend : w.ownsRow 0 147 129 pv V.pend.length (pendCells V.pend)
  ne : g ≠ K
  ng : pv.ownBlock ≠ some g
  nK : pv.ownBlock ≠ some K
  ok : okDisk V

/-- The blocks of a disk. -/
def foot (g K : Nat) (pv : Value) : List Nat := g :: K :: pv.ownBlock.toList
theorem mem_foot {g K k : Nat} {pv : Value} : k ∈ foot g K pv ↔ k = g ∨ k = K ∨ pv.ownBlock = some k := by
  unfold foot
  rw [List.mem_cons, List.mem_cons]
  cases pv.ownBlock <;> simp [eq_comm]

def Disk (w : World) (g : Nat) (S : List Nat) (V : DiskV) : Prop := ∃ K c pv, DiskAt w g K c pv V ∧ S = foot g K pv

theorem DiskAt.lt {w : World} {g K c : Nat} {pv : Value} {V : DiskV} (h : DiskAt w g K c pv V) : ∀ k ∈ foot g K pv, k < w.heap.size := by
  intro k hk
  rcases mem_foot.1 hk with rfl | rfl | hp
  · exact heap_lt h.hd
  · exact (h.kept.lt _ rfl).2
  · exact (h.pend.lt _ hp).2
theorem Disk.lt {w : World} {g : Nat} {S : List Nat} {V : DiskV} (h : Disk w g S V) : ∀ k ∈ S, k < w.heap.size := by
  obtain ⟨K, c, pv, h, rfl⟩ := h
  exact h.lt
theorem Disk.ok {w : World} {g : Nat} {S : List Nat} {V : DiskV} (h : Disk w g S V) : okDisk V := by
  obtain ⟨K, c, pv, h, rfl⟩ := h
  exact h.ok
theorem DiskAt.keep {T : List Nat} {w w' : World} {g K c : Nat} {pv : Value} {V : DiskV} (h : DiskAt w g K c pv V) (hk : Keep T w w') (hT : ∀ k ∈ foot g K pv, k ∉ T) : DiskAt w' g K c pv V :=
  ⟨hk.heap h.hd (hT _ (mem_foot.2 (.inl rfl))), hk.owns h.kept (fun k e => by cases e; exact hT _ (mem_foot.2 (.inr (.inl rfl)))), hk.owns h.pend (fun k e => hT _ (mem_foot.2 (.inr (.inr e)))), h.ne, h.ng, h.nK, h.ok⟩
/-- What touches none of a disk's blocks leaves it. -/
theorem Disk.keep {T : List Nat} {w w' : World} {g : Nat} {S : List Nat} {V : DiskV} (h : Disk w g S V) (hk : Keep T w w') (hT : ∀ k ∈ S, k ∉ T) : Disk w' g S V := by
  obtain ⟨K, c, pv, h, rfl⟩ := h
  exact ⟨K, c, pv, h.keep hk hT, rfl⟩
theorem Disk.keep0 {w w' : World} {g : Nat} {S : List Nat} {V : DiskV} (h : Disk w g S V) (hk : Keep [] w w') : Disk w' g S V := h.keep hk (fun _ _ => by simp)
theorem Disk.mem {w : World} {g : Nat} {S : List Nat} {V : DiskV} (h : Disk w g S V) : g ∈ S := by
  obtain ⟨K, c, pv, h, rfl⟩ := h
  exact mem_foot.2 (.inl rfl)

theorem own_form {w : World} {base : Nat} {e : TypeId} {size n : Nat} {v : Value} {xs : List Value} (h : w.ownsRow base e size v n xs) : ∃ A c, v = .slice A n c := by
  rcases h.2 with ⟨h1, h2⟩ | ⟨g, cap', cur, h1, _⟩
  · exact ⟨none, 0, by rw [h1, h2]⟩
  · exact ⟨_, _, h1⟩

/-- The cells of a disk's head. -/
theorem DiskAt.cells {w : World} {g K c : Nat} {pv : Value} {V : DiskV} (h : DiskAt w g K c pv V) :
    w.cell? ⟨g, 0, none⟩ = some (.slice (some ⟨K, 0, none⟩) V.kept.length c) ∧ w.cell? ⟨g, 1, none⟩ = some pv ∧ w.cell? ⟨g, 2, none⟩ = some (.int .i64 V.fuse) ∧ w.cell? ⟨g, 3, none⟩ = some (.bool V.dead) :=
  ⟨(cell_of_row _ _ 0 _ _ _ h.hd).trans rfl, (cell_of_row _ _ 1 _ _ _ h.hd).trans rfl, (cell_of_row _ _ 2 _ _ _ h.hd).trans rfl, (cell_of_row _ _ 3 _ _ _ h.hd).trans rfl⟩

/-- A disk that nothing made. -/
def zeroHd : Array Value := #[.slice none 0 0, .slice none 0 0, .int .i64 0, .bool false]

theorem made_ok {w : World} {g : Nat} {S : List Nat} {V : DiskV} (h : Disk w g S V) : Calls Try.prog 86 #[.pointer (some ⟨g, 0, none⟩)] w fun e w' => e = .returned (.bool true) ∧ w = w' := by
  obtain ⟨K, c, pv, h, rfl⟩ := h
  obtain ⟨c0, _, _, _⟩ := h.cells
  have h1 := h.ok.some
  have h2 := h.ok.few
  generalize V.kept.length = n at *
  clear h
  go_enter Try.func86, Try.ntmps86
  go_wp2
  go_ret
  exact ⟨rfl, rfl⟩
theorem made_nil (w : World) : Calls Try.prog 86 #[.pointer none] w fun e w' => e = .returned (.bool false) ∧ w = w' := by
  go_enter Try.func86, Try.ntmps86
  go_wp2
  go_ret
  exact ⟨rfl, rfl⟩
theorem made_zero {w : World} {g : Nat} (h : w.heap[g]? = some (.cells zeroHd 90)) : Calls Try.prog 86 #[.pointer (some ⟨g, 0, none⟩)] w fun e w' => e = .returned (.bool false) ∧ w = w' := by
  have c0 : w.cell? ⟨g, 0, none⟩ = some (.slice none 0 0) := (cell_of_row _ _ 0 _ _ _ h).trans rfl
  clear h
  go_enter Try.func86, Try.ntmps86
  go_wp2
  go_ret
  exact ⟨rfl, rfl⟩

theorem size_ok {w : World} {g : Nat} {S : List Nat} {V : DiskV} (h : Disk w g S V) : Calls Try.prog 56 #[.pointer (some ⟨g, 0, none⟩)] w fun e w' => e = .returned (.int .i64 V.kept.length) ∧ w = w' := by
  have HM := Lib.hid (made_ok h)
  obtain ⟨K, c, pv, h, rfl⟩ := h
  obtain ⟨c0, _, _, _⟩ := h.cells
  generalize V.kept.length = n at *
  clear h
  go_enter Try.func56, Try.ntmps56
  go_wp2_with fail
  refine HM.out.mono ?_
  rintro e w1 ⟨rfl, rfl⟩
  go_wp2
  go_ret
  exact ⟨rfl, rfl⟩

theorem pending_ok {w : World} {g : Nat} {S : List Nat} {V : DiskV} (h : Disk w g S V) : Calls Try.prog 49 #[.pointer (some ⟨g, 0, none⟩)] w fun e w' => e = .returned (.int .i64 V.pend.length) ∧ w = w' := by
  have HM := Lib.hid (made_ok h)
  obtain ⟨K, c, pv, h, rfl⟩ := h
  obtain ⟨_, c1, _, _⟩ := h.cells
  obtain ⟨A, cc, rfl⟩ := own_form h.pend
  generalize V.pend.length = n at *
  clear h
  go_enter Try.func49, Try.ntmps49
  go_wp2_with fail
  refine HM.out.mono ?_
  rintro e w1 ⟨rfl, rfl⟩
  go_wp2
  go_ret
  exact ⟨rfl, rfl⟩

theorem dead_ok {w : World} {g : Nat} {S : List Nat} {V : DiskV} (h : Disk w g S V) : Calls Try.prog 52 #[.pointer (some ⟨g, 0, none⟩)] w fun e w' => e = .returned (.bool V.dead) ∧ w = w' := by
  have HM := Lib.hid (made_ok h)
  obtain ⟨K, c, pv, h, rfl⟩ := h
  obtain ⟨_, _, _, c3⟩ := h.cells
  generalize V.dead = b at *
  clear h
  go_enter Try.func52, Try.ntmps52
  go_wp2_with fail
  refine HM.out.mono ?_
  rintro e w1 ⟨rfl, rfl⟩
  go_wp2
  go_ret
  exact ⟨rfl, rfl⟩

theorem may_ok {w : World} {g : Nat} {S : List Nat} {V : DiskV} (h : Disk w g S V) : Calls Try.prog 92 #[.pointer (some ⟨g, 0, none⟩)] w fun e w' => e = .returned (.int .i64 V.mayE) ∧ w = w' := by
  have HM := Lib.hid (made_ok h)
  obtain ⟨K, c, pv, h, rfl⟩ := h
  obtain ⟨_, _, _, c3⟩ := h.cells
  unfold DiskV.mayE
  generalize V.dead = b at *
  clear h
  cases b
  all_goals
    go_enter Try.func92, Try.ntmps92
    go_wp2_with fail
    refine HM.out.mono ?_
    rintro e w1 ⟨rfl, rfl⟩
    go_wp2
    go_ret
    exact ⟨rfl, rfl⟩

theorem within_ok {w : World} {g : Nat} {S : List Nat} {V : DiskV} (i : Int) (h : Disk w g S V) : Calls Try.prog 90 #[.pointer (some ⟨g, 0, none⟩), .int .i64 i] w fun e w' => e = .returned (.int .i64 (V.withinE i)) ∧ w = w' := by
  have hm := may_ok h
  obtain ⟨K, c, pv, h, rfl⟩ := h
  obtain ⟨c0, _, _, _⟩ := h.cells
  unfold DiskV.withinE
  unfold DiskV.mayE at hm
  generalize V.kept.length = n at *
  generalize V.dead = b at *
  clear h
  have HM := Lib.hid hm
  clear hm
  cases b with
  | true =>
    go_enter Try.func90, Try.ntmps90
    go_wp2_with fail
    refine HM.out.mono ?_
    rintro e w1 ⟨rfl, rfl⟩
    go_wp2
    go_ret
    exact ⟨rfl, rfl⟩
  | false =>
    by_cases h1 : i < 0
    · go_enter Try.func90, Try.ntmps90
      go_wp2_with fail
      refine HM.out.mono ?_
      rintro e w1 ⟨rfl, rfl⟩
      go_wp2
      go_ret
      exact ⟨by simp [h1], rfl⟩
    · by_cases h2 : (n : Int) ≤ i
      · go_enter Try.func90, Try.ntmps90
        go_wp2_with fail
        refine HM.out.mono ?_
        rintro e w1 ⟨rfl, rfl⟩
        go_wp2
        go_ret
        exact ⟨by simp [h2], rfl⟩
      · go_enter Try.func90, Try.ntmps90
        go_wp2_with fail
        refine HM.out.mono ?_
        rintro e w1 ⟨rfl, rfl⟩
        go_wp2
        go_ret
        exact ⟨by simp [h1, h2], rfl⟩
end Go.Proofs.Ytkhggpopohkjfaa
