/- A disk as plain data, and what its calls make of it. Nothing of the program is walked here. -/
import Derived.Test.YtkhggpopohkjfaaBytes
namespace Go.Proofs.Ytkhggpopohkjfaa
open Go.RowKit Go.Lib
set_option linter.unusedVariables false
set_option linter.unusedSimpArgs false
set_option linter.unusedSectionVars false

/-- A disk: what is kept, what is pending (the sector's number, its bytes), the fuse, is it dead? -/
structure DiskV where
  kept : List ByteArray
  pend : List (Nat × ByteArray)
  fuse : Int
  dead : Bool

structure okDisk (V : DiskV) : Prop where
  some : 0 < V.kept.length
  few : V.kept.length ≤ 16384
  full : ∀ s ∈ V.kept, s.size = 128
  pend : ∀ p ∈ V.pend, p.1 < V.kept.length ∧ p.2.size = 128
  fuse : -1 ≤ V.fuse
  fuse2 : V.fuse ≤ 9223372036854775807

/-- The cells of sectors, of pending writes. -/
def keptCells (l : List ByteArray) : List Value := l.flatMap strCells
def wrCells (p : Nat × ByteArray) : List Value := strCells p.2 ++ [.int .i64 (p.1 : Int)]
def pendCells (l : List (Nat × ByteArray)) : List Value := l.flatMap wrCells

/-- Bytes, and noughts behind, as many as a sector has. -/
def padB (b : ByteArray) : ByteArray := b ++ zerosB (128 - b.size)
theorem padB_size {b : ByteArray} (h : b.size ≤ 128) : (padB b).size = 128 := by
  unfold padB
  rw [ByteArray.size_append, zerosB_size]
  omega

/-- What a sector has: the last write to it, or what is kept. -/
def hasGo (l : List (Nat × ByteArray)) (i : Nat) (s : ByteArray) : ByteArray := l.foldl (fun s p => if p.1 = i then p.2 else s) s
def DiskV.has (V : DiskV) (i : Nat) : ByteArray := hasGo V.pend i (V.kept.getD i ByteArray.empty)
def DiskV.mayE (V : DiskV) : Int := if V.dead then 20 else 0
def DiskV.withinE (V : DiskV) (i : Int) : Int := if V.dead then 20 else if i < 0 ∨ (V.kept.length : Int) ≤ i then 6 else 0
def DiskV.burnV (V : DiskV) : DiskV := if V.fuse = 0 then { V with dead := true } else if 0 < V.fuse then { V with fuse := V.fuse - 1 } else V
def DiskV.burnE (V : DiskV) : Int := if V.fuse = 0 then 20 else 0
def DiskV.readE (V : DiskV) (i : Int) : Int := V.withinE i
def DiskV.readB (V : DiskV) (i : Int) : ByteArray := if V.withinE i = 0 then V.has i.toNat else ByteArray.empty
def DiskV.add (V : DiskV) (i : Nat) (b : ByteArray) : DiskV := { V with pend := V.pend ++ [(i, padB b)] }
def DiskV.writeE (V : DiskV) (i : Int) (b : ByteArray) : Int := if V.withinE i ≠ 0 then V.withinE i else if 128 < b.size then 5 else V.burnE
def DiskV.writeV (V : DiskV) (i : Int) (b : ByteArray) : DiskV := if V.withinE i ≠ 0 then V else if 128 < b.size then V else if V.burnE = 0 then V.burnV.add i.toNat b else V.burnV
/-- What is kept behind those pending writes, from the k-th on, that are picked. -/
def keepGo (pick : Nat → Bool) : List ByteArray → Nat → List (Nat × ByteArray) → List ByteArray
  | L, _, [] => L
  | L, k, p :: l => keepGo pick (if pick k then L.set p.1 p.2 else L) (k + 1) l
def DiskV.keepV (V : DiskV) (pick : Nat → Bool) : DiskV := { V with kept := keepGo pick V.kept 0 V.pend, pend := [] }
def DiskV.flushE (V : DiskV) : Int := if V.dead then 20 else V.burnE
def DiskV.flushV (V : DiskV) : DiskV := if V.dead then V else if V.burnE = 0 then V.burnV.keepV (fun _ => true) else V.burnV
def DiskV.armE (V : DiskV) : Int := V.mayE
def DiskV.armV (V : DiskV) (n : Int) : DiskV := if V.dead then V else { V with fuse := max (-1) n }
def pickOf (l : List Int) (k : Nat) : Bool := l.contains (k : Int)
def DiskV.crashV (V : DiskV) (l : List Int) : DiskV := { V.keepV (pickOf l) with fuse := -1, dead := false }
def newV (n : Nat) : DiskV := ⟨List.replicate n (zerosB 128), [], -1, false⟩

theorem keepGo_length (pick : Nat → Bool) : ∀ (l : List (Nat × ByteArray)) (L : List ByteArray) (k : Nat), (keepGo pick L k l).length = L.length
  | [], _, _ => rfl
  | p :: l, L, k => by
    rw [keepGo, keepGo_length pick l]
    split <;> simp
theorem keepGo_full (pick : Nat → Bool) : ∀ (l : List (Nat × ByteArray)) (L : List ByteArray) (k : Nat), (∀ s ∈ L, s.size = 128) → (∀ p ∈ l, p.2.size = 128) → ∀ s ∈ keepGo pick L k l, s.size = 128
  | [], _, _, h, _ => h
  | p :: l, L, k, h, hp => by
    rw [keepGo]
    refine keepGo_full pick l _ _ ?_ (fun q hq => hp q (List.mem_cons_of_mem _ hq))
    split
    · intro s hs
      rcases List.mem_or_eq_of_mem_set hs with h1 | h1
      · exact h s h1
      · rw [h1]; exact hp p List.mem_cons_self
    · exact h
theorem okDisk.newV {n : Nat} (h1 : 0 < n) (h2 : n ≤ 16384) : okDisk (newV n) :=
  ⟨by simp [Ytkhggpopohkjfaa.newV, h1], by simp [Ytkhggpopohkjfaa.newV, h2], fun s hs => by rw [(List.mem_replicate.1 hs).2, zerosB_size], fun p hp => (by cases hp), by show (-1 : Int) ≤ -1; decide, by show (-1 : Int) ≤ 9223372036854775807; decide⟩
theorem okDisk.burn {V : DiskV} (h : okDisk V) : okDisk V.burnV := by
  unfold DiskV.burnV
  have := h.fuse; have := h.fuse2
  split
  · exact ⟨h.some, h.few, h.full, h.pend, h.fuse, h.fuse2⟩
  · split
    · exact ⟨h.some, h.few, h.full, h.pend, by dsimp only; omega, by dsimp only; omega⟩
    · exact h
theorem okDisk.keep {V : DiskV} (h : okDisk V) (pick : Nat → Bool) : okDisk (V.keepV pick) := by
  refine ⟨?_, ?_, ?_, fun p hp => (by cases hp), h.fuse, h.fuse2⟩
  · show 0 < (keepGo pick V.kept 0 V.pend).length
    rw [keepGo_length]; exact h.some
  · show (keepGo pick V.kept 0 V.pend).length ≤ 16384
    rw [keepGo_length]; exact h.few
  · exact keepGo_full pick _ _ _ h.full (fun p hp => (h.pend p hp).2)
theorem okDisk.add {V : DiskV} (h : okDisk V) {i : Nat} (hi : i < V.kept.length) {b : ByteArray} (hb : b.size ≤ 128) : okDisk (V.add i b) :=
  ⟨h.some, h.few, h.full, fun p hp => by
    rcases List.mem_append.1 hp with h1 | h1
    · exact h.pend p h1
    · rw [List.mem_singleton.1 h1]; exact ⟨hi, padB_size hb⟩, h.fuse, h.fuse2⟩
theorem okDisk.crash {V : DiskV} (h : okDisk V) (l : List Int) : okDisk (V.crashV l) :=
  have k := h.keep (pickOf l)
  ⟨k.some, k.few, k.full, k.pend, by show (-1 : Int) ≤ -1; decide, by show (-1 : Int) ≤ 9223372036854775807; decide⟩
theorem burn_kept (V : DiskV) : V.burnV.kept = V.kept := by unfold DiskV.burnV; (repeat' split) <;> rfl
theorem burn_pend (V : DiskV) : V.burnV.pend = V.pend := by unfold DiskV.burnV; (repeat' split) <;> rfl
theorem okDisk.flush {V : DiskV} (h : okDisk V) : okDisk V.flushV := by
  unfold DiskV.flushV
  split
  · exact h
  · split
    · exact h.burn.keep _
    · exact h.burn
theorem okDisk.arm {V : DiskV} (h : okDisk V) (n : Int) (hn : n ≤ 9223372036854775807) : okDisk (V.armV n) := by
  unfold DiskV.armV
  split
  · exact h
  · exact ⟨h.some, h.few, h.full, h.pend, by dsimp only; omega, by dsimp only; omega⟩
theorem withinE_zero {V : DiskV} {i : Int} (h : V.withinE i = 0) : V.dead = false ∧ 0 ≤ i ∧ i.toNat < V.kept.length := by
  unfold DiskV.withinE at h
  split at h
  · cases h
  · rename_i hd
    split at h
    · cases h
    · exact ⟨by simpa using hd, by omega, by omega⟩
theorem okDisk.write {V : DiskV} (h : okDisk V) (i : Int) (b : ByteArray) : okDisk (V.writeV i b) := by
  unfold DiskV.writeV
  split
  · exact h
  · rename_i hw
    split
    · exact h
    · split
      · exact h.burn.add (by rw [burn_kept]; exact (withinE_zero (by simpa using hw)).2.2) (by omega)
      · exact h.burn

/-- Cells: how many, which. -/
theorem keptCells_length {l : List ByteArray} (h : ∀ s ∈ l, s.size = 128) : (keptCells l).length = l.length * 128 := by
  induction l with
  | nil => rfl
  | cons s l ih =>
    unfold keptCells at *
    rw [List.flatMap_cons, List.length_append, ih (fun x hx => h x (List.mem_cons_of_mem _ hx)), strCells_length, h s List.mem_cons_self, List.length_cons]
    omega
theorem wrCells_length {p : Nat × ByteArray} (h : p.2.size = 128) : (wrCells p).length = 129 := by simp [wrCells, strCells_length, h]
theorem pendCells_length {l : List (Nat × ByteArray)} (h : ∀ p ∈ l, p.2.size = 128) : (pendCells l).length = l.length * 129 := by
  induction l with
  | nil => rfl
  | cons s l ih =>
    unfold pendCells at *
    rw [List.flatMap_cons, List.length_append, ih (fun x hx => h x (List.mem_cons_of_mem _ hx)), wrCells_length (h s List.mem_cons_self), List.length_cons]
    omega
theorem pendCells_append (a b : List (Nat × ByteArray)) : pendCells (a ++ b) = pendCells a ++ pendCells b := by simp [pendCells]
theorem pendCells_one (p : Nat × ByteArray) : pendCells [p] = wrCells p := by simp [pendCells]
theorem keptCells_get : ∀ (l : List ByteArray) (k j : Nat) (h : k < l.length), (∀ s ∈ l, s.size = 128) → j < 128 → (keptCells l)[k * 128 + j]? = (strCells l[k])[j]?
  | s :: l, 0, j, _, hf, hj => by
    unfold keptCells
    rw [List.flatMap_cons, List.getElem?_append_left (by rw [strCells_length, hf s List.mem_cons_self]; omega)]
    simp
  | s :: l, k + 1, j, h, hf, hj => by
    unfold keptCells
    have hl : (strCells s).length = 128 := by rw [strCells_length, hf s List.mem_cons_self]
    rw [List.flatMap_cons, List.getElem?_append_right (by rw [hl]; omega), hl, show (k + 1) * 128 + j - 128 = k * 128 + j by omega]
    exact keptCells_get l k j (by simpa using h) (fun x hx => hf x (List.mem_cons_of_mem _ hx)) hj
theorem pendCells_get : ∀ (l : List (Nat × ByteArray)) (k j : Nat) (h : k < l.length), (∀ p ∈ l, p.2.size = 128) → j < 129 → (pendCells l)[k * 129 + j]? = (wrCells l[k])[j]?
  | s :: l, 0, j, _, hf, hj => by
    unfold pendCells
    rw [List.flatMap_cons, List.getElem?_append_left (by rw [wrCells_length (hf s List.mem_cons_self)]; omega)]
    simp
  | s :: l, k + 1, j, h, hf, hj => by
    unfold pendCells
    have hl : (wrCells s).length = 129 := wrCells_length (hf s List.mem_cons_self)
    rw [List.flatMap_cons, List.getElem?_append_right (by rw [hl]; omega), hl, show (k + 1) * 129 + j - 129 = k * 129 + j by omega]
    exact pendCells_get l k j (by simpa using h) (fun x hx => hf x (List.mem_cons_of_mem _ hx)) hj
/-- A list with some of its cells overwritten. -/
def splice (C : List Value) (o : Nat) (vs : List Value) : List Value := C.take o ++ (vs ++ C.drop (o + vs.length))
theorem splice_length {C vs : List Value} {o : Nat} (h : o + vs.length ≤ C.length) : (splice C o vs).length = C.length := by
  unfold splice
  simp
  omega
theorem keptCells_set : ∀ (l : List ByteArray) (k : Nat) (s : ByteArray), k < l.length → (∀ s ∈ l, s.size = 128) → s.size = 128 → keptCells (l.set k s) = splice (keptCells l) (k * 128) (strCells s)
  | x :: l, 0, s, _, hf, hs => by
    unfold splice keptCells
    rw [List.set_cons_zero, List.flatMap_cons, List.flatMap_cons]
    have hl : (strCells x).length = 128 := by rw [strCells_length, hf x List.mem_cons_self]
    have hl2 : (strCells s).length = 128 := by rw [strCells_length, hs]
    simp [hl, hl2]
  | x :: l, k + 1, s, h, hf, hs => by
    have ih := keptCells_set l k s (by simpa using h) (fun y hy => hf y (List.mem_cons_of_mem _ hy)) hs
    unfold splice keptCells at *
    have hl : (strCells x).length = 128 := by rw [strCells_length, hf x List.mem_cons_self]
    rw [List.set_cons_succ, List.flatMap_cons, List.flatMap_cons, ih]
    have e1 : (k + 1) * 128 = (strCells x).length + k * 128 := by omega
    rw [e1, List.take_length_add_append, Nat.add_assoc, List.drop_length_add_append, List.append_assoc]
end Go.Proofs.Ytkhggpopohkjfaa
