/- What a disk's calls leave, as plain data: what is read, what was flushed stands. Nothing of the program is walked here. -/
import Derived.Test.YtkhggpopohkjfaaKeepM
namespace Go.Proofs.Ytkhggpopohkjfaa
open Go.RowKit Go.Lib

theorem hasGo_snoc (l : List (Nat × ByteArray)) (p : Nat × ByteArray) (i : Nat) (s : ByteArray) : hasGo (l ++ [p]) i s = if p.1 = i then p.2 else hasGo l i s := by
  unfold hasGo
  rw [List.foldl_append]
  rfl
theorem hasGo_take (l : List (Nat × ByteArray)) (i : Nat) (s : ByteArray) (k : Nat) (h : k < l.length) : hasGo (l.take (k + 1)) i s = if l[k].1 = i then l[k].2 else hasGo (l.take k) i s := by
  rw [List.take_succ_eq_append_getElem h, hasGo_snoc]
theorem hasGo_size {l : List (Nat × ByteArray)} {i : Nat} {s : ByteArray} {n : Nat} (hs : s.size = n) (h : ∀ p ∈ l, p.2.size = n) : (hasGo l i s).size = n := by
  unfold hasGo
  induction l generalizing s with
  | nil => exact hs
  | cons p l ih =>
    rw [List.foldl_cons]
    refine ih ?_ (fun q hq => h q (List.mem_cons_of_mem _ hq))
    split
    · exact h p List.mem_cons_self
    · exact hs
theorem okDisk.at_size {V : DiskV} (h : okDisk V) {i : Nat} (hi : i < V.kept.length) : (V.kept.getD i ByteArray.empty).size = 128 := by
  rw [List.getD_eq_getElem?_getD, List.getElem?_eq_getElem hi]
  exact h.full _ (List.getElem_mem hi)
theorem okDisk.has_size {V : DiskV} (h : okDisk V) {i : Nat} (hi : i < V.kept.length) : (V.has i).size = 128 :=
  hasGo_size (h.at_size hi) (fun p hp => (h.pend p hp).2)

theorem burn_len (V : DiskV) : V.burnV.pend.length = V.pend.length := by rw [burn_pend]
theorem write_len (V : DiskV) (i : Int) (s : ByteArray) : (V.writeV i s).pend.length ≤ V.pend.length + 1 := by
  unfold DiskV.writeV
  (repeat' split) <;> simp [DiskV.add, burn_pend]
theorem flush_len (V : DiskV) : V.flushV.pend.length ≤ V.pend.length := by
  unfold DiskV.flushV
  (repeat' split) <;> simp [DiskV.keepV, burn_pend]
theorem arm_len (V : DiskV) (n : Int) : (V.armV n).pend.length = V.pend.length := by
  unfold DiskV.armV
  split <;> rfl
theorem write_kept (V : DiskV) (i : Int) (s : ByteArray) : (V.writeV i s).kept = V.kept := by
  unfold DiskV.writeV
  (repeat' split) <;> simp [DiskV.add, burn_kept]
theorem arm_kept (V : DiskV) (n : Int) : (V.armV n).kept = V.kept := by
  unfold DiskV.armV
  split <;> rfl
theorem arm_pend (V : DiskV) (n : Int) : (V.armV n).pend = V.pend := by
  unfold DiskV.armV
  split <;> rfl
theorem keep_kept_length (V : DiskV) (pick : Nat → Bool) : (V.keepV pick).kept.length = V.kept.length := keepGo_length _ _ _ _
theorem flush_kept_length (V : DiskV) : V.flushV.kept.length = V.kept.length := by
  unfold DiskV.flushV
  (repeat' split) <;> simp [keep_kept_length, burn_kept]
theorem crash_kept_length (V : DiskV) (l : List Int) : (V.crashV l).kept.length = V.kept.length := keepGo_length _ _ _ _

/-- What is kept at i when no pending write is to i. -/
theorem keepGo_other (pick : Nat → Bool) (i : Nat) : ∀ (l : List (Nat × ByteArray)) (L : List ByteArray) (k : Nat), (∀ p ∈ l, p.1 ≠ i) → (keepGo pick L k l)[i]? = L[i]?
  | [], _, _, _ => rfl
  | p :: l, L, k, h => by
    rw [keepGo, keepGo_other pick i l _ _ (fun q hq => h q (List.mem_cons_of_mem _ hq))]
    split
    · rw [List.getElem?_set_ne (h p List.mem_cons_self)]
    · rfl

/-- A sector stands, and no pending write is to it. -/
structure Stands (V : DiskV) (i : Nat) (s : ByteArray) : Prop where
  at_ : V.kept[i]? = some s
  none_ : ∀ p ∈ V.pend, p.1 ≠ i
theorem Stands.has {V : DiskV} {i : Nat} {s : ByteArray} (h : Stands V i s) : V.has i = s := by
  have : ∀ (l : List (Nat × ByteArray)) (x : ByteArray), (∀ p ∈ l, p.1 ≠ i) → hasGo l i x = x := by
    intro l
    induction l with
    | nil => exact fun _ _ => rfl
    | cons p l ih =>
      intro x hl
      unfold hasGo
      rw [List.foldl_cons, if_neg (hl p List.mem_cons_self)]
      exact ih x (fun q hq => hl q (List.mem_cons_of_mem _ hq))
  unfold DiskV.has
  rw [this _ _ h.none_, List.getD_eq_getElem?_getD, h.at_]
  rfl
theorem Stands.burn {V : DiskV} {i : Nat} {s : ByteArray} (h : Stands V i s) : Stands V.burnV i s := ⟨by rw [burn_kept]; exact h.at_, by rw [burn_pend]; exact h.none_⟩
theorem Stands.keep {V : DiskV} {i : Nat} {s : ByteArray} (h : Stands V i s) (pick : Nat → Bool) : Stands (V.keepV pick) i s :=
  ⟨by show (keepGo pick V.kept 0 V.pend)[i]? = some s; rw [keepGo_other pick i _ _ _ h.none_]; exact h.at_, fun p hp => by cases hp⟩
theorem Stands.flush {V : DiskV} {i : Nat} {s : ByteArray} (h : Stands V i s) : Stands V.flushV i s := by
  unfold DiskV.flushV
  (repeat' split)
  · exact h
  · exact h.burn.keep _
  · exact h.burn
theorem Stands.crash {V : DiskV} {i : Nat} {s : ByteArray} (h : Stands V i s) (l : List Int) : Stands (V.crashV l) i s :=
  have k := h.keep (pickOf l)
  ⟨k.at_, k.none_⟩
theorem Stands.arm {V : DiskV} {i : Nat} {s : ByteArray} (h : Stands V i s) (n : Int) : Stands (V.armV n) i s := ⟨by rw [arm_kept]; exact h.at_, by rw [arm_pend]; exact h.none_⟩
theorem Stands.write {V : DiskV} {i : Nat} {s : ByteArray} (h : Stands V i s) (j : Int) (hj : j ≠ (i : Int)) (b : ByteArray) : Stands (V.writeV j b) i s := by
  unfold DiskV.writeV
  (repeat' split)
  · exact h
  · exact h
  · rename_i hw _ _
    have hw2 := (withinE_zero (by simpa using hw)).2.1
    refine ⟨by rw [DiskV.add, burn_kept]; exact h.at_, fun p hp => ?_⟩
    rcases List.mem_append.1 hp with h1 | h1
    · exact h.burn.none_ p h1
    · rw [List.mem_singleton.1 h1]
      dsimp only
      omega
  · exact h.burn

/-- A disk that crashed keeping nothing, then was written and flushed. -/
theorem crash_nil_pend (V : DiskV) (l : List Int) : (V.crashV l).pend = [] := rfl
theorem crash_fuse (V : DiskV) (l : List Int) : (V.crashV l).fuse = -1 := rfl
theorem crash_dead (V : DiskV) (l : List Int) : (V.crashV l).dead = false := rfl
theorem burn_m1 {V : DiskV} (h : V.fuse = -1) : V.burnV = V ∧ V.burnE = 0 := by
  unfold DiskV.burnV DiskV.burnE
  rw [h]
  exact ⟨rfl, rfl⟩
theorem within_ok' {V : DiskV} (hd : V.dead = false) {i : Nat} (hi : i < V.kept.length) : V.withinE i = 0 := by
  unfold DiskV.withinE
  rw [hd]
  simp
  omega
/-- An armed-off disk writes what fits. -/
theorem write_free {V : DiskV} (hd : V.dead = false) (hf : V.fuse = -1) {i : Nat} (hi : i < V.kept.length) {s : ByteArray} (hs : s.size ≤ 128) : V.writeV i s = V.add i s ∧ V.writeE i s = 0 := by
  unfold DiskV.writeV DiskV.writeE
  rw [within_ok' hd hi, (burn_m1 hf).2, (burn_m1 hf).1]
  simp
  omega
theorem write_big {V : DiskV} (hd : V.dead = false) {i : Nat} (hi : i < V.kept.length) {s : ByteArray} (hs : 128 < s.size) : V.writeV i s = V ∧ V.writeE i s = 5 := by
  unfold DiskV.writeV DiskV.writeE
  rw [within_ok' hd hi]
  simp
  omega
theorem flush_free {V : DiskV} (hd : V.dead = false) (hf : V.fuse = -1) : V.flushV = V.keepV (fun _ => true) ∧ V.flushE = 0 := by
  unfold DiskV.flushV DiskV.flushE
  rw [hd, (burn_m1 hf).2, (burn_m1 hf).1]
  exact ⟨rfl, rfl⟩
theorem read_free {V : DiskV} (hd : V.dead = false) {i : Nat} (hi : i < V.kept.length) : V.readE i = 0 ∧ V.readB i = V.has i := by
  unfold DiskV.readE DiskV.readB
  rw [within_ok' hd hi]
  exact ⟨rfl, by simp⟩
/-- What was written and flushed stands. -/
theorem stands_flushed {V : DiskV} (hp : V.pend = []) {i : Nat} (hi : i < V.kept.length) (s : ByteArray) : Stands ((V.add i s).keepV fun _ => true) i (padB s) := by
  refine ⟨?_, fun p hp => by cases hp⟩
  show (keepGo _ V.kept 0 (V.pend ++ [(i, padB s)]))[i]? = _
  rw [hp]
  show ((V.kept).set i (padB s))[i]? = _
  rw [List.getElem?_set_self hi]
end Go.Proofs.Ytkhggpopohkjfaa
