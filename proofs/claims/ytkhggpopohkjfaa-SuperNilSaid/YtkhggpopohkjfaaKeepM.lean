/- What is kept behind so many pending writes, one by one; a row whose cells are overwritten in part. Plain. -/
import Derived.Test.YtkhggpopohkjfaaDiskW
namespace Go.Proofs.Ytkhggpopohkjfaa
open Go.RowKit Go.Proofs Go.Lib
set_option linter.unusedVariables false
set_option linter.unusedSimpArgs false
set_option linter.unusedSectionVars false

theorem keepGo_snoc (pick : Nat → Bool) (p : Nat × ByteArray) : ∀ (l : List (Nat × ByteArray)) (L : List ByteArray) (k : Nat), keepGo pick L k (l ++ [p]) = if pick (k + l.length) then (keepGo pick L k l).set p.1 p.2 else keepGo pick L k l
  | [], L, k => rfl
  | q :: l, L, k => by
    rw [List.cons_append, keepGo, keepGo_snoc pick p l]
    rw [keepGo, List.length_cons, show k + 1 + l.length = k + (l.length + 1) by omega]
/-- What is kept behind the first k pending writes. -/
def DiskV.keptTo (V : DiskV) (pick : Nat → Bool) (k : Nat) : List ByteArray := keepGo pick V.kept 0 (V.pend.take k)
theorem keptTo_zero (V : DiskV) (pick : Nat → Bool) : V.keptTo pick 0 = V.kept := by simp [DiskV.keptTo, keepGo]
theorem keptTo_succ (V : DiskV) (pick : Nat → Bool) (k : Nat) (h : k < V.pend.length) : V.keptTo pick (k + 1) = if pick k then (V.keptTo pick k).set V.pend[k].1 V.pend[k].2 else V.keptTo pick k := by
  unfold DiskV.keptTo
  rw [List.take_succ_eq_append_getElem h, keepGo_snoc]
  have hl : (V.pend.take k).length = k := by simp; omega
  rw [hl, Nat.zero_add]
theorem keptTo_all (V : DiskV) (pick : Nat → Bool) : V.keptTo pick V.pend.length = (V.keepV pick).kept := by
  unfold DiskV.keptTo DiskV.keepV
  rw [List.take_length]
theorem keptTo_length (V : DiskV) (pick : Nat → Bool) (k : Nat) : (V.keptTo pick k).length = V.kept.length := keepGo_length _ _ _ _
theorem keptTo_full {V : DiskV} (h : okDisk V) (pick : Nat → Bool) (k : Nat) : ∀ s ∈ V.keptTo pick k, s.size = 128 :=
  keepGo_full _ _ _ _ h.full (fun p hp => (h.pend p (List.mem_of_mem_take hp)).2)

theorem Keep.putRow {S : List Nat} {w w1 : World} (h : Keep S w w1) {r : Nat} (cs : Array Value) (hr : r ∈ S ∨ w.heap.size ≤ r) : Keep S w (w1.setRow r cs) :=
  ⟨h.os, h.tape, h.output, Nat.le_trans h.size (by simp), fun i hi hn => (setRow_other w1 r i cs (fun e => by subst e; rcases hr with h1 | h1; exact hn h1; omega)).trans (h.block i hi hn)⟩

/-- A row of one's own, some of its cells overwritten. -/
theorem own_splice {w : World} {base : Nat} {e : TypeId} {size n c g : Nat} {xs : List Value} (h : w.ownsRow base e size (.slice (some ⟨g, 0, none⟩) n c) n xs) :
    ∃ C : List Value, w.heap[g]? = some (.cells C.toArray e) ∧ n * size ≤ C.length ∧ C.take (n * size) = xs ∧ ∀ (off : Nat) (cs : List Value), off + cs.length ≤ n * size →
      (w.setRow g (splice C off cs).toArray).ownsRow base e size (.slice (some ⟨g, 0, none⟩) n c) n (splice xs off cs) := by
  rcases h.2 with ⟨h1, _⟩ | ⟨g', cap, cur, h1, hb, hg, hnc, hcm, hcs, ht⟩
  · cases h1
  · cases h1
    have hle := Nat.mul_le_mul_right size hnc
    have hcl : cur.toList.length = c * size := by simpa using hcs
    refine ⟨cur.toList, by simpa using hg, by omega, ht, fun off cs hfit => ?_⟩
    have hsl : (splice cur.toList off cs).length = cur.toList.length := splice_length (by omega)
    refine ⟨?_, .inr ⟨g, c, (splice cur.toList off cs).toArray, rfl, hb, setRow_heap w g cur _ e _ hg, hnc, hcm, by simp only [List.size_toArray]; omega, ?_⟩⟩
    · rw [splice_length (by rw [h.1]; exact hfit), h.1]
    · rw [List.toList_toArray]
      unfold splice
      rw [← ht, List.take_append, List.take_append]
      have hlo : (cur.toList.take off).length = off := by rw [List.length_take]; omega
      rw [hlo, List.take_of_length_le (by rw [hlo]; omega), List.take_of_length_le (l := cs) (by omega), List.take_take, Nat.min_eq_left (by omega), List.drop_take]
      congr 2
      rw [show n * size - off - cs.length = n * size - (off + cs.length) by omega]
end Go.Proofs.Ytkhggpopohkjfaa
