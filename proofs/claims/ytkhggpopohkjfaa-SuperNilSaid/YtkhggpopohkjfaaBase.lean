/- What is left alone by a call: all blocks that were there, but for those of a list. Small laws on blocks of cells. No condition. -/
import Derived.WalkKit
import Derived.OneCell
import Derived.Laws.OwnMore
import Derived.Lib.Hide
import Derived.Deep.Draws
import Derived.Test.YtkhggpopohkjfaaRange
namespace Go.Proofs.Ytkhggpopohkjfaa
open Go.RowKit

/-- Behind a call: whatever block was there, and is none of S, lies as it lay. -/
structure Keep (S : List Nat) (w w' : World) : Prop where
  os : w'.os = w.os
  tape : w'.tape = w.tape
  output : w'.output = w.output
  size : w.heap.size ≤ w'.heap.size
  block : ∀ k, k < w.heap.size → k ∉ S → w'.heap[k]? = w.heap[k]?

namespace Keep
variable {S : List Nat} {w w1 w2 : World}
theorem refl (S : List Nat) (w : World) : Keep S w w := ⟨rfl, rfl, rfl, Nat.le_refl _, fun _ _ _ => rfl⟩
theorem trans (h : Keep S w w1) (k : Keep S w1 w2) : Keep S w w2 :=
  ⟨k.os.trans h.os, k.tape.trans h.tape, k.output.trans h.output, Nat.le_trans h.size k.size, fun i hi hs => (k.block i (Nat.lt_of_lt_of_le hi h.size) hs).trans (h.block i hi hs)⟩
/-- What came behind turned only blocks of S, or new ones. -/
theorem trans' {S' : List Nat} (h : Keep S w w1) (k : Keep S' w1 w2) (hs : ∀ i ∈ S', i ∈ S ∨ w.heap.size ≤ i) : Keep S w w2 :=
  ⟨k.os.trans h.os, k.tape.trans h.tape, k.output.trans h.output, Nat.le_trans h.size k.size, fun i hi hn => (k.block i (Nat.lt_of_lt_of_le hi h.size) (fun hm => by rcases hs i hm with h1 | h1; exact hn h1; omega)).trans (h.block i hi hn)⟩
theorem mono {S' : List Nat} (h : Keep S w w1) (hs : ∀ i ∈ S, i ∈ S' ∨ w.heap.size ≤ i) : Keep S' w w1 :=
  ⟨h.os, h.tape, h.output, h.size, fun i hi hn => h.block i hi (fun hm => by rcases hs i hm with h1 | h1; exact hn h1; omega)⟩
theorem drew (h : Keep S w w1) : Keep S w w1.drew := ⟨h.os, h.tape, h.output, h.size, h.block⟩
theorem drewN (h : Keep S w w1) (n : Nat) : Keep S w (w1.drewN n) := ⟨h.os, h.tape, h.output, h.size, h.block⟩
theorem alloc (h : Keep S w w1) (o : Obj) : Keep S w (w1.alloc o) :=
  ⟨h.os, h.tape, h.output, Nat.le_trans h.size (by simp), fun i hi hn => (Below.heap_alloc w1 o i (Nat.lt_of_lt_of_le hi h.size)).trans (h.block i hi hn)⟩
theorem setCell (h : Keep S w w1) {a : Addr} (ha : a.block ∈ S ∨ w.heap.size ≤ a.block) (v : Value) : Keep S w (w1.setCell a v) :=
  ⟨h.os, h.tape, h.output, Nat.le_trans h.size (by simp [World.setCell]), fun i hi hn => (heap_setCell_other w1 a i v (fun e => by subst e; rcases ha with h1 | h1; exact hn h1; omega)).trans (h.block i hi hn)⟩
theorem grown (h : Keep S w w1) {row : Option Nat} (hg : w1.grownBy w2 row) (hr : ∀ k, row = some k → k ∈ S ∨ w.heap.size ≤ k) : Keep S w w2 :=
  ⟨hg.os.trans h.os, hg.tape.trans h.tape, hg.output.trans h.output, Nat.le_trans h.size hg.size, fun i hi hn => (hg.block i (Nat.lt_of_lt_of_le hi h.size) (fun e => by rcases hr i e.symm with h1 | h1; exact hn h1; omega)).trans (h.block i hi hn)⟩
theorem putObj (h : Keep S w w1) {r : Nat} (o : Obj) (hr : r ∈ S ∨ w.heap.size ≤ r) : Keep S w { w1 with heap := w1.heap.setIfInBounds r o } :=
  ⟨h.os, h.tape, h.output, Nat.le_trans h.size (by simp), fun i hi hn => by
    refine Eq.trans ?_ (h.block i hi hn)
    show (w1.heap.setIfInBounds r o)[i]? = _
    rw [Array.getElem?_setIfInBounds]
    split
    · rename_i e; subst e; rcases hr with h1 | h1
      · exact absurd h1 hn
      · omega
    · rfl⟩
theorem below (h : Keep [] w w1) : Below w.heap.size w w1 := ⟨h.os, h.tape, h.output, h.size, fun k hk => h.block k hk (by simp)⟩
theorem of_below (h : Below w.heap.size w w1) : Keep S w w1 := ⟨h.os, h.tape, h.output, h.size, fun k hk _ => h.block k hk⟩
theorem bel (h : Keep S w w1) (k : Below w1.heap.size w1 w2) : Keep S w w2 := h.trans (of_below k)
theorem heap (h : Keep S w w1) {k : Nat} {o : Obj} (ho : w.heap[k]? = some o) (hs : k ∉ S) : w1.heap[k]? = some o :=
  (h.block k (Array.getElem?_eq_some_iff.1 ho).1 hs).trans ho
theorem cell (h : Keep S w w1) {a : Addr} {v : Value} (hc : w.cell? a = some v) (hs : a.block ∉ S) : w1.cell? a = some v :=
  (World.cell?_of_block (h.block a.block (block_lt_of_cell hc) hs)).trans hc
theorem frozen (h : Keep S w w1) {a : Addr} (hl : a.block < w.heap.size) (hs : a.block ∉ S) : w1.frozen? a = w.frozen? a :=
  World.frozen?_of_block (h.block a.block hl hs)
theorem grownBy (h : Keep [] w w1) (row : Option Nat) : w.grownBy w1 row := ⟨h.os, h.tape, h.output, h.size, fun k hk _ => h.block k hk (by simp)⟩
theorem owns {base : Nat} {e : TypeId} {size n : Nat} {v : Value} {xs : List Value} (h : Keep S w w1) (ho : w.ownsRow base e size v n xs) (hs : ∀ k, v.ownBlock = some k → k ∉ S) : w1.ownsRow base e size v n xs := by
  refine ⟨ho.1, ?_⟩
  rcases ho.2 with hn | ⟨g, cap, cur, rfl, hb, hgg, rest⟩
  · exact .inl hn
  · exact .inr ⟨g, cap, cur, rfl, hb, h.heap hgg (hs g rfl), rest⟩
end Keep

/-- A lower base serves. -/
theorem owns_base {w : World} {base base' : Nat} {e : TypeId} {size n : Nat} {v : Value} {xs : List Value} (ho : w.ownsRow base e size v n xs) (h : base' ≤ base) : w.ownsRow base' e size v n xs := by
  refine ⟨ho.1, ?_⟩
  rcases ho.2 with hn | ⟨g, cap, cur, rfl, hb, rest⟩
  · exact .inl hn
  · exact .inr ⟨g, cap, cur, rfl, Nat.le_trans h hb, rest⟩

theorem heap_lt {w : World} {b : Nat} {o : Obj} (h : w.heap[b]? = some o) : b < w.heap.size := (Array.getElem?_eq_some_iff.1 h).1

theorem heap_putObj_same {w : World} {r : Nat} (o : Obj) (h : r < w.heap.size) : (w.putObj r o).heap[r]? = some o := by
  show (w.heap.setIfInBounds r o)[r]? = some o
  simp [h]
theorem heap_putObj_other {w : World} {r k : Nat} (o : Obj) (h : k ≠ r) : (w.putObj r o).heap[k]? = w.heap[k]? := by
  show (w.heap.setIfInBounds r o)[k]? = _
  rw [Array.getElem?_setIfInBounds_ne (Ne.symm h)]

/-- The cells of a block just laid, as an append reads them. -/
theorem news_alloc (W : World) (cs : List Value) (e : TypeId) (j : Nat) (u : Value) (h : cs[j]? = some u) : (W.alloc (.cells cs.toArray e)).cell? ((⟨W.heap.size, 0, none⟩ : Addr).add j) = some u := by
  have hadd : (⟨W.heap.size, 0, none⟩ : Addr).add j = ⟨W.heap.size, j, none⟩ := by unfold Addr.add; split <;> simp_all
  rw [hadd, cell_of_row _ _ j cs.toArray e (0, 0) (heap_alloc_new W _)]
  simpa using h

/-- What a row of its own that was grown by an append, and a store into another block, leave. -/
theorem grown_heap {W W1 : World} {v : Value} (hg : W.grownBy W1 v.ownBlock) {b : Nat} {o : Obj} (ho : W.heap[b]? = some o) (hne : v.ownBlock ≠ some b) : W1.heap[b]? = some o :=
  (hg.block b (heap_lt ho) (fun e => hne e.symm)).trans ho
theorem own_ne {w : World} {base : Nat} {e : TypeId} {size n : Nat} {v : Value} {xs : List Value} (ho : w.ownsRow base e size v n xs) {b : Nat} (h : b < base) : v.ownBlock ≠ some b := by
  intro hv
  have := (ho.lt b hv).1
  omega

theorem nat_beq_zero (k : Nat) : ((k : Int) == 0) = (k == 0) := by rw [Bool.eq_iff_iff, beq_iff_eq, beq_iff_eq]; omega

theorem heap_at (W : World) (o : Obj) (j : Nat) (h : j = W.heap.size) : (W.alloc o).heap[j]? = some o := by subst h; exact heap_alloc_new W o

theorem past {W : World} {o x : Obj} {j : Nat} (h : W.heap[j]? = some x) : (W.alloc o).heap[j]? = some x := (Below.heap_alloc W o j (heap_lt h)).trans h

theorem own_cap {w : World} {base : Nat} {e : TypeId} {size n c : Nat} {A : Option Addr} {xs : List Value} (h : w.ownsRow base e size (.slice A n c) n xs) : n ≤ c := by
  rcases h.2 with ⟨h1, h2⟩ | ⟨g, cap, cur, h1, _, _, h3, _⟩
  · cases h1; omega
  · cases h1; exact h3
/-- The begin of a row. -/
theorem own_take {w : World} {base : Nat} {e : TypeId} {size n c g : Nat} {xs : List Value} (h : w.ownsRow base e size (.slice (some ⟨g, 0, none⟩) n c) n xs) {m : Nat} (hm : m ≤ n) :
    w.ownsRow base e size (.slice (some ⟨g, 0, none⟩) m c) m (xs.take (m * size)) := by
  have hle := Nat.mul_le_mul_right size hm
  refine ⟨by rw [List.length_take, h.1]; omega, ?_⟩
  rcases h.2 with ⟨h1, _⟩ | ⟨g', cap, cur, h1, hb, hg, hnc, hcm, hcs, ht⟩
  · cases h1
  · cases h1
    exact .inr ⟨g, c, cur, rfl, hb, hg, by omega, hcm, hcs, by rw [← ht, List.take_take, Nat.min_eq_left hle]⟩

end Go.Proofs.Ytkhggpopohkjfaa
