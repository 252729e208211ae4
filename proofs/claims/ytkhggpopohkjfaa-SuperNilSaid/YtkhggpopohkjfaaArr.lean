/- Operations on whole arrays of cells (a sector, a pending write): run without laying the cells open. No condition but what each names. -/
import Derived.Test.YtkhggpopohkjfaaBase
import Derived.Test.YtkhggpopohkjfaaInfo
import Derived.Test.YtkhggpopohkjfaaDiskM
import Derived.Deep.MidRow
import Derived.Laws.CopyRow
import Derived.Laws.CopyOwn
namespace Go.Proofs.Ytkhggpopohkjfaa
open Go.RowKit Go.Proofs Go.Lib
set_option linter.unusedVariables false
set_option linter.unusedSimpArgs false
set_option linter.unusedSectionVars false

/-- The noughts of a sector, of a pending write. -/
def z145 : Array Value := Array.replicate 128 (.int .u8 0)
def z147 : Array Value := (Array.replicate 128 (.int .u8 0)).push (.int .i64 0)
theorem info145 : (Try.prog.info? 145).map (fun i => (i.zero, i.size, i.bytes)) = some (some (.agg z145), 128, 128) := by kernel_rfl
theorem info147 : (Try.prog.info? 147).map (fun i => (i.zero, i.size, i.bytes)) = some (some (.agg z147), 129, 136) := by kernel_rfl
theorem size145 : (Try.prog.info? 145).map (·.size) = some 128 := by kernel_rfl
theorem size147 : (Try.prog.info? 147).map (·.size) = some 129 := by kernel_rfl

/-- The cells of a sector, of a pending write, as arrays; opaque to the walk. -/
def secA (s : ByteArray) : Array Value := (strCells s).toArray
def wrA (i : Int) (s : ByteArray) : Array Value := (strCells s ++ [Value.int .i64 i]).toArray
theorem secA_size {s : ByteArray} (h : s.size = 128) : (secA s).size = 128 := by simp [secA, strCells_length, h]
theorem wrA_size {i : Int} {s : ByteArray} (h : s.size = 128) : (wrA i s).size = 129 := by simp [wrA, strCells_length, h]
theorem strCells_one (s : ByteArray) : ∀ v ∈ strCells s, v.oneCell' = true := by
  intro v hv
  simp only [strCells, List.mem_map] at hv
  obtain ⟨b, _, rfl⟩ := hv
  rfl
theorem wr_one (i : Int) (s : ByteArray) : ∀ v ∈ strCells s ++ [Value.int .i64 i], v.oneCell' = true := by
  intro v hv
  rcases List.mem_append.1 hv with h | h
  · exact strCells_one s v h
  · rw [List.mem_singleton.1 h]; rfl
theorem zero145 : z145 = secA (zerosB 128) := by
  unfold secA z145
  rw [strCells_zerosB]
  rfl
theorem zero147 : z147 = wrA 0 (zerosB 128) := by
  unfold wrA z147
  rw [strCells_zerosB]
  apply Array.ext'
  rw [Array.toList_push, Array.toList_replicate]

section
variable {P : Program} {w : World} {ops : Array Oper} {rest : List Oper} {o : Oper} {a : Act} {Q : Exit → Act → World → Prop} {K : Act → World → Prop}

/-- A part of a block that is known, read as a whole. -/
theorem range_of_row {b : Nat} {C : List Value} {t : TypeId} {fr : Nat × Nat} (hb : w.heap[b]? = some (.cells C.toArray t fr)) (off : Nat) (cs : List Value) (h : ∀ j v, cs[j]? = some v → C[off + j]? = some v) : w.rangeAt b off cs := fun j v hv => by
  rw [cell_of_row w b (off + j) C.toArray t fr hb]
  simpa using h j v hv

/-- A variable of a large type. -/
theorem wp_alloc_big (t : TypeId) (ho : o.op = .alloc t) (i : TypeInfo) (cs : Array Value) (hi : P.info? t = some i) (hz : i.zero = some (.agg cs))
    (h : K (a.put o.dst (.pointer (some ⟨w.heap.size, 0, none⟩))) (w.alloc (.cells cs t))) : o.wp P a w K Q := by
  unfold Oper.wp execOp
  simp only [ho]
  have : (Instr.alloc t true (.tuple #[])).run P w = .ok (.pointer (some ⟨w.heap.size, 0, none⟩)) (w.alloc (.cells cs t)) := by
    simp [Instr.alloc, zeroValue, typeInfo, hi, hz, newVar, newRow, newObj, Value.cells]
    rfl
  simp only [Sem.run_bind, Sem.run_pure, this, Result.andThen_ok]
  exact h
theorem wpList_alloc_big (hgd : o.guard = none) (t : TypeId) (ho : o.op = .alloc t) (i : TypeInfo) (cs : Array Value) (hi : P.info? t = some i) (hz : i.zero = some (.agg cs))
    (h : wpList P ops Q rest (a.put o.dst (.pointer (some ⟨w.heap.size, 0, none⟩))) (w.alloc (.cells cs t))) : wpList P ops Q (o :: rest) a w :=
  wpList_plain hgd fun _ hK => wp_alloc_big t ho i cs hi hz (hK _ _ h)

/-- A store over cells of a block that is known. -/
theorem wp_store_at (t : TypeId) (x y : Operand) (ho : o.op = .store t x y) (b off : Nat) (cs : List Value) (hx : a.eval x = .pointer (some ⟨b, off, none⟩)) (hy : a.eval y = .agg cs.toArray)
    (C : List Value) (bt : TypeId) (hb : w.heap[b]? = some (.cells C.toArray bt)) (hfit : off + cs.length ≤ C.length) (hi : (P.info? t).map (·.size) = some cs.length) (h1 : ∀ v ∈ cs, v.oneCell' = true)
    (h : K (a.put o.dst undef) (w.setRow b (splice C off cs).toArray)) : o.wp P a w K Q := by
  have hst := run_storeCells_at P b off bt cs 0 C.toArray w hb (by simpa using hfit) h1
  unfold Oper.wp execOp
  simp only [ho]
  have : (Instr.storeAt t (.pointer (some ⟨b, off, none⟩)) (.agg cs.toArray)).run P w = .ok () (w.setRow b (splice C off cs).toArray) := by
    cases hq : P.info? t with
    | none => simp [hq] at hi
    | some i =>
      simp [hq] at hi
      simp [Instr.storeAt, Instr.sureAddr, storeVar, sizeOf, typeInfo, hq, hi, Value.cells, hst, splice]
  simp only [hx, hy, Sem.run_bind, this, Result.andThen_ok]
  exact h
theorem wpList_store_at (hgd : o.guard = none) (t : TypeId) (x y : Operand) (ho : o.op = .store t x y) (b off : Nat) (cs : List Value) (hx : a.eval x = .pointer (some ⟨b, off, none⟩)) (hy : a.eval y = .agg cs.toArray)
    (C : List Value) (bt : TypeId) (hb : w.heap[b]? = some (.cells C.toArray bt)) (hfit : off + cs.length ≤ C.length) (hi : (P.info? t).map (·.size) = some cs.length) (h1 : ∀ v ∈ cs, v.oneCell' = true)
    (h : wpList P ops Q rest (a.put o.dst undef) (w.setRow b (splice C off cs).toArray)) : wpList P ops Q (o :: rest) a w :=
  wpList_plain hgd fun _ hK => wp_store_at t x y ho b off cs hx hy C bt hb hfit hi h1 (hK _ _ h)
theorem setRow_same {b : Nat} {C : Array Value} {t : TypeId} (hb : w.heap[b]? = some (.cells C t)) (C' : Array Value) : (w.setRow b C').heap[b]? = some (.cells C' t) := setRow_heap w b C C' t _ hb
theorem splice_all {C cs : List Value} (h : cs.length = C.length) : splice C 0 cs = cs := by
  unfold splice
  rw [List.take_zero, List.nil_append, Nat.zero_add, h, List.drop_length, List.append_nil]

/-- 'fill' by one part that is the whole. -/
theorem foldl_set : ∀ (l : List Value) (k : Nat) (A : Array Value), k + l.length ≤ A.size →
    (l.zipIdx k).foldl (fun cs (p : Value × Nat) => cs.setIfInBounds (0 + p.2) p.1) A = (A.toList.take k ++ (l ++ A.toList.drop (k + l.length))).toArray
  | [], k, A, _ => by simp
  | v :: l, k, A, h => by
    rw [List.zipIdx_cons, List.foldl_cons]
    simp only [Nat.zero_add]
    have ih := foldl_set l (k + 1) (A.setIfInBounds k v) (by simp at h ⊢; omega)
    simp only [Nat.zero_add] at ih
    rw [ih]
    congr 1
    simp only [List.length_cons] at h
    have hk : k < A.toList.length := by simp; omega
    rw [Array.toList_setIfInBounds]
    have e1 : (A.toList.set k v).take (k + 1) = A.toList.take k ++ [v] := by
      rw [List.take_add_one, List.take_set_of_le (Nat.le_refl k), List.getElem?_set_self hk]
      rfl
    have e2 : (A.toList.set k v).drop (k + 1 + l.length) = A.toList.drop (k + 1 + l.length) := by
      rw [List.drop_set_of_lt (by omega)]
    rw [e1, e2, List.append_assoc, List.length_cons, show k + 1 + l.length = k + (l.length + 1) by omega]
    rfl
theorem fill_whole (place : Nat → Option (Nat × Nat)) (z : Array Value) (i : Nat) (cs : Array Value) (hp : place i = some (0, z.size)) (h : cs.size = z.size) : Instr.fill place z [(i, .agg cs)] = some cs := by
  unfold Instr.fill
  rw [hp]
  have hc : (Value.agg cs).cells = cs := rfl
  simp only [hc, h, ne_eq, not_true_eq_false, Nat.zero_add, gt_iff_lt, Nat.lt_irrefl, or_self, if_false, false_or]
  unfold Instr.fill
  congr 1
  have := foldl_set cs.toList 0 z (by simp; omega)
  simp only [Nat.zero_add, List.take_zero, List.nil_append] at this
  rw [← Array.foldl_toList, Array.toList_zipIdx]
  rw [this]
  rw [List.drop_of_length_le (by simp; omega)]
  simp
/-- []T{x} of a large x. -/
theorem wp_buildSlice1 (t e : TypeId) (x : Operand) (ho : o.op = .buildSlice t 1 #[(0, x)]) (ht : P.underlying t = some (.slice e)) (i : TypeInfo) (z : Array Value) (hi : P.info? e = some i) (hz : i.zero = some (.agg z)) (hsz : i.size = z.size) (h0 : 0 < z.size) (h1 : z.size ≤ 16777216)
    (cs : Array Value) (hx : a.eval x = .agg cs) (hcs : cs.size = z.size) (h : K (a.put o.dst (.slice (some ⟨w.heap.size, 0, none⟩) 1 1)) (w.alloc (.cells cs e))) : o.wp P a w K Q := by
  have hf := fill_whole (fun i => some (i * z.size, z.size)) ((Array.range z.size).map (fun j => z[j % z.size]!)) 0 cs (by simp) (by simpa using hcs)
  unfold Oper.wp execOp
  simp only [ho]
  have : (Instr.buildSlice t 1 #[(0, .agg cs)]).run P w = .ok (.slice (some ⟨w.heap.size, 0, none⟩) 1 1) (w.alloc (.cells cs e)) := by
    have hne : ¬ z.size = 0 := by omega
    have hle : ¬ (16777216 < z.size) := by omega
    simp [Instr.buildSlice, run_underlying ht, sizeOf, zeroValue, typeInfo, hi, hz, hsz, newRow, newObj, Value.cells, hne, hle, hf]
    rfl
  have hm : (#[(0, x)].map fun (p : Nat × Operand) => (p.1, a.eval p.2)) = #[(0, Value.agg cs)] := by simp [hx]
  simp only [hm, Sem.run_bind, Sem.run_pure, this, Result.andThen_ok]
  exact h
end
end Go.Proofs.Ytkhggpopohkjfaa
