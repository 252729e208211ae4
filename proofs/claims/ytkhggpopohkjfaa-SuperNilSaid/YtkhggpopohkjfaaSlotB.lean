/- slot.Bytes: a slot's bytes. Premise: a string's size fits memory. -/
import Derived.Test.YtkhggpopohkjfaaPut
import Derived.Test.YtkhggpopohkjfaaSum
import Derived.Test.YtkhggpopohkjfaaCheck
import Derived.Test.YtkhggpopohkjfaaWZeros
import Derived.Deep.RegionHeld3
namespace Go.Proofs.Ytkhggpopohkjfaa
open Go.RowKit Go.Proofs Go.Lib

theorem or_i64_1 : bits .or .i64 0 1 = 1 := by decide
theorem or_i64_2 : bits .or .i64 0 2 = 2 := by decide
theorem or_i64_3 : bits .or .i64 1 2 = 3 := by decide

theorem flags_any (ep sq : Int) (f l : Bool) (d : ByteArray) (w : World) :
    Calls Try.prog 79 #[.agg #[.int .i64 ep, .int .i64 sq, .bool f, .bool l, .string d]] w fun e w' => e = .returned (.int .i64 (flagsN ⟨ep, sq, f, l, d⟩ : Nat)) ∧ w.alloc (.cells #[.int .i64 ep, .int .i64 sq, .bool f, .bool l, .string d] 41) = w' := by
  have h1 := or_i64_1
  have h2 := or_i64_2
  have h3 := or_i64_3
  cases f <;> cases l
  all_goals
    go_enter Try.func79, Try.ntmps79
    go_wp2
    go_ret
    exact ⟨rfl, rfl⟩

section
variable {P : Program} (w : World)
/-- append(v, s...) of a text, in a region that draws its order. -/
theorem step_append_str {ops : Array Oper} {o : Oper} {a : Act} {K : Act → World → Prop} {Q : Exit → Act → World → Prop} {E : Prop} (hgd : o.guard = none) (sl x : Operand) (t u : TypeId)
    (ho : o.op = .call { callee := .builtin .append, args := #[sl, x], argTypes := #[t, u] })
    (base : Nat) (e : TypeId) (i : TypeInfo) (ht : P.underlying t = some (.slice e)) (hu : P.underlying u = some .string) (hi : P.info? e = some i) (hz : i.zero = some (.int .u8 0))
    (hsize : i.size = 1) (hby : i.bytes = 1)
    (v : Value) (n : Nat) (xs : List Value) (hs : a.eval sl = v) (hown : w.ownsRow base e 1 v n xs) (s : ByteArray) (hx : a.eval x = .string s)
    (h63 : n + s.size ≤ maxLen) (hbytes : n + s.size ≤ 140737488355328) (hbase : base ≤ w.heap.size)
    (h : ∀ v' w', w'.ownsRow base e 1 v' (n + s.size) (xs ++ strCells s) → w.grownBy w' v.ownBlock → K (a.put o.dst v') w') : if Region.wanted o (yielded ops a.tmps) = true then Oper.wp P o a w K Q else E := by
  have hw : Region.wanted o (yielded ops a.tmps) = true := by simp [Region.wanted, hgd]
  rw [if_pos hw]
  obtain ⟨v', w', hr, h2, h3, h4⟩ := run_append_own_string (P := P) w base t u o.type e i ht hu hi hz hsize hby v n xs hown s h63 hbytes hbase
  unfold Oper.wp execOp
  simp only [ho, resolve, invoke, builtin, Sem.run_bind, Sem.run_pure, Result.andThen_ok, List.map_toArray, List.map_cons, List.map_nil, hs, hx, hr]
  exact h v' w' h2 h3
/-- append(v, make([]byte, m)...). -/
theorem wpList_append_zeros8 {ops : Array Oper} {rest : List Oper} {o : Oper} {a : Act} {Q : Exit → Act → World → Prop} (hgd : o.guard = none) (sl x : Operand) (t ti : TypeId)
    (ho : o.op = .call { callee := .builtin .append, args := #[sl, x], argTypes := #[t, ti] })
    (base : Nat) (e : TypeId) (i : TypeInfo) (ht : P.underlying t = some (.slice e)) (hti : P.underlying ti = some (.int .i64)) (hi : P.info? e = some i) (hz : i.zero = some (.int .u8 0))
    (hsize : i.size = 1) (hby : i.bytes = 1)
    (v : Value) (n : Nat) (xs : List Value) (hs : a.eval sl = v) (hown : w.ownsRow base e 1 v n xs) (m : Nat) (hx : a.eval x = .int .i64 m)
    (hbytes : n + m ≤ 140737488355328) (hbase : base ≤ w.heap.size)
    (h : ∀ v' w', w'.ownsRow base e 1 v' (n + m) (xs ++ strCells (zerosB m)) → w.grownBy w' v.ownBlock → wpList P ops Q rest (a.put o.dst v') w') : wpList P ops Q (o :: rest) a w := by
  refine wpList_plain hgd fun K hK => ?_
  have hzc : (Builtin.zeroCells (Value.int .u8 0).cells m).toList = strCells (zerosB m) := by
    rw [show Builtin.zeroCells (Value.int .u8 0).cells m = madeCells (Value.int .u8 0).cells (m * 1) by unfold Builtin.zeroCells madeCells; rfl]
    rw [strCells_zerosB, Nat.mul_one]
    exact toList_madeCells_one _ _
  obtain ⟨v', w', hr, h2, h3, h4⟩ := YtkhggpopohkjfaaW.PrintWords.run_append_zeros (P := P) w base t ti o.type e i (.int .u8 0) 1 1 ht hti hi hz hsize hby rfl (by decide) (by decide) v n xs hown .i64 m (by rw [hzc, strCells_zerosB]; intro u hu; rw [List.eq_of_mem_replicate hu]; rfl) (by omega) hbase
  rw [hzc] at h2
  unfold Oper.wp execOp
  simp only [ho, resolve, invoke, builtin, Sem.run_bind, Sem.run_pure, Result.andThen_ok, List.map_toArray, List.map_cons, List.map_nil, hs, hx, hr]
  exact hK _ _ (h v' w' h2 h3)
end
end Go.Proofs.Ytkhggpopohkjfaa
