/- '==' and '!=' of slots, records and supers: one Bool each. No condition. -/
import Derived.Test.YtkhggpopohkjfaaInfo
import Derived.Laws.StructEq
import Derived.WalkLawsBesides
namespace Go.Proofs.Ytkhggpopohkjfaa
open Go.RowKit Go.Proofs

section
variable {P : Program} {d : Nat} {xs ys : Array Value} {f : Field} {fs : List Field} {a b : Value} {r s : Bool} {w : World}
theorem fields_nil : (Op.eqFields d xs ys []).run P w = .ok true w := by simp [Op.eqFields]
theorem fields_cons (hn : (f.name == "_") = false) (ha : (part f.type xs f.offset).run P w = .ok a w) (hb : (part f.type ys f.offset).run P w = .ok b w)
    (he : (Op.equalIn d f.type a b).run P w = .ok r w) (hr : (Op.eqFields d xs ys fs).run P w = .ok s w) : (Op.eqFields d xs ys (f :: fs)).run P w = .ok (r && s) w := by
  have hn' : f.name ≠ "_" := by simpa using hn
  rw [Op.eqFields]
  simp only [if_pos hn', Sem.run_bind, ha, hb, he, Result.andThen_ok]
  cases r
  · simp
  · simpa using hr
theorem equal_of_fields {t : TypeId} {fs : Array Field} (hu : P.underlying t = some (.struct fs)) (hp : P.stoodInHeld t = false) (h : (Op.eqFields d xs ys fs.toList).run P w = .ok r w) : (Op.equalIn (d + 1) t (.agg xs) (.agg ys)).run P w = .ok r w := by
  have hf : P.fieldsOf t = fs := by simp [Program.fieldsOf, hu]
  rw [run_equalIn_struct (P := P) w d t xs ys (by rw [hf]; exact hu) hp, hf]
  exact h
end

theorem held41 : Try.prog.stoodInHeld 41 = false := by kernel_rfl
theorem held37 : Try.prog.stoodInHeld 37 = false := by kernel_rfl
theorem held100 : Try.prog.stoodInHeld 100 = false := by kernel_rfl
theorem guard41 : Try.prog.eqGuardType Try.prog.depth 41 = false := by kernel_rfl
theorem guard37 : Try.prog.eqGuardType Try.prog.depth 37 = false := by kernel_rfl
theorem guard100 : Try.prog.eqGuardType Try.prog.depth 100 = false := by kernel_rfl

theorem part3 (xs : Array Value) (i : Nat) (v : Value) (w : World) (h : xs[i]? = some v) : (part 3 xs i).run Try.prog w = .ok v w := by
  simp [part, isAgg, run_underlying Try.underlying3, h, Sem.run_bind, Result.andThen]
theorem part4 (xs : Array Value) (i : Nat) (v : Value) (w : World) (h : xs[i]? = some v) : (part 4 xs i).run Try.prog w = .ok v w := by
  simp [part, isAgg, run_underlying Try.underlying4, h, Sem.run_bind, Result.andThen]
theorem part9 (xs : Array Value) (i : Nat) (v : Value) (w : World) (h : xs[i]? = some v) : (part 9 xs i).run Try.prog w = .ok v w := by
  simp [part, isAgg, run_underlying Try.underlying9, h, Sem.run_bind, Result.andThen]
theorem eqInt (d : Nat) (a b : Int) (w : World) : (Op.equalIn (d + 1) 3 (.int .i64 a) (.int .i64 b)).run Try.prog w = .ok (a == b) w := run_equalIn_int w d 3 .i64 .i64 a b Try.underlying3
theorem eqBool (d : Nat) (a b : Bool) (w : World) : (Op.equalIn (d + 1) 4 (.bool a) (.bool b)).run Try.prog w = .ok (a == b) w := run_equalIn_bool' w d 4 a b Try.underlying4
theorem eqStr (d : Nat) (a b : ByteArray) (w : World) : (Op.equalIn (d + 1) 9 (.string a) (.string b)).run Try.prog w = .ok (a == b) w := by
  rw [run_equalIn_string w d 9 a b Try.underlying9, beq_toListBytes]

/-- Are two slots one? -/
def slotEq (a0 a1 : Int) (a2 a3 : Bool) (a4 : ByteArray) (b0 b1 : Int) (b2 b3 : Bool) (b4 : ByteArray) : Bool :=
  (a0 == b0 && (a1 == b1 && (a2 == b2 && (a3 == b3 && (a4 == b4 && true)))))
theorem equal41 (a0 a1 : Int) (a2 a3 : Bool) (a4 : ByteArray) (b0 b1 : Int) (b2 b3 : Bool) (b4 : ByteArray) (w : World) :
    (Op.equalIn 10000 41 (.agg #[.int .i64 a0, .int .i64 a1, .bool a2, .bool a3, .string a4]) (.agg #[.int .i64 b0, .int .i64 b1, .bool b2, .bool b3, .string b4])).run Try.prog w =
      .ok (slotEq a0 a1 a2 a3 a4 b0 b1 b2 b3 b4) w :=
  equal_of_fields Try.underlying41 held41
    (fields_cons rfl (part3 _ _ _ _ rfl) (part3 _ _ _ _ rfl) (eqInt _ _ _ _)
    (fields_cons rfl (part3 _ _ _ _ rfl) (part3 _ _ _ _ rfl) (eqInt _ _ _ _)
    (fields_cons rfl (part4 _ _ _ _ rfl) (part4 _ _ _ _ rfl) (eqBool _ _ _ _)
    (fields_cons rfl (part4 _ _ _ _ rfl) (part4 _ _ _ _ rfl) (eqBool _ _ _ _)
    (fields_cons rfl (part9 _ _ _ _ rfl) (part9 _ _ _ _ rfl) (eqStr _ _ _ _) fields_nil)))))
theorem eql41 (a0 a1 : Int) (a2 a3 : Bool) (a4 : ByteArray) (b0 b1 : Int) (b2 b3 : Bool) (b4 : ByteArray) (w : World) :
    (binOp .eql 41 (.agg #[.int .i64 a0, .int .i64 a1, .bool a2, .bool a3, .string a4]) (.agg #[.int .i64 b0, .int .i64 b1, .bool b2, .bool b3, .string b4])).run Try.prog w =
      .ok (.bool (slotEq a0 a1 a2 a3 a4 b0 b1 b2 b3 b4)) w := by
  rw [run_eql_struct, equal41]; rfl
theorem neq41 (a0 a1 : Int) (a2 a3 : Bool) (a4 : ByteArray) (b0 b1 : Int) (b2 b3 : Bool) (b4 : ByteArray) (w : World) :
    (binOp .neq 41 (.agg #[.int .i64 a0, .int .i64 a1, .bool a2, .bool a3, .string a4]) (.agg #[.int .i64 b0, .int .i64 b1, .bool b2, .bool b3, .string b4])).run Try.prog w =
      .ok (.bool (!slotEq a0 a1 a2 a3 a4 b0 b1 b2 b3 b4)) w := by
  rw [run_neq_struct, equal41]; rfl

/-- Are two records one? -/
def recEq (a0 a1 : Int) (a2 : ByteArray) (b0 b1 : Int) (b2 : ByteArray) : Bool := (a0 == b0 && (a1 == b1 && (a2 == b2 && true)))
theorem equal37 (a0 a1 : Int) (a2 : ByteArray) (b0 b1 : Int) (b2 : ByteArray) (w : World) :
    (Op.equalIn 10000 37 (.agg #[.int .i64 a0, .int .i64 a1, .string a2]) (.agg #[.int .i64 b0, .int .i64 b1, .string b2])).run Try.prog w = .ok (recEq a0 a1 a2 b0 b1 b2) w :=
  equal_of_fields Try.underlying37 held37
    (fields_cons rfl (part3 _ _ _ _ rfl) (part3 _ _ _ _ rfl) (eqInt _ _ _ _)
    (fields_cons rfl (part3 _ _ _ _ rfl) (part3 _ _ _ _ rfl) (eqInt _ _ _ _)
    (fields_cons rfl (part9 _ _ _ _ rfl) (part9 _ _ _ _ rfl) (eqStr _ _ _ _) fields_nil)))
theorem eql37 (a0 a1 : Int) (a2 : ByteArray) (b0 b1 : Int) (b2 : ByteArray) (w : World) :
    (binOp .eql 37 (.agg #[.int .i64 a0, .int .i64 a1, .string a2]) (.agg #[.int .i64 b0, .int .i64 b1, .string b2])).run Try.prog w = .ok (.bool (recEq a0 a1 a2 b0 b1 b2)) w := by
  rw [run_eql_struct, equal37]; rfl

/-- Are two supers one? -/
def supEq (a0 a1 a2 a3 a4 a5 b0 b1 b2 b3 b4 b5 : Int) : Bool := (a0 == b0 && (a1 == b1 && (a2 == b2 && (a3 == b3 && (a4 == b4 && (a5 == b5 && true))))))
theorem equal100 (a0 a1 a2 a3 a4 a5 b0 b1 b2 b3 b4 b5 : Int) (w : World) :
    (Op.equalIn 10000 100 (.agg #[.int .i64 a0, .int .i64 a1, .int .i64 a2, .int .i64 a3, .int .i64 a4, .int .i64 a5]) (.agg #[.int .i64 b0, .int .i64 b1, .int .i64 b2, .int .i64 b3, .int .i64 b4, .int .i64 b5])).run Try.prog w =
      .ok (supEq a0 a1 a2 a3 a4 a5 b0 b1 b2 b3 b4 b5) w :=
  equal_of_fields Try.underlying100 held100
    (fields_cons rfl (part3 _ _ _ _ rfl) (part3 _ _ _ _ rfl) (eqInt _ _ _ _)
    (fields_cons rfl (part3 _ _ _ _ rfl) (part3 _ _ _ _ rfl) (eqInt _ _ _ _)
    (fields_cons rfl (part3 _ _ _ _ rfl) (part3 _ _ _ _ rfl) (eqInt _ _ _ _)
    (fields_cons rfl (part3 _ _ _ _ rfl) (part3 _ _ _ _ rfl) (eqInt _ _ _ _)
    (fields_cons rfl (part3 _ _ _ _ rfl) (part3 _ _ _ _ rfl) (eqInt _ _ _ _)
    (fields_cons rfl (part3 _ _ _ _ rfl) (part3 _ _ _ _ rfl) (eqInt _ _ _ _) fields_nil))))))
theorem eql100 (a0 a1 a2 a3 a4 a5 b0 b1 b2 b3 b4 b5 : Int) (w : World) :
    (binOp .eql 100 (.agg #[.int .i64 a0, .int .i64 a1, .int .i64 a2, .int .i64 a3, .int .i64 a4, .int .i64 a5]) (.agg #[.int .i64 b0, .int .i64 b1, .int .i64 b2, .int .i64 b3, .int .i64 b4, .int .i64 b5])).run Try.prog w =
      .ok (.bool (supEq a0 a1 a2 a3 a4 a5 b0 b1 b2 b3 b4 b5)) w := by
  rw [run_eql_struct, equal100]; rfl
theorem neq100 (a0 a1 a2 a3 a4 a5 b0 b1 b2 b3 b4 b5 : Int) (w : World) :
    (binOp .neq 100 (.agg #[.int .i64 a0, .int .i64 a1, .int .i64 a2, .int .i64 a3, .int .i64 a4, .int .i64 a5]) (.agg #[.int .i64 b0, .int .i64 b1, .int .i64 b2, .int .i64 b3, .int .i64 b4, .int .i64 b5])).run Try.prog w =
      .ok (.bool (!supEq a0 a1 a2 a3 a4 a5 b0 b1 b2 b3 b4 b5)) w := by
  rw [run_neq_struct, equal100]; rfl
end Go.Proofs.Ytkhggpopohkjfaa
