/- slices.Backward over pending writes: the iterator hands them to yield, the last one first. Premise: they lie there. -/
import Derived.Test.YtkhggpopohkjfaaKeep
import Derived.RangeFuncBox
import Derived.OwnWalkIn
import Derived.TacticsInMore
import Derived.LoopNIn
import Derived.LoopIn
import Derived.WalkLawsBesides
namespace Go.Proofs.Ytkhggpopohkjfaa
open Go.RowKit Go.Proofs Go.Lib
set_option linter.unusedSectionVars false
set_option linter.unusedVariables false
set_option linter.unusedSimpArgs false
attribute [local go_sem] Oper.semAt_some wide_fn_eq

section
variable {F : Fence} {n : Nat} {P : Program} {w : World} {ops : Array Oper} {rest : List Oper} {o : Oper} {a : Act} {Q : Exit → Act → World → Prop}
/-- Loads, stores, variables of large types, in company. -/
theorem wpListIn_load_mid (hgd : o.guard = none) (ty : TypeId) (x : Operand) (ho : o.op = .load ty x) (b off : Nat) (hx : a.eval x = .pointer (some ⟨b, off, none⟩)) (cs : List Value) (d : TypeDesc) (hc : w.rangeAt b off cs)
    (hu : P.underlying ty = some d) (hd : d.isRow = true) (hi : (P.info? ty).map (·.size) = some cs.length)
    (h : wpListIn F n P ops Q rest (a.put o.dst (.agg cs.toArray)) w) : wpListIn F n P ops Q (o :: rest) a w := by
  refine wpListIn_plain hgd fun K hK => ?_
  have hrun := run_loadAt_mid (P := P) w b off ty cs d hc hu hd hi
  unfold Oper.wpIn
  refine ⟨?_, ?_⟩
  · simp [Oper.about, ho]
  · rw [Oper.semAt_plain F _ _ (by rw [ho]; intro c hc'; cases hc')]
    simp only [execOp, ho, hx, Sem.run_bind, Sem.run_pure, hrun, Result.andThen_ok]
    exact hK _ _ h
theorem wpListIn_alloc_big (hgd : o.guard = none) (t : TypeId) (ho : o.op = .alloc t) (i : TypeInfo) (cs : Array Value) (hi : P.info? t = some i) (hz : i.zero = some (.agg cs))
    (h : wpListIn F n P ops Q rest (a.put o.dst (.pointer (some ⟨w.heap.size, 0, none⟩))) (w.alloc (.cells cs t))) : wpListIn F n P ops Q (o :: rest) a w := by
  refine wpListIn_plain hgd fun K hK => ?_
  have hrun : (Instr.alloc t true (.tuple #[])).run P w = .ok (.pointer (some ⟨w.heap.size, 0, none⟩)) (w.alloc (.cells cs t)) := by
    simp [Instr.alloc, zeroValue, typeInfo, hi, hz, newVar, newRow, newObj, Value.cells]
    rfl
  unfold Oper.wpIn
  refine ⟨?_, ?_⟩
  · simp [Oper.about, ho]
  · rw [Oper.semAt_plain F _ _ (by rw [ho]; intro c hc'; cases hc')]
    simp only [execOp, ho, Sem.run_bind, Sem.run_pure, hrun, Result.andThen_ok]
    exact hK _ _ h
theorem wpListIn_store_at (hgd : o.guard = none) (t : TypeId) (x y : Operand) (ho : o.op = .store t x y) (b off : Nat) (cs : List Value) (hx : a.eval x = .pointer (some ⟨b, off, none⟩)) (hy : a.eval y = .agg cs.toArray)
    (C : List Value) (bt : TypeId) (hb : w.heap[b]? = some (.cells C.toArray bt)) (hfit : off + cs.length ≤ C.length) (hi : (P.info? t).map (·.size) = some cs.length) (h1 : ∀ v ∈ cs, v.oneCell' = true)
    (h : wpListIn F n P ops Q rest (a.put o.dst undef) (w.setRow b (splice C off cs).toArray)) : wpListIn F n P ops Q (o :: rest) a w := by
  refine wpListIn_plain hgd fun K hK => ?_
  have hst := run_storeCells_at P b off bt cs 0 C.toArray w hb (by simpa using hfit) h1
  have hrun : (Instr.storeAt t (.pointer (some ⟨b, off, none⟩)) (.agg cs.toArray)).run P w = .ok () (w.setRow b (splice C off cs).toArray) := by
    cases hq : P.info? t with
    | none => simp [hq] at hi
    | some i =>
      simp [hq] at hi
      simp [Instr.storeAt, Instr.sureAddr, storeVar, sizeOf, typeInfo, hq, hi, Value.cells, hst, splice]
  unfold Oper.wpIn
  refine ⟨?_, ?_⟩
  · simp [Oper.about, ho]
  · rw [Oper.semAt_plain F _ _ (by rw [ho]; intro c hc'; cases hc')]
    simp only [execOp, ho, hx, hy, Sem.run_bind, hrun, Result.andThen_ok]
    exact hK _ _ h
end

set_option maxRecDepth 100000 in
set_option maxHeartbeats 1000000 in
theorem back1_in (n l Bc : Nat) (hn1 : 1 ≤ n) (L : List (Nat × ByteArray)) (A : Option Addr) (cp : Nat) (hcp : L.length ≤ cp) (hcm : cp ≤ maxLen) (hfull : ∀ p ∈ L, p.2.size = 128) (J : Nat → World → Prop) (Jx : World → Prop)
    (hJ : ∀ k W, J k W → W.cell? ⟨Bc, 0, none⟩ = some (.slice A L.length cp) ∧ W.ownsRow 0 147 129 (.slice A L.length cp) L.length (pendCells L))
    (hY : ∀ k (hk : k < L.length) W, J (k + 1) W → YieldAt Fence.wide (n - 1) Try.prog l #[.int .i64 k, .agg (wrCells L[k]).toArray] W fun e W' => (e = .returned (.bool true) ∧ J k W') ∨ (e = .returned (.bool false) ∧ Jx W'))
    (W : World) (h0 : J L.length W) :
    CallsIn Fence.wide n Try.prog 128 #[.func (.yield l) #[] #[], .pointer (some ⟨Bc, 0, none⟩)] W fun e W' => (∃ v, e = .returned v) ∧ (J 0 W' ∨ Jx W') := by
  have hml : L.length ≤ 9223372036854775807 := by unfold maxLen at hcm; omega
  refine callsIn_of_wp Try.func128 rfl (wide_fn _) ?_
  simp only [Try.ntmps128, List.size_toArray, List.length_cons, List.length_nil, Nat.reduceAdd, Nat.reduceSub, Array.replicate_succ, Array.replicate_zero, List.push_toArray, List.append_toArray, List.nil_append, List.cons_append]
  have hc0 := (hJ _ W h0).1
  gi_wp2
  gi_loopw [3] (fun i wr => ∃ k : Nat, k ≤ L.length ∧ i = .int .i64 ((k : Int) - 1) ∧ J k wr) (fun i _ => ((intOf i) + 1).toNat)
  case atStart => exact ⟨L.length, Nat.le_refl _, rfl, h0⟩
  case round =>
    obtain ⟨k, hk, rfl, hJk⟩ := hrel
    rcases Nat.eq_zero_or_pos k with rfl | hpos
    · gi_wp2
      go_end0
      exact ⟨⟨_, rfl⟩, .inl hJk⟩
    · obtain ⟨m, rfl⟩ : ∃ m, k = m + 1 := ⟨k - 1, by omega⟩
      obtain ⟨hc, hrow⟩ := hJ _ _ hJk
      have hm : m < L.length := by omega
      obtain ⟨fn, tmps, assign, body, hy, hR⟩ := hY m hm wr hJk
      have hml2 : L.length ≤ cp := hcp
      cases A with
      | none =>
        exfalso
        rcases hrow.2 with ⟨h1, h2⟩ | ⟨g', cap', cur, h1, _⟩
        · omega
        · cases h1
      | some ad =>
        obtain ⟨P, rfl⟩ : ∃ P, ad = ⟨P, 0, none⟩ := by
          rcases hrow.2 with ⟨h1, h2⟩ | ⟨g', cap', cur, h1, _⟩
          · cases h1
          · cases h1; exact ⟨_, rfl⟩
        have hwl : (wrCells L[m]).length = 129 := wrCells_length (hfull _ (List.getElem_mem hm))
        have hrg : wr.rangeAt P (m * 129) (wrCells L[m]) := fun j v hv => by
          have hj : j < 129 := by rw [← hwl]; exact (List.getElem?_eq_some_iff.1 hv).1
          rw [hrow.cellAt (m * 129 + j) (by omega), pendCells_get L m j hm hfull hj, hv]
        have hm1 : ((m + 1 : Nat) : Int) - 1 = (m : Int) := by omega
        rw [hm1]
        have HRG := Lib.hid (And.intro hrg hwl)
        clear hrg hwl hm1 hrow hJk
        gi_wp2_with (refine wpListIn_load_mid rfl 147 _ rfl P (m * 129) rfl (wrCells L[m]) _ HRG.out.1 Try.underlying147 rfl (by rw [HRG.out.2]; exact size147) ?_)
        refine hR.mono ?_
        rintro e W1 (⟨rfl, hM⟩ | ⟨rfl, hx⟩)
        · gi_wp2
          exact ⟨⟨m, by omega, rfl, hM⟩, by simp [intOf]⟩
        · gi_wp2
          refine bodyPost_ret (results_none rfl _ _ _) rfl ?_
          exact ⟨⟨_, rfl⟩, .inr hx⟩

theorem backward_any (A : Option Addr) (n c : Nat) (w : World) :
    Calls Try.prog 94 #[.slice A n c] w fun e w' => e = .returned (.func (.func 128) #[] #[.pointer (some ⟨w.heap.size, 0, none⟩)]) ∧ w.alloc (.cells #[.slice A n c] 88) = w' := by
  go_enter Try.func94, Try.ntmps94
  go_wp2
  go_ret
  exact ⟨rfl, rfl⟩
theorem enters128 : ∀ args w, (callFunc 128 args).run Try.prog w = .ok (.enter 128 args) w := enters_fn Try.func128 (by kernel_rfl) rfl
end Go.Proofs.Ytkhggpopohkjfaa
