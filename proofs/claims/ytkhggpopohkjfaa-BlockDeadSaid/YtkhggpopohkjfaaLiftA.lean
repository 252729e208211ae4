/- Calls that came in: opened. -/
import Derived.Test.YtkhggpopohkjfaaActsIn
import Derived.Test.YtkhggpopohkjfaaLiftT
namespace Go.Proofs.Ytkhggpopohkjfaa
open Go.ChangeShapes Go.WideShapes Go.ChangeAt Go.RowKit
theorem cells58 : Try.prog.cellsOf 58 = 4 := by kernel_rfl
theorem cells32 : Try.prog.cellsOf 32 = 1 := by kernel_rfl

theorem open_intsIn {H : Type} {enc : TypeId × Value → H} {W : World} {fuel base : Nat} {sp : Nat → Bool} {held : Bool} {cs : List Value} {x : DataW H × List MemPlace}
    (hf : DataW.trod enc Try.prog W base sp held fuel 32 cs = some x) :
    ∃ (A : Option Addr) (n cap : Nat) (zs : List Int), cs = [.slice A n cap] ∧ IntsIn W A n cap zs := by
  rcases open_ints Try.underlying32 Try.underlying3 cells3 hf with ⟨rfl, _⟩ | ⟨a, len, cap, zs, rfl, _, hl, hm, hz, _, hcell, _⟩
  · exact ⟨none, 0, 0, [], rfl, ⟨rfl, Nat.le_refl _, Nat.zero_le _, fun a ha => (by cases ha), fun _ => ⟨rfl, rfl⟩⟩⟩
  · have hzl : len ≤ zs.length := by
      rw [hz]
      split <;> omega
    refine ⟨some a, len, cap, zs.take len, rfl, ⟨by rw [List.length_take]; omega, hl, hm, fun a' ha i hi => ?_, fun ha => (by cases ha)⟩⟩
    cases ha
    rw [List.length_take] at hi
    rw [hcell i (by omega), List.getElem_take, List.getD_eq_getElem?_getD, List.getElem?_eq_getElem (by omega)]
    rfl

set_option maxRecDepth 100000 in
theorem open_actsIn {H : Type} {enc : TypeId × Value → H} {W : World} {b0 : Nat} {r : Reach} {base : Nat} {sp : Nat → Bool} {held : Bool} {v : Value} {d : DataW H} {ps : List MemPlace}
    (hval : Value.okWide Try.prog W r b0 50 v) (h : DataW.Trod enc Try.prog W base sp held 50 v d ps) :
    ∃ (A : Option Addr) (n cap : Nat) (l : List ActV), v = .slice A n cap ∧ ActsIn W A n cap l := by
  obtain ⟨A, n, cap, rfl⟩ := okWide_slice Try.underlying50 hval
  obtain ⟨fuel, hf⟩ := h
  rcases DataW.trod_slice Try.underlying50 hf with ⟨hcs, _⟩ | ⟨a, len, cap', elems, rest, m, _, hcs, hx, hb, hl, hm, hlen, hel, hsp, hns⟩
  · simp [Value.cells] at hcs
    obtain ⟨rfl, rfl, rfl⟩ := hcs
    exact ⟨none, 0, 0, [], rfl, ⟨rfl, Nat.le_refl _, Nat.zero_le _, fun x hx => (by cases hx), fun j hj => (by cases hj)⟩⟩
  · simp [Value.cells] at hcs
    obtain ⟨rfl, rfl, rfl⟩ := hcs
    have spot0 : 0 < n → a.spot = none := by
      intro h0
      obtain ⟨y, hy⟩ : ∃ y, elems[0]? = some y := ⟨elems[0]'(by omega), by simp [hlen, h0]⟩
      have hb' := hel 0 h0
      rw [hy, cells58, Option.bind_eq_some_iff] at hb'
      obtain ⟨cs', hcs', hy'⟩ := hb'
      obtain ⟨_, hcl, hcell⟩ := World.cells?_some hcs'
      have hc0 := hcell 0 (by omega)
      rw [List.getElem?_eq_getElem (by omega)] at hc0
      have := World.cell?_spot hc0
      simpa [Addr.add] using this
    have each : ∀ i, i < n → ∃ x : ActV, okAct W x ∧ ∃ b o, a = ⟨b, o, none⟩ ∧ W.rangeAt b (o + i * 4) [.int .i64 x.kind, .int .i64 x.i, .string x.s, .slice x.A x.n x.cap] := by
      intro i hi
      obtain ⟨y, hy⟩ : ∃ y, elems[i]? = some y := ⟨elems[i]'(by omega), by simp [hlen, hi]⟩
      have hb' := hel i hi
      rw [hy, cells58, Option.bind_eq_some_iff] at hb'
      obtain ⟨cs', hcs', hy'⟩ := hb'
      obtain ⟨_, hcl, hcell⟩ := World.cells?_some hcs'
      match cs', hcl with
      | [c0, c1, c2, c3], _ =>
      obtain ⟨ys, m', _, _, _, hl', hfs⟩ := DataW.trod_struct Try.underlying58 hy'
      match ys, hl' with
      | [y0, y1, y2, y3], _ =>
      have h0 := hfs 0 _ rfl
      have h1 := hfs 1 _ rfl
      have h2 := hfs 2 _ rfl
      have h3 := hfs 3 _ rfl
      simp [cells3, cells9, cells32] at h0 h1 h2 h3
      obtain ⟨k, e0, _, w0⟩ := DataW.trod_int Try.underlying3 h0
      obtain ⟨z, e1, _, w1⟩ := DataW.trod_int Try.underlying3 h1
      obtain ⟨s, e2, _, w2⟩ := DataW.trod_string Try.underlying9 h2
      obtain ⟨A', n', cap', zs, e3, w3⟩ := open_intsIn h3
      simp only [List.cons.injEq, and_true] at e0 e1 e2 e3
      subst e0 e1 e2 e3
      have hsp : a.spot = none := spot0 (by omega)
      clear spot0
      obtain ⟨b, o, sp⟩ := a
      cases hsp
      refine ⟨⟨k, z, s, A', n', cap', zs⟩, ⟨w2, w3, (wf_i64 w1).2⟩, b, o, rfl, fun j v hv => ?_⟩
      have hj : j < 4 := (List.getElem?_eq_some_iff.1 hv).1
      have hc := hcell j hj
      rw [addr_add, addr_add] at hc
      rw [hc]
      exact hv
    have : ∃ l : List ActV, l.length = n ∧ ∀ j (h : j < l.length), okAct W l[j] ∧ ∃ b o, a = ⟨b, o, none⟩ ∧ W.rangeAt b (o + j * 4) [.int .i64 l[j].kind, .int .i64 l[j].i, .string l[j].s, .slice l[j].A l[j].n l[j].cap] := by
      clear hel hlen hx hf hval
      have : ∀ k, k ≤ n → ∃ l : List ActV, l.length = k ∧ ∀ j (h : j < l.length), okAct W l[j] ∧ ∃ b o, a = ⟨b, o, none⟩ ∧ W.rangeAt b (o + j * 4) [.int .i64 l[j].kind, .int .i64 l[j].i, .string l[j].s, .slice l[j].A l[j].n l[j].cap] := by
        intro k
        induction k with
        | zero => exact fun _ => ⟨[], rfl, fun j hj => by cases hj⟩
        | succ k ih =>
          intro hk
          obtain ⟨l, hl', hL⟩ := ih (by omega)
          obtain ⟨x, hx1, hx2⟩ := each k (by omega)
          refine ⟨l ++ [x], by simp [hl'], fun j hj => ?_⟩
          rw [List.length_append, List.length_singleton] at hj
          by_cases hjk : j < l.length
          · rw [List.getElem_append_left hjk]
            exact hL j hjk
          · obtain rfl : j = k := by omega
            rw [List.getElem_append_right (by omega)]
            simp only [hl', Nat.sub_self, List.getElem_cons_zero]
            exact ⟨hx1, hx2⟩
      exact this n (Nat.le_refl n)
    obtain ⟨l, hl', hL⟩ := this
    refine ⟨some a, n, cap, l, rfl, ⟨hl', hl, hm, fun x hx => ?_, fun j hj => ?_⟩⟩
    · obtain ⟨j, hj, rfl⟩ := List.getElem_of_mem hx
      exact (hL j hj).1
    · obtain ⟨_, b, o, rfl, hr⟩ := hL j hj
      exact ⟨b, o, rfl, hr⟩

set_option maxRecDepth 100000 in
theorem open_intsP {H : Type} {enc : TypeId × Value → H} {W : World} {b0 : Nat} {r : Reach} {base : Nat} {sp : Nat → Bool} {held : Bool} {v : Value} {d : DataW H} {ps : List MemPlace}
    (hval : Value.okWide Try.prog W r b0 32 v) (h : DataW.Trod enc Try.prog W base sp held 32 v d ps) :
    ∃ (A : Option Addr) (n cap : Nat) (zs : List Int), v = .slice A n cap ∧ IntsIn W A n cap zs := by
  obtain ⟨A, n, cap, rfl⟩ := okWide_slice Try.underlying32 hval
  obtain ⟨fuel, hf⟩ := h
  obtain ⟨A', n', cap', zs, hcs, hz⟩ := open_intsIn hf
  simp [Value.cells] at hcs
  obtain ⟨rfl, rfl, rfl⟩ := hcs
  exact ⟨A, n, cap, zs, rfl, hz⟩
end Go.Proofs.Ytkhggpopohkjfaa
