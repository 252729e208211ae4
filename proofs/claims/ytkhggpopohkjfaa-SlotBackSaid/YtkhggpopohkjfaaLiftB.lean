/- Bytes that came in, as the walks are told of them. -/
import Derived.Test.YtkhggpopohkjfaaBytesIn
import Derived.Test.YtkhggpopohkjfaaLift
import Derived.ChangeShapes
import Derived.WideShapes
import Derived.ChangeArms
import Derived.SizedLaws
namespace Go.Proofs.Ytkhggpopohkjfaa
open Go.ChangeShapes Go.WideShapes Go.ChangeAt Go.RowKit
theorem cells5 : Try.prog.cellsOf 5 = 1 := by kernel_rfl
theorem bytes5 : Try.prog.bytesOf 5 = 1 := by kernel_rfl

set_option maxRecDepth 100000 in
theorem open_bytesIn {H : Type} {enc : TypeId × Value → H} {W : World} {b0 : Nat} {r : Reach} {base : Nat} {sp : Nat → Bool} {held : Bool} {v : Value} {d : DataW H} {ps : List MemPlace}
    (hval : Value.okWide Try.prog W r b0 42 v) (h : DataW.Trod enc Try.prog W base sp held 42 v d ps) (hd : ∀ elems spare, d = .slice elems spare → (elems.length + spare.length) * Try.prog.bytesOf 5 ≤ reachBytes) :
    ∃ (A : Option Addr) (n cap : Nat) (s : ByteArray), v = .slice A n cap ∧ BytesIn W A n cap s ∧ n ≤ 140737488351232 := by
  obtain ⟨A, n, cap, rfl⟩ := okWide_slice Try.underlying42 hval
  obtain ⟨fuel, hf⟩ := h
  rcases open_ints Try.underlying42 Try.underlying5 cells5 hf with ⟨hcs, _⟩ | ⟨a, len', cap', zs, hcs, _, hl, hm, hz, hx, hcell, hwz⟩
  · simp [Value.cells] at hcs
    obtain ⟨rfl, rfl, rfl⟩ := hcs
    exact ⟨none, 0, 0, ByteArray.empty, rfl, ⟨rfl, Nat.le_refl _, Nat.zero_le _, fun a ha => (by cases ha), fun _ => ⟨rfl, rfl⟩⟩, Nat.zero_le _⟩
  · simp [Value.cells] at hcs
    obtain ⟨rfl, rfl, rfl⟩ := hcs
    simp only [Prod.mk.injEq] at hx
    obtain ⟨rfl, rfl⟩ := hx
    have hzl : n ≤ zs.length := by
      rw [hz]
      split <;> omega
    have hb := hd _ _ rfl
    rw [bytes5] at hb
    simp only [lits, List.length_map, List.length_take, List.length_drop, reachBytes] at hb
    have hsz : (ByteArray.mk ((zs.take n).map fun z => UInt8.ofNat z.toNat).toArray).size = n := by
      show ((zs.take n).map fun z => UInt8.ofNat z.toNat).toArray.size = n
      simp
      omega
    refine ⟨some a, n, cap, ⟨((zs.take n).map fun z => UInt8.ofNat z.toNat).toArray⟩, rfl, ⟨hsz, hl, hm, fun a' ha i hi => ?_, fun ha => (by cases ha)⟩, by omega⟩
    cases ha
    rw [hsz] at hi
    have hc := hcell i (by omega)
    rw [hc]
    have hget : (ByteArray.mk ((zs.take n).map fun z => UInt8.ofNat z.toNat).toArray)[i]'(by rw [hsz]; exact hi) = UInt8.ofNat (zs.getD i 0).toNat := by
      show (((zs.take n).map fun z => UInt8.ofNat z.toNat).toArray)[i]'_ = _
      simp [List.getD_eq_getElem?_getD, List.getElem?_eq_getElem (show i < zs.length by omega)]
    rw [hget]
    have hw := hwz (zs.getD i 0) (by rw [List.getD_eq_getElem?_getD, List.getElem?_eq_getElem (show i < zs.length by omega)]; exact List.getElem_mem _)
    have hw2 : 0 ≤ zs.getD i 0 ∧ zs.getD i 0 ≤ 255 := by simpa [Lit.wf, IntKind.min, IntKind.max, IntKind.signed, IntKind.bits] using hw
    congr 2
    rw [UInt8.toNat_ofNat_of_lt' (by show _ < 256; omega)]
    omega
end Go.Proofs.Ytkhggpopohkjfaa
