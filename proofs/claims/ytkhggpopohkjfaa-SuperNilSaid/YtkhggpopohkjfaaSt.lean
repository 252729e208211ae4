/- A disk among other things that are held: the calls, told so that they can be chained. Premise: the disk is right. -/
import Derived.Test.YtkhggpopohkjfaaDiskRead
import Derived.Test.YtkhggpopohkjfaaWriteOk
import Derived.Test.YtkhggpopohkjfaaDiskNew
namespace Go.Proofs.Ytkhggpopohkjfaa
open Go.RowKit Go.Proofs Go.Lib
set_option linter.unusedVariables false
set_option linter.unusedSimpArgs false

/-- What holds of the memory, as long as some blocks lie as they lay. -/
structure Held where
  P : World → Prop
  B : List Nat
  stable : ∀ w w' : World, w.heap.size ≤ w'.heap.size → (∀ k ∈ B, w'.heap[k]? = w.heap[k]?) → P w → P w'

def bytesB (A : Option Addr) (s : ByteArray) : List Nat := match A with | none => [] | some a => if s.size = 0 then [] else [a.block]
def heldB (A : Option Addr) (n cap : Nat) (s : ByteArray) : Held where
  P := fun w => BytesIn w A n cap s
  B := bytesB A s
  stable := by
    intro w w' _ hb h
    refine ⟨h.size, h.hcap, h.hmax, fun a ha i hi => ?_, h.ofNone⟩
    have hc := h.ofSome a ha i hi
    have : bytesB A s = [a.block] := by subst ha; exact if_neg (by omega)
    rw [this] at hb
    exact (World.cell?_of_block (by have := hb a.block (by simp); unfold Addr.add; split <;> exact this)).trans hc
theorem bytesB_lt {w : World} {A : Option Addr} {n cap : Nat} {s : ByteArray} (h : BytesIn w A n cap s) : ∀ b ∈ bytesB A s, b < w.heap.size := by
  intro b hb
  cases A with
  | none => cases hb
  | some a =>
    unfold bytesB at hb
    dsimp only at hb
    split at hb
    · cases hb
    · rw [List.mem_singleton.1 hb]
      have := block_lt_of_cell (h.ofSome a rfl 0 (by omega))
      unfold Addr.add at this
      split at this <;> exact this

structure StH (w0 w : World) (g : Nat) (V : DiskV) (hs : List Held) : Prop where
  ex : ∃ S, Disk w g S V ∧ (∀ k ∈ S, w0.heap.size ≤ k) ∧ ∀ h ∈ hs, ∀ b ∈ h.B, b ∉ S
  keep : Keep [] w0 w
  held : ∀ h ∈ hs, h.P w ∧ ∀ b ∈ h.B, b < w.heap.size

section
variable {w0 w w' : World} {g : Nat} {V V' : DiskV} {hs : List Held}
theorem StH.step {S S' : List Nat} (hD : Disk w g S V) (hS : ∀ k ∈ S, w0.heap.size ≤ k) (hB : ∀ h ∈ hs, ∀ b ∈ h.B, b ∉ S) (hk0 : Keep [] w0 w) (hh : ∀ h ∈ hs, h.P w ∧ ∀ b ∈ h.B, b < w.heap.size)
    (hD' : Disk w' g S' V') (hk : Keep S w w') (hn : ∀ k ∈ S', k ∈ S ∨ w.heap.size ≤ k) : StH w0 w' g V' hs := by
  have h0 := hk0.size
  refine ⟨⟨S', hD', fun k hk2 => ?_, fun h hh2 b hb => ?_⟩, hk0.trans' hk (fun k hk2 => .inr (hS k hk2)), fun h hh2 => ?_⟩
  · rcases hn k hk2 with h1 | h1
    · exact hS k h1
    · omega
  · intro hm
    rcases hn b hm with h1 | h1
    · exact hB h hh2 b hb h1
    · have := (hh h hh2).2 b hb; omega
  · obtain ⟨hp, hb⟩ := hh h hh2
    refine ⟨h.stable w w' hk.size (fun k hk2 => hk.block k (hb k hk2) (hB h hh2 k hk2)) hp, fun b hb2 => ?_⟩
    have := hb b hb2
    have := hk.size
    omega
theorem StH.keep0 (h : StH w0 w g V hs) (hk : Keep [] w w') : StH w0 w' g V hs := by
  obtain ⟨S, hD, hS, hB⟩ := h.ex
  exact StH.step hD hS hB h.keep h.held (hD.keep0 hk) (hk.mono (by simp)) (fun k hk => .inl hk)
theorem StH.ok (h : StH w0 w g V hs) : okDisk V := by
  obtain ⟨S, hD, _⟩ := h.ex
  exact hD.ok
theorem StH.mem (h : StH w0 w g V hs) (i : Nat) (x : Held) (hx : hs[i]? = some x) : x.P w := (h.held x (List.mem_of_getElem? hx)).1
theorem StH.tail {x : Held} (h : StH w0 w g V (x :: hs)) : StH w0 w g V hs := by
  obtain ⟨S, hD, hS, hB⟩ := h.ex
  exact ⟨⟨S, hD, hS, fun y hy => hB y (List.mem_cons_of_mem _ hy)⟩, h.keep, fun y hy => h.held y (List.mem_cons_of_mem _ hy)⟩
/-- What is new, is held. -/
theorem StH.hold (h : StH w0 w g V hs) (hk : Keep [] w w') (x : Held) (hp : x.P w') (hb : ∀ b ∈ x.B, w.heap.size ≤ b ∧ b < w'.heap.size) : StH w0 w' g V (x :: hs) := by
  have h' := h.keep0 hk
  obtain ⟨S, hD, hS, hB⟩ := h.ex
  refine ⟨⟨S, hD.keep0 hk, hS, fun y hy b hb2 => ?_⟩, h'.keep, fun y hy => ?_⟩
  · rcases List.mem_cons.1 hy with rfl | hy
    · intro hm
      have := hD.lt b hm
      have := (hb b hb2).1
      omega
    · exact hB y hy b hb2
  · rcases List.mem_cons.1 hy with rfl | hy
    · exact ⟨hp, fun b hb2 => (hb b hb2).2⟩
    · exact h'.held y hy

theorem st_new (n : Int) (h1 : 1 ≤ n) (h2 : n ≤ 16384) (hk : Keep [] w0 w) (hh : ∀ h ∈ hs, h.P w ∧ ∀ b ∈ h.B, b < w.heap.size) :
    Calls Try.prog 40 #[.int .i64 n] w fun e w' => ∃ g, e = .returned (.tuple #[.pointer (some ⟨g, 0, none⟩), .int .i64 0]) ∧ StH w0 w' g (newV n.toNat) hs := by
  refine (new_any n w).mono ?_
  rintro e w' h
  unfold NewPost at h
  rw [if_pos ⟨h1, h2⟩] at h
  obtain ⟨g, S, rfl, hD, hk2, hS⟩ := h
  have h0 := hk.size
  have h3 := hk2.size
  refine ⟨g, rfl, ⟨S, hD, fun k hk => by have := hS k hk; omega, fun x hx b hb hm => ?_⟩, hk.trans hk2, fun x hx => ?_⟩
  · have := hS b hm
    have := (hh x hx).2 b hb
    omega
  · refine ⟨x.stable w w' h3 (fun k hk3 => hk2.block k ((hh x hx).2 k hk3) (by simp)) (hh x hx).1, fun b hb => ?_⟩
    have := (hh x hx).2 b hb
    omega
theorem st_of (h : StH w0 w g V hs) {f : FuncId} {args : Array Value} {v : Value} (hc : ∀ S, Disk w g S V → (∀ k ∈ S, w0.heap.size ≤ k) → (∀ h ∈ hs, ∀ b ∈ h.B, b ∉ S) → Calls Try.prog f args w (DPost w g S v V')) :
    Calls Try.prog f args w fun e w' => e = .returned v ∧ StH w0 w' g V' hs := by
  obtain ⟨S, hD, hS, hB⟩ := h.ex
  refine (hc S hD hS hB).mono ?_
  rintro e w' ⟨rfl, S', hD', hk, hn⟩
  exact ⟨rfl, StH.step hD hS hB h.keep h.held hD' hk hn⟩
theorem st_flush (h : StH w0 w g V hs) : Calls Try.prog 36 #[.pointer (some ⟨g, 0, none⟩)] w fun e w' => e = .returned (.int .i64 V.flushE) ∧ StH w0 w' g V.flushV hs :=
  st_of h fun S hD _ _ => flush_ok hD
theorem st_arm (h : StH w0 w g V hs) (n : Int) (hn : n ≤ 9223372036854775807) : Calls Try.prog 38 #[.pointer (some ⟨g, 0, none⟩), .int .i64 n] w fun e w' => e = .returned (.int .i64 V.armE) ∧ StH w0 w' g (V.armV n) hs :=
  st_of h fun S hD _ _ => arm_ok n hn hD
/-- Numbers that lay there from the outset, or that are nil. -/
theorem st_crash (h : StH w0 w g V hs) {A : Option Addr} {n cap : Nat} {zs : List Int} (hz : IntsIn w0 A n cap zs) : Calls Try.prog 34 #[.pointer (some ⟨g, 0, none⟩), .slice A n cap] w fun e w' => e = .returned (.int .i64 0) ∧ StH w0 w' g (V.crashV zs) hs :=
  st_of h fun S hD hS _ => crash_ok hD (hz.keep0 h.keep) (fun a ha hn hm => by have := hS _ hm; have := hz.lt a ha hn; omega)
/-- Numbers that were made since. -/
theorem st_crash_new {w1 : World} (h : StH w0 w1 g V hs) (hk : Keep [] w1 w) {A : Option Addr} {n cap : Nat} {zs : List Int} (hz : IntsIn w A n cap zs) (hA : ∀ a, A = some a → w1.heap.size ≤ a.block) :
    Calls Try.prog 34 #[.pointer (some ⟨g, 0, none⟩), .slice A n cap] w fun e w' => e = .returned (.int .i64 0) ∧ StH w0 w' g (V.crashV zs) hs := by
  obtain ⟨S, hD, hS, hB⟩ := h.ex
  have h2 := h.keep0 hk
  refine (crash_ok (hD.keep0 hk) hz (fun a ha hn hm => by have := hD.lt _ hm; have := hA a ha; omega)).mono ?_
  rintro e w' ⟨rfl, S', hD', hk', hn⟩
  exact ⟨rfl, StH.step (hD.keep0 hk) hS hB h2.keep h2.held hD' hk' hn⟩
theorem ints_nil (w : World) : IntsIn w none 0 0 [] := ⟨rfl, Nat.le_refl _, Nat.zero_le _, fun a ha => (by cases ha), fun _ => ⟨rfl, rfl⟩⟩
theorem st_crash_nil (h : StH w0 w g V hs) : Calls Try.prog 34 #[.pointer (some ⟨g, 0, none⟩), .slice none 0 0] w fun e w' => e = .returned (.int .i64 0) ∧ StH w0 w' g (V.crashV []) hs := st_crash h (ints_nil w0)
theorem st_write {w1 : World} (h : StH w0 w1 g V hs) (hk : Keep [] w1 w) (i : Int) {A : Option Addr} {n cap : Nat} {s : ByteArray} (hb : BytesIn w A n cap s) (hA : ∀ a, A = some a → w1.heap.size ≤ a.block) (hfew : V.pend.length ≤ 1000000) :
    Calls Try.prog 35 #[.pointer (some ⟨g, 0, none⟩), .int .i64 i, .slice A n cap] w fun e w' => e = .returned (.int .i64 (V.writeE i s)) ∧ StH w0 w' g (V.writeV i s) hs := by
  obtain ⟨S, hD, hS, hB⟩ := h.ex
  have h2 := h.keep0 hk
  refine (write_ok (hD.keep0 hk) hb (fun a ha hm => by have := hD.lt _ hm; have := hA a ha; omega) hfew).mono ?_
  rintro e w' ⟨rfl, S', hD', hk', hn⟩
  exact ⟨rfl, StH.step (hD.keep0 hk) hS hB h2.keep h2.held hD' hk' hn⟩
theorem st_read (h : StH w0 w g V hs) (i : Int) : Calls Try.prog 39 #[.pointer (some ⟨g, 0, none⟩), .int .i64 i] w fun e w' => ∃ A n cap, e = .returned (.tuple #[.slice A n cap, .int .i64 (V.readE i)]) ∧ BytesIn w' A n cap (V.readB i) ∧ StH w0 w' g V (heldB A n cap (V.readB i) :: hs) := by
  obtain ⟨S, hD, hS, hB⟩ := h.ex
  refine (dread_any i hD).mono ?_
  rintro e w' ⟨hk, A, n, cap, rfl, hb, hA⟩
  refine ⟨A, n, cap, rfl, hb, h.hold hk _ hb (fun b hb2 => ⟨?_, bytesB_lt hb b hb2⟩)⟩
  cases A with
  | none => cases hb2
  | some a =>
    have hb3 : b ∈ bytesB (some a) (V.readB i) := hb2
    unfold bytesB at hb3
    dsimp only at hb3
    split at hb3
    · cases hb3
    · rw [List.mem_singleton.1 hb3]; exact hA a rfl
theorem st_look (h : StH w0 w g V hs) {f : FuncId} {args : Array Value} {v : Value} (hc : ∀ S, Disk w g S V → Calls Try.prog f args w fun e w' => e = .returned v ∧ w = w') : Calls Try.prog f args w fun e w' => e = .returned v ∧ w = w' := by
  obtain ⟨S, hD, hS, hB⟩ := h.ex
  exact hc S hD
theorem st_pending (h : StH w0 w g V hs) : Calls Try.prog 49 #[.pointer (some ⟨g, 0, none⟩)] w fun e w' => e = .returned (.int .i64 V.pend.length) ∧ w = w' := st_look h fun S hD => pending_ok hD
theorem st_size (h : StH w0 w g V hs) : Calls Try.prog 56 #[.pointer (some ⟨g, 0, none⟩)] w fun e w' => e = .returned (.int .i64 V.kept.length) ∧ w = w' := st_look h fun S hD => size_ok hD
theorem st_dead (h : StH w0 w g V hs) : Calls Try.prog 52 #[.pointer (some ⟨g, 0, none⟩)] w fun e w' => e = .returned (.bool V.dead) ∧ w = w' := st_look h fun S hD => dead_ok hD
end
end Go.Proofs.Ytkhggpopohkjfaa
