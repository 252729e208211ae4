/- Calls that came in, as a list; how the walks read them. No condition. -/
import Derived.Test.YtkhggpopohkjfaaPick
import Derived.Test.YtkhggpopohkjfaaLift
namespace Go.Proofs.Ytkhggpopohkjfaa
open Go.RowKit Go.Proofs Go.Lib

/-- A call: its kind, its number, its text, what is to be kept. -/
structure ActV where
  kind : Int
  i : Int
  s : ByteArray
  A : Option Addr
  n : Nat
  cap : Nat
  keep : List Int
instance : Inhabited ActV := ⟨⟨0, 0, ByteArray.empty, none, 0, 0, []⟩⟩

structure okAct (w : World) (x : ActV) : Prop where
  s : x.s.size ≤ maxLen
  keep : IntsIn w x.A x.n x.cap x.keep
  i : x.i ≤ 9223372036854775807

/-- Calls that lie in a slice, nil or not. -/
structure ActsIn (w : World) (A : Option Addr) (n cap : Nat) (l : List ActV) : Prop where
  size : l.length = n
  hcap : n ≤ cap
  hmax : cap ≤ maxLen
  each : ∀ x ∈ l, okAct w x
  at_ : ∀ j (h : j < l.length), ∃ b o, A = some ⟨b, o, none⟩ ∧ w.rangeAt b (o + j * 4) [.int .i64 l[j].kind, .int .i64 l[j].i, .string l[j].s, .slice l[j].A l[j].n l[j].cap]

theorem IntsIn.keep0 {w w' : World} {A : Option Addr} {n cap : Nat} {zs : List Int} (h : IntsIn w A n cap zs) (hk : Keep [] w w') : IntsIn w' A n cap zs := h.keep hk (fun _ _ _ => by simp)
theorem rangeAt_keep {S : List Nat} {w w' : World} {b off : Nat} {cs : List Value} (h : w.rangeAt b off cs) (hk : Keep S w w') (hb : b ∉ S) : w'.rangeAt b off cs := fun j v hv => hk.cell (h j v hv) hb
theorem okAct.keep0 {w w' : World} {x : ActV} (h : okAct w x) (hk : Keep [] w w') : okAct w' x := ⟨h.s, h.keep.keep0 hk, h.i⟩
theorem ActsIn.keep0 {w w' : World} {A : Option Addr} {n cap : Nat} {l : List ActV} (h : ActsIn w A n cap l) (hk : Keep [] w w') : ActsIn w' A n cap l :=
  ⟨h.size, h.hcap, h.hmax, fun x hx => (h.each x hx).keep0 hk, fun j hj => by
    obtain ⟨b, o, rfl, hr⟩ := h.at_ j hj
    exact ⟨b, o, rfl, rangeAt_keep hr hk (by simp)⟩⟩
theorem IntsIn.lt {w : World} {A : Option Addr} {n cap : Nat} {zs : List Int} (h : IntsIn w A n cap zs) (a : Addr) (ha : A = some a) (hn : 0 < n) : a.block < w.heap.size := by
  have hc := h.ofSome a ha 0 (by rw [h.size]; exact hn)
  have := block_lt_of_cell hc
  unfold Addr.add at this
  split at this <;> exact this
end Go.Proofs.Ytkhggpopohkjfaa
