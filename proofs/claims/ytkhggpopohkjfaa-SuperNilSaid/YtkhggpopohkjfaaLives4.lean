/- ambrylaw04.lives tells true. No condition. -/
import Derived.Test.YtkhggpopohkjfaaSt
import Derived.Lib.SlBytesConst
namespace Go.Proofs.Ytkhggpopohkjfaa
open Go.RowKit Go.Proofs Go.Lib
set_option linter.unusedVariables false
set_option linter.unusedSimpArgs false

def one8 (b : UInt8) : ByteArray := ⟨#[b]⟩
theorem bytes_one (w : World) (b : UInt8) (z : Int) (fr : Nat × Nat) (hz : z = (b.toNat : Int)) : BytesIn (w.alloc (.cells #[.int .u8 z] 5 fr)) (some ⟨w.heap.size, 0, none⟩) 1 1 (one8 b) := by
  refine ⟨rfl, Nat.le_refl _, by decide, fun a ha i hi => ?_, fun ha => by cases ha⟩
  cases ha
  have hi0 : i = 0 := by have : i < 1 := hi; omega
  subst hi0
  rw [addr_add, hz]
  exact (cell_of_row _ _ 0 _ _ _ (heap_alloc_new w _)).trans rfl
theorem conv_const (w : World) (C : Array Value) (n c : Nat) : (convert 42 42 (.slice (some ⟨w.heap.size, 0, none⟩) n c)).run Try.prog (w.alloc (.cells C 5)) = .ok (.slice (some ⟨w.heap.size, 0, none⟩) n c) (w.alloc (.cells C 5 (C.size, C.size + 1))) :=
  run_convert_bytes_const w 42 5 C n c Try.underlying42 Try.underlying5
/-- The first of so many bytes. -/
theorem BytesIn.first {w : World} {A : Option Addr} {n cap : Nat} {s : ByteArray} (h : BytesIn w A n cap s) {b : UInt8} (hb : s.data[0]? = some b) : ∃ r o, A = some ⟨r, o, none⟩ ∧ w.cell? ⟨r, o, none⟩ = some (.int .u8 (b.toNat : Int)) := by
  obtain ⟨hs, he⟩ := Array.getElem?_eq_some_iff.1 hb
  have hs' : 0 < s.size := hs
  obtain ⟨r, o, h1 | h1, h2⟩ := h.at
  · refine ⟨r, o, h1, ?_⟩
    have := h2 0 hs'
    rw [Nat.add_zero] at this
    rw [this, ← he]
    rfl
  · omega

def l4a : DiskV := (newV 2).writeV 0 (one8 97)
def l4b : DiskV := l4a.writeV 0 (one8 98)
def l4c : DiskV := l4b.writeV 1 (one8 99)
def l4d : DiskV := l4c.crashV [0, 2]
def l4e : DiskV := l4d.armV 1
def l4f : DiskV := l4e.writeV 1 (one8 113)
def l4g : DiskV := l4f.flushV
def l4h : DiskV := l4g.crashV []
theorem l4_x : (l4c.readB 0).size = 128 ∧ (l4c.readB 0).data[0]? = some 98 := by decide +kernel
theorem l4_y : (l4d.readB 0).size = 128 ∧ (l4d.readB 0).data[0]? = some 97 := by decide +kernel
theorem l4_z : (l4d.readB 1).size = 128 ∧ (l4d.readB 1).data[0]? = some 99 := by decide +kernel
theorem l4_w : (l4h.readB 1).size = 128 ∧ (l4h.readB 1).data[0]? = some 99 := by decide +kernel
theorem l4_e : l4e.writeE 1 (one8 113) = 0 ∧ l4f.flushE = 20 ∧ l4g.readE 1 = 20 ∧ l4h.readE 1 = 0 := by decide +kernel
theorem l4_n : l4a.pend.length ≤ 1000000 ∧ l4b.pend.length ≤ 1000000 ∧ l4e.pend.length ≤ 1000000 := by decide +kernel

set_option maxRecDepth 100000 in
theorem lives4_any (w : World) : Calls Try.prog 37 #[] w fun e w' => e = .returned (.bool true) ∧ Keep [] w w' := by
  have hn := st_new (w0 := w) (w := w) (hs := []) 2 (by decide) (by decide) (Keep.refl _ _) (by simp)
  have HN := Lib.hid hn
  have kc := conv_const
  clear hn
  go_enter Try.func37, Try.ntmps37
  go_wp2_with fail
  refine HN.out.mono ?_
  rintro e w1 ⟨g, rfl, hst⟩
  have H1 := Lib.hid hst
  clear hst
  go_wp2_with fail
  refine (st_write H1.out ((Keep.refl _ _).alloc _) 0 (bytes_one w1 97 _ _ rfl) (fun a ha => by cases ha; exact Nat.le_refl _) (by decide)).mono ?_
  rintro e w2 ⟨rfl, hst⟩
  have H2 : Hid (StH w w2 g l4a []) := Lib.hid hst
  clear hst H1
  generalize DiskV.writeE _ _ _ = x1
  go_wp2_with fail
  refine (st_write H2.out ((Keep.refl _ _).alloc _) 0 (bytes_one w2 98 _ _ rfl) (fun a ha => by cases ha; exact Nat.le_refl _) l4_n.1).mono ?_
  rintro e w3 ⟨rfl, hst⟩
  have H3 : Hid (StH w w3 g l4b []) := Lib.hid hst
  clear hst H2
  generalize DiskV.writeE _ _ _ = x2
  go_wp2_with fail
  refine (st_write H3.out ((Keep.refl _ _).alloc _) 1 (bytes_one w3 99 _ _ rfl) (fun a ha => by cases ha; exact Nat.le_refl _) l4_n.2.1).mono ?_
  rintro e w4 ⟨rfl, hst⟩
  have H4 : Hid (StH w w4 g l4c []) := Lib.hid hst
  clear hst H3
  generalize DiskV.writeE _ _ _ = x3
  go_wp2_with fail
  refine (st_read H4.out 0).mono ?_
  rintro e w5 ⟨A1, n1, cp1, rfl, hb1, hst⟩
  have H5 := Lib.hid hst
  have hn1 := hb1.size
  have hc1 := hb1.hcap
  rw [l4_x.1] at hn1
  subst hn1
  obtain ⟨r1, o1, rfl, _⟩ := hb1.first l4_x.2
  clear hst H4 hb1
  generalize DiskV.readE _ _ = x4
  go_wp2_with fail
  have hz : IntsIn (w5.alloc (.cells #[.int .i64 0, .int .i64 2] 3)) (some ⟨w5.heap.size, 0, none⟩) 2 2 [0, 2] := by
    refine ⟨rfl, Nat.le_refl _, by decide, fun a ha i hi => ?_, fun ha => by cases ha⟩
    cases ha
    rw [addr_add]
    match i, hi with
    | 0, _ => exact (cell_of_row _ _ 0 _ _ _ (heap_alloc_new w5 _)).trans rfl
    | 1, _ => exact (cell_of_row _ _ 1 _ _ _ (heap_alloc_new w5 _)).trans rfl
  refine (st_crash_new H5.out ((Keep.refl _ _).alloc _) hz (fun a ha => by cases ha; exact Nat.le_refl _)).mono ?_
  rintro e w6 ⟨rfl, hst⟩
  have H6 : Hid (StH w w6 g l4d _) := Lib.hid hst
  clear hst H5 hz
  go_wp2_with fail
  refine (st_read H6.out 0).mono ?_
  rintro e w7 ⟨A2, n2, cp2, rfl, hb2, hst⟩
  have H7 := Lib.hid hst
  have hn2 := hb2.size
  have hc2 := hb2.hcap
  rw [l4_y.1] at hn2
  subst hn2
  obtain ⟨r2, o2, rfl, _⟩ := hb2.first l4_y.2
  clear hst H6 hb2
  generalize DiskV.readE _ _ = x5
  go_wp2_with fail
  refine (st_read H7.out 1).mono ?_
  rintro e w8 ⟨A3, n3, cp3, rfl, hb3, hst⟩
  have H8 := Lib.hid hst
  have hn3 := hb3.size
  have hc3 := hb3.hcap
  rw [l4_z.1] at hn3
  subst hn3
  obtain ⟨r3, o3, rfl, _⟩ := hb3.first l4_z.2
  clear hst H7 hb3
  generalize DiskV.readE _ _ = x6
  go_wp2_with fail
  refine (st_arm H8.out 1 (by decide)).mono ?_
  rintro e w9 ⟨rfl, hst⟩
  have H9 : Hid (StH w w9 g l4e _) := Lib.hid hst
  clear hst H8
  generalize DiskV.armE _ = x7
  go_wp2_with fail
  refine (st_write H9.out ((Keep.refl _ _).alloc _) 1 (bytes_one w9 113 _ _ rfl) (fun a ha => by cases ha; exact Nat.le_refl _) l4_n.2.2).mono ?_
  rintro e w10 ⟨rfl, hst⟩
  have H10 : Hid (StH w w10 g l4f _) := Lib.hid hst
  rw [show l4e.writeE 1 (one8 113) = 0 from l4_e.1]
  clear hst H9
  go_wp2_with fail
  refine (st_flush H10.out).mono ?_
  rintro e w11 ⟨rfl, hst⟩
  have H11 : Hid (StH w w11 g l4g _) := Lib.hid hst
  rw [show l4f.flushE = 20 from l4_e.2.1]
  clear hst H10
  go_wp2_with fail
  refine (st_read H11.out 1).mono ?_
  rintro e w12 ⟨A4, n4, cp4, rfl, hb4, hst⟩
  have H12 := Lib.hid hst
  rw [show l4g.readE 1 = 20 from l4_e.2.2.1]
  clear hst H11 hb4
  go_wp2_with fail
  refine (st_crash_nil H12.out).mono ?_
  rintro e w13 ⟨rfl, hst⟩
  have H13 : Hid (StH w w13 g l4h _) := Lib.hid hst
  clear hst H12
  go_wp2_with fail
  refine (st_read H13.out 1).mono ?_
  rintro e w14 ⟨A5, n5, cp5, rfl, hb5, hst⟩
  have H14 := Lib.hid hst
  have hn5 := hb5.size
  have hc5 := hb5.hcap
  rw [l4_w.1] at hn5
  subst hn5
  obtain ⟨r5, o5, rfl, _⟩ := hb5.first l4_w.2
  clear hst H13 hb5
  rw [show l4h.readE 1 = 0 from l4_e.2.2.2]
  have q1 := (H14.out.mem 4 _ rfl).first l4_x.2
  have q2 := (H14.out.mem 3 _ rfl).first l4_y.2
  have q3 := (H14.out.mem 2 _ rfl).first l4_z.2
  have q5 := (H14.out.mem 0 _ rfl).first l4_w.2
  obtain ⟨_, _, e1, q1⟩ := q1
  obtain ⟨_, _, e2, q2⟩ := q2
  obtain ⟨_, _, e3, q3⟩ := q3
  obtain ⟨_, _, e5, q5⟩ := q5
  cases e1
  cases e2
  cases e3
  cases e5
  have HK := Lib.hid H14.out.keep
  clear H14
  go_wp2
  go_ret
  exact ⟨rfl, HK.out⟩
end Go.Proofs.Ytkhggpopohkjfaa
