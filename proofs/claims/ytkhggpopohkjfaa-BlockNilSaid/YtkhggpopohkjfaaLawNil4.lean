/- ambrylaw04.BlockNil returns true whatever the input. No condition. -/
import Derived.Test.YtkhggpopohkjfaaUnmade
namespace Go.Proofs.Ytkhggpopohkjfaa
open Go.RowKit Go.Proofs Go.Lib
set_option linter.unusedVariables false
set_option linter.unusedSimpArgs false

set_option maxRecDepth 100000 in
set_option maxHeartbeats 4000000 in
theorem blocknil_none (i : Int) (A : Option Addr) (n c : Nat) (A2 : Option Addr) (n2 c2 : Nat) (w : World) :
    Calls Try.prog 13 #[.int .i64 i, .slice A n c, .slice A2 n2 c2, .bool false] w fun e w' => e = .returned (.bool true) ∧ Keep [] w w' := by
  have HLV := Lib.hid lives4_any
  have hun : Unmade none w := .inl rfl
  have HU := Lib.hid hun
  have HK0 : Hid (Keep [] w w) := Lib.hid (Keep.refl _ _)
  clear hun
  go_enter Try.func13, Try.ntmps13
  go_wp2_with fail
  refine (un_read HU.out i).mono ?_
  rintro e w1 ⟨rfl, hk⟩
  have H1 := Lib.hid (HK0.out.trans hk)
  have U1 := Lib.hid (HU.out.keep hk)
  clear hk
  go_wp2_with fail
  refine (un_write U1.out i A n c).mono ?_
  rintro e wa ⟨rfl, rfl⟩
  go_wp2_with fail
  refine (un_flush U1.out).mono ?_
  rintro e wa ⟨rfl, rfl⟩
  go_wp2_with fail
  refine (un_arm U1.out i).mono ?_
  rintro e wa ⟨rfl, rfl⟩
  go_wp2_with fail
  refine (un_crash U1.out A2 n2 c2).mono ?_
  rintro e w2 ⟨rfl, hk⟩
  have H2 := Lib.hid (H1.out.trans hk)
  have U2 := Lib.hid (U1.out.keep hk)
  clear hk U1 H1
  go_wp2_with fail
  refine (un_size U2.out).mono ?_
  rintro e wa ⟨rfl, rfl⟩
  go_wp2_with fail
  refine (un_pending U2.out).mono ?_
  rintro e wa ⟨rfl, rfl⟩
  go_wp2_with fail
  refine (un_dead U2.out).mono ?_
  rintro e wa ⟨rfl, rfl⟩
  go_wp2_with fail
  refine (un_copy U2.out).mono ?_
  rintro e wa ⟨rfl, rfl⟩
  go_wp2_with fail
  refine (HLV.out _).mono ?_
  rintro e wl ⟨rfl, hkl⟩
  have HL := Lib.hid (H2.out.trans hkl)
  clear hkl
  go_wp2
  go_ret
  exact ⟨rfl, HL.out⟩
set_option maxRecDepth 100000 in
set_option maxHeartbeats 4000000 in
theorem blocknil_zero (i : Int) (A : Option Addr) (n c : Nat) (A2 : Option Addr) (n2 c2 : Nat) (w : World) :
    Calls Try.prog 13 #[.int .i64 i, .slice A n c, .slice A2 n2 c2, .bool true] w fun e w' => e = .returned (.bool true) ∧ Keep [] w w' := by
  have HLV := Lib.hid lives4_any
  have hun : Unmade (some ⟨w.heap.size, 0, none⟩) (w.alloc (.cells zeroHd 90)) := .inr ⟨_, rfl, heap_alloc_new w _⟩
  have HU := Lib.hid hun
  have HK0 : Hid (Keep [] w (w.alloc (.cells zeroHd 90))) := Lib.hid ((Keep.refl _ _).alloc _)
  clear hun
  go_enter Try.func13, Try.ntmps13
  go_wp2_with fail
  refine (un_read HU.out i).mono ?_
  rintro e w1 ⟨rfl, hk⟩
  have H1 := Lib.hid (HK0.out.trans hk)
  have U1 := Lib.hid (HU.out.keep hk)
  clear hk
  go_wp2_with fail
  refine (un_write U1.out i A n c).mono ?_
  rintro e wa ⟨rfl, rfl⟩
  go_wp2_with fail
  refine (un_flush U1.out).mono ?_
  rintro e wa ⟨rfl, rfl⟩
  go_wp2_with fail
  refine (un_arm U1.out i).mono ?_
  rintro e wa ⟨rfl, rfl⟩
  go_wp2_with fail
  refine (un_crash U1.out A2 n2 c2).mono ?_
  rintro e w2 ⟨rfl, hk⟩
  have H2 := Lib.hid (H1.out.trans hk)
  have U2 := Lib.hid (U1.out.keep hk)
  clear hk U1 H1
  go_wp2_with fail
  refine (un_size U2.out).mono ?_
  rintro e wa ⟨rfl, rfl⟩
  go_wp2_with fail
  refine (un_pending U2.out).mono ?_
  rintro e wa ⟨rfl, rfl⟩
  go_wp2_with fail
  refine (un_dead U2.out).mono ?_
  rintro e wa ⟨rfl, rfl⟩
  go_wp2_with fail
  refine (un_copy U2.out).mono ?_
  rintro e wa ⟨rfl, rfl⟩
  go_wp2_with fail
  refine (HLV.out _).mono ?_
  rintro e wl ⟨rfl, hkl⟩
  have HL := Lib.hid (H2.out.trans hkl)
  clear hkl
  go_wp2
  go_ret
  exact ⟨rfl, HL.out⟩
theorem blocknil_any (i : Int) (A : Option Addr) (n c : Nat) (A2 : Option Addr) (n2 c2 : Nat) (b : Bool) (w : World) :
    Calls Try.prog 13 #[.int .i64 i, .slice A n c, .slice A2 n2 c2, .bool b] w fun e w' => e = .returned (.bool true) ∧ Keep [] w w' := by
  cases b
  · exact blocknil_none i A n c A2 n2 c2 w
  · exact blocknil_zero i A n c A2 n2 c2 w
end Go.Proofs.Ytkhggpopohkjfaa
