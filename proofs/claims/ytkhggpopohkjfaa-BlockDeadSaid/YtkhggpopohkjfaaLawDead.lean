/- ambrylaw04.BlockDead returns true whatever the input. Premise: the calls lie there. -/
import Derived.Test.YtkhggpopohkjfaaBegun
namespace Go.Proofs.Ytkhggpopohkjfaa
open Go.RowKit Go.Proofs Go.Lib
set_option linter.unusedVariables false
set_option linter.unusedSimpArgs false

/-- A fuse that burns: so many calls may come. -/
structure Burns (V : DiskV) (f k : Nat) : Prop where
  dead : V.dead = false
  fuse : V.fuse = (f : Int)
  kept : V.kept.length = 8
  pend : V.pend.length ≤ k
theorem Burns.burn {V : DiskV} {f k : Nat} (h : Burns V (f + 1) k) : V.burnE = 0 ∧ Burns V.burnV f k := by
  have hf := h.fuse
  have h0 : ¬ V.fuse = 0 := by omega
  have h1 : 0 < V.fuse := by omega
  have hV : V.burnV = { V with fuse := V.fuse - 1 } := by unfold DiskV.burnV; rw [if_neg h0, if_pos h1]
  refine ⟨by unfold DiskV.burnE; rw [if_neg h0], ?_⟩
  rw [hV]
  exact ⟨h.dead, by show V.fuse - 1 = _; omega, h.kept, h.pend⟩
theorem Burns.flush {V : DiskV} {f k : Nat} (h : Burns V (f + 1) k) : V.flushE = 0 ∧ Burns V.flushV f (k + 1) := by
  obtain ⟨hE, hB⟩ := h.burn
  unfold DiskV.flushE DiskV.flushV
  rw [h.dead, hE]
  exact ⟨rfl, ⟨hB.dead, hB.fuse, (keep_kept_length _ _).trans hB.kept, by simp [DiskV.keepV]⟩⟩
theorem Burns.write {V : DiskV} {f k : Nat} (h : Burns V (f + 1) k) {i : Nat} (hi : i < 8) {s : ByteArray} (hs : s.size ≤ 128) : V.writeE i s = 0 ∧ Burns (V.writeV i s) f (k + 1) := by
  obtain ⟨hE, hB⟩ := h.burn
  have hw := within_ok' h.dead (i := i) (by have := h.kept; omega)
  have hns : ¬ 128 < s.size := by omega
  have h1 : V.writeE i s = 0 := by unfold DiskV.writeE; rw [hw, hE]; simp [hns]
  have h2 : V.writeV i s = V.burnV.add i s := by unfold DiskV.writeV; rw [hw, hE]; simp [hns]
  rw [h1, h2]
  exact ⟨rfl, ⟨hB.dead, hB.fuse, hB.kept, by have := hB.pend; simp [DiskV.add]; omega⟩⟩
/-- The fuse goes off. -/
theorem Burns.off {V : DiskV} {k : Nat} (h : Burns V 0 k) {i : Nat} (hi : i < 8) {s : ByteArray} (hs : s.size ≤ 128) : V.writeE i s = 20 ∧ V.writeV i s = { V with dead := true } := by
  have hf : V.fuse = 0 := h.fuse
  have hE : V.burnE = 20 := by unfold DiskV.burnE; rw [if_pos hf]
  have hV : V.burnV = { V with dead := true } := by unfold DiskV.burnV; rw [if_pos hf]
  have hw := within_ok' h.dead (i := i) (by have := h.kept; omega)
  have hns : ¬ 128 < s.size := by omega
  unfold DiskV.writeE DiskV.writeV
  rw [hw, hE, hV]
  simp [hns]
theorem off_write {V : DiskV} (hd : V.dead = true) (i : Int) (s : ByteArray) : V.writeE i s = 20 ∧ V.writeV i s = V := by
  have hw : V.withinE i = 20 := by unfold DiskV.withinE; rw [hd]; rfl
  unfold DiskV.writeE DiskV.writeV
  rw [hw]
  exact ⟨rfl, rfl⟩
theorem off_flush {V : DiskV} (hd : V.dead = true) : V.flushE = 20 ∧ V.flushV = V := by unfold DiskV.flushE DiskV.flushV; rw [hd]; exact ⟨rfl, rfl⟩
theorem off_arm {V : DiskV} (hd : V.dead = true) (n : Int) : V.armE = 20 ∧ V.armV n = V := by unfold DiskV.armE DiskV.mayE DiskV.armV; rw [hd]; exact ⟨rfl, rfl⟩
theorem off_read {V : DiskV} (hd : V.dead = true) (i : Int) : V.readE i = 20 := by unfold DiskV.readE DiskV.withinE; rw [hd]; rfl
theorem armed (V : DiskV) (n : Nat) (h : V.kept.length = 8) : Burns ((V.crashV []).armV n) n 0 := by
  have : (V.crashV []).armV n = { V.crashV [] with fuse := max (-1) (n : Int) } := by unfold DiskV.armV; rw [crash_dead]; rfl
  rw [this]
  exact ⟨rfl, by show max (-1) (n : Int) = n; omega, (crash_kept_length V []).trans h, Nat.le_refl _⟩
theorem dead_bytesIn_nil (w : World) : BytesIn w none 0 0 ByteArray.empty := bytesIn_nil w

set_option maxRecDepth 100000 in
set_option maxHeartbeats 4000000 in
theorem dead_bad (A : Option Addr) (n cap : Nat) (l : List ActV) (m t : Int) (w : World) (h : ActsIn w A n cap l) (hmt : m < 0 ∨ 50 < m ∨ t < 0 ∨ 50 < t) :
    Calls Try.prog 11 #[.slice A n cap, .int .i64 m, .int .i64 t] w fun e w' => e = .returned (.bool true) ∧ Keep [] w w' := by
  have HB := Lib.hid (begun_any A n cap l w h)
  have HLV := Lib.hid lives4_any
  clear h
  by_cases h1 : m < 0
  · clear hmt
    go_enter Try.func11, Try.ntmps11
    go_wp2_with fail
    refine HB.out.mono ?_
    rintro e w1 ⟨g, rfl, hst⟩
    have H1 := Lib.hid hst.keep
    clear hst
    go_wp2_with fail
    refine (HLV.out w1).mono ?_
    rintro e w2 ⟨rfl, hk2⟩
    have H2 := Lib.hid (H1.out.trans hk2)
    clear hk2
    go_wp2
    go_ret
    exact ⟨rfl, H2.out⟩
  by_cases h2 : 50 < m
  · clear hmt
    go_enter Try.func11, Try.ntmps11
    go_wp2_with fail
    refine HB.out.mono ?_
    rintro e w1 ⟨g, rfl, hst⟩
    have H1 := Lib.hid hst.keep
    clear hst
    go_wp2_with fail
    refine (HLV.out w1).mono ?_
    rintro e w2 ⟨rfl, hk2⟩
    have H2 := Lib.hid (H1.out.trans hk2)
    clear hk2
    go_wp2
    go_ret
    exact ⟨rfl, H2.out⟩
  by_cases h3 : t < 0
  · clear hmt
    go_enter Try.func11, Try.ntmps11
    go_wp2_with fail
    refine HB.out.mono ?_
    rintro e w1 ⟨g, rfl, hst⟩
    have H1 := Lib.hid hst.keep
    clear hst
    go_wp2_with fail
    refine (HLV.out w1).mono ?_
    rintro e w2 ⟨rfl, hk2⟩
    have H2 := Lib.hid (H1.out.trans hk2)
    clear hk2
    go_wp2
    go_ret
    exact ⟨rfl, H2.out⟩
  have h4 : 50 < t := by omega
  clear hmt
  go_enter Try.func11, Try.ntmps11
  go_wp2_with fail
  refine HB.out.mono ?_
  rintro e w1 ⟨g, rfl, hst⟩
  have H1 := Lib.hid hst.keep
  clear hst
  go_wp2_with fail
  refine (HLV.out w1).mono ?_
  rintro e w2 ⟨rfl, hk2⟩
  have H2 := Lib.hid (H1.out.trans hk2)
  clear hk2
  go_wp2
  go_ret
  exact ⟨rfl, H2.out⟩

def DeadI (w wr : World) (g m k : Nat) : Prop := ∃ V f, k + f = m ∧ Burns V f k ∧ StH w wr g V []

set_option maxRecDepth 100000 in
set_option maxHeartbeats 4000000 in
theorem dead_good (A : Option Addr) (n cap : Nat) (l : List ActV) (m t : Nat) (w : World) (h : ActsIn w A n cap l) (hm : m ≤ 50) (ht : t ≤ 50) :
    Calls Try.prog 11 #[.slice A n cap, .int .i64 m, .int .i64 t] w fun e w' => e = .returned (.bool true) ∧ Keep [] w w' := by
  have HB := Lib.hid (begun_any A n cap l w h)
  have HLV := Lib.hid lives4_any
  have kc := conv_const
  have hm2 : (m : Int) ≤ 50 := by omega
  have ht2 : (t : Int) ≤ 50 := by omega
  clear h
  go_enter Try.func11, Try.ntmps11
  go_wp2_with fail
  refine HB.out.mono ?_
  rintro e w1 ⟨g, rfl, hst⟩
  have H1 := Lib.hid hst
  have hk1 := begunV_kept l
  generalize begunV l = V1 at *
  clear hst
  go_wp2_with fail
  refine (st_crash_nil H1.out).mono ?_
  rintro e w2 ⟨rfl, hst⟩
  have H2 := Lib.hid hst
  clear hst H1
  go_wp2_with fail
  refine (st_arm H2.out m (by omega)).mono ?_
  rintro e w3 ⟨rfl, hst⟩
  have H3 : Hid (DeadI w w3 g m 0) := Lib.hid ⟨_, m, by omega, armed V1 m hk1, hst⟩
  clear hst H2 hk1
  generalize DiskV.armE _ = x3
  go_wp2_with fail
  go_loopw [8] (fun i wr => ∃ k : Nat, k ≤ m ∧ i = .int .i64 k ∧ Hid (DeadI w wr g m k)) (fun i _ => 200 - (intOf i).toNat)
  case atStart => exact ⟨0, by omega, rfl, H3⟩
  case round =>
    obtain ⟨k, hk, rfl, HS⟩ := hrel
    clear H3
    by_cases hlt : k < m
    · obtain ⟨V, f, hf1, hf2, hV⟩ := HS.out
      have HV := Lib.hid hV
      obtain ⟨f, rfl⟩ : ∃ f', f = f' + 1 := ⟨f - 1, by omega⟩
      clear HS hV
      have hr3 : (k : Int).tmod 3 = ((k % 3 : Nat) : Int) := by rw [Int.tmod_eq_emod_of_nonneg (by omega)]; omega
      by_cases h2 : k % 3 = 2
      · rw [h2] at hr3
        have hfl := hf2.flush
        clear h2
        go_wp2_with fail
        refine (st_flush HV.out).mono ?_
        rintro e w4 ⟨rfl, hst⟩
        rw [hfl.1]
        have HN : Hid (DeadI w w4 g m (k + 1)) := Lib.hid ⟨_, f, by omega, hfl.2, hst⟩
        clear hst hfl hf2 HV
        go_wp2
        exact ⟨⟨k + 1, by omega, by go_num, HN⟩, by simp [intOf]; omega⟩
      · have hne : ¬ ((k : Int).tmod 3 = 2) := by omega
        obtain ⟨q, hq8, hq⟩ : ∃ q : Nat, q < 8 ∧ (k : Int).tmod 8 = (q : Int) := ⟨k % 8, Nat.mod_lt _ (by decide), by rw [Int.tmod_eq_emod_of_nonneg (by omega)]; omega⟩
        clear hr3 h2
        go_wp2_with fail
        have hw := hf2.write hq8 (s := one8 (UInt8.ofNat k)) (by show 1 ≤ 128; omega)
        refine (st_write HV.out ((Keep.refl _ _).alloc _) q (bytes_one wr (UInt8.ofNat k) k _ (by rw [UInt8.toNat_ofNat_of_lt' (by show k < 256; omega)])) (fun a ha => by cases ha; exact Nat.le_refl _) (by have := hf2.pend; omega)).mono ?_
        rintro e w4 ⟨rfl, hst⟩
        rw [hw.1]
        have HN : Hid (DeadI w w4 g m (k + 1)) := Lib.hid ⟨_, f, by omega, hw.2, hst⟩
        clear hst hw hf2 HV
        go_wp2
        exact ⟨⟨k + 1, by omega, by go_num, HN⟩, by simp [intOf]; omega⟩
    · obtain rfl : k = m := by omega
      obtain ⟨V, f, hf1, hf2, hV⟩ := HS.out
      obtain rfl : f = 0 := by omega
      have HV := Lib.hid hV
      have hoff := hf2.off (i := 0) (by omega) (s := one8 120) (by show 1 ≤ 128; omega)
      have hp := hf2.pend
      have hd0 := hf2.dead
      have hk8 := hf2.kept
      clear HS hV hf2
      go_wp2_with fail
      refine (st_pending HV.out).mono ?_
      rintro e wa ⟨rfl, rfl⟩
      go_wp2_with fail
      refine (st_dead HV.out).mono ?_
      rintro e wa ⟨rfl, rfl⟩
      rw [hd0]
      go_wp2_with fail
      refine (st_write HV.out ((Keep.refl _ _).alloc _) (0 : Nat) (bytes_one _ 120 _ _ rfl) (fun a ha => by cases ha; exact Nat.le_refl _) (by omega)).mono ?_
      rintro e w5 ⟨rfl, hst⟩
      rw [hoff.1]
      rw [hoff.2] at hst
      have H5 := Lib.hid hst
      clear hst HV hoff
      go_wp2_with fail
      refine (st_dead H5.out).mono ?_
      rintro e wa ⟨rfl, rfl⟩
      dsimp only
      obtain ⟨VD, hVD⟩ : ∃ VD, ({ V with dead := true } : DiskV) = VD := ⟨_, rfl⟩
      have hpl : V.pend.length = VD.pend.length := by rw [← hVD]
      have hdD : VD.dead = true := by rw [← hVD]
      have hkD : VD.kept.length = 8 := by rw [← hVD]; exact hk8
      rw [hVD] at H5
      rw [hpl] at hp
      rw [hpl]
      clear hVD hpl hd0 hk8
      go_wp2_with fail
      go_loopw [10] (fun i wr => ∃ k : Nat, k ≤ t ∧ i = .int .i64 k ∧ Hid (StH w wr g VD [])) (fun i _ => 200 - (intOf i).toNat)
      case atStart => exact ⟨0, by omega, rfl, H5⟩
      case round =>
        obtain ⟨k2, hk2, rfl, HS⟩ := hrel
        clear H5
        by_cases hlt : k2 < t
        · go_wp2_with fail
          refine (st_read HS.out 0).mono ?_
          rintro e w6 ⟨A6, n6, cap6, rfl, hb6, hst⟩
          rw [off_read hdD]
          have H6 := Lib.hid hst.tail
          clear hst hb6 HS
          go_wp2_with fail
          refine (st_flush H6.out).mono ?_
          rintro e w7 ⟨rfl, hst⟩
          rw [(off_flush hdD).2] at hst
          rw [(off_flush hdD).1]
          have H7 := Lib.hid hst
          clear hst H6
          go_wp2_with fail
          refine (st_write H7.out (Keep.refl _ _) 1 (bytesIn_nil _) (fun a ha => by cases ha) (by omega)).mono ?_
          rintro e w8 ⟨rfl, hst⟩
          rw [(off_write hdD _ _).2] at hst
          rw [(off_write hdD _ _).1]
          have H8 := Lib.hid hst
          clear hst H7
          go_wp2_with fail
          refine (st_arm H8.out 5 (by decide)).mono ?_
          rintro e w9 ⟨rfl, hst⟩
          rw [(off_arm hdD _).2] at hst
          rw [(off_arm hdD 5).1]
          have H9 := Lib.hid hst
          clear hst H8
          go_wp2_with fail
          refine (st_pending H9.out).mono ?_
          rintro e wa ⟨rfl, rfl⟩
          go_wp2
          exact ⟨⟨k2 + 1, by omega, by go_num, H9⟩, by simp [intOf]; omega⟩
        · go_wp2_with fail
          refine (st_read HS.out 0).mono ?_
          rintro e w6 ⟨A6, n6, cap6, rfl, hb6, hst⟩
          rw [off_read hdD]
          have H6 := Lib.hid hst.tail
          clear hst hb6 HS
          go_wp2_with fail
          refine (st_crash_nil H6.out).mono ?_
          rintro e w7 ⟨rfl, hst⟩
          have H7 := Lib.hid hst
          have hk7 : (VD.crashV []).kept.length = 8 := (crash_kept_length VD []).trans hkD
          have hr7 := (read_free (V := VD.crashV []) rfl (i := 0) (by omega)).1
          have hw7 := (write_free (V := VD.crashV []) rfl rfl (i := 0) (by omega) (s := one8 121) (by show 1 ≤ 128; omega)).2
          clear hst H6
          go_wp2_with fail
          refine (st_dead H7.out).mono ?_
          rintro e wa ⟨rfl, rfl⟩
          rw [crash_dead]
          go_wp2_with fail
          refine (st_read H7.out (0 : Nat)).mono ?_
          rintro e w8 ⟨A8, n8, cap8, rfl, hb8, hst⟩
          rw [hr7]
          have H8 := Lib.hid hst.tail
          clear hst hb8 H7 hr7
          go_wp2_with fail
          refine (st_write H8.out ((Keep.refl _ _).alloc _) (0 : Nat) (bytes_one _ 121 _ _ rfl) (fun a ha => by cases ha; exact Nat.le_refl _) (by simp [crash_nil_pend])).mono ?_
          rintro e w9 ⟨rfl, hst⟩
          rw [hw7]
          have H9 := Lib.hid hst.keep
          clear hst H8 hw7
          go_wp2_with fail
          refine (HLV.out w9).mono ?_
          rintro e wl ⟨rfl, hkl⟩
          have HL := Lib.hid (H9.out.trans hkl)
          clear hkl
          go_wp2
          go_ret
          exact ⟨rfl, HL.out⟩

theorem blockdead_any (A : Option Addr) (n cap : Nat) (l : List ActV) (m t : Int) (w : World) (h : ActsIn w A n cap l) :
    Calls Try.prog 11 #[.slice A n cap, .int .i64 m, .int .i64 t] w fun e w' => e = .returned (.bool true) ∧ Keep [] w w' := by
  by_cases hmt : m < 0 ∨ 50 < m ∨ t < 0 ∨ 50 < t
  · exact dead_bad A n cap l m t w h hmt
  · obtain ⟨m', rfl⟩ := Int.eq_ofNat_of_zero_le (show 0 ≤ m by omega)
    obtain ⟨t', rfl⟩ := Int.eq_ofNat_of_zero_le (show 0 ≤ t by omega)
    exact dead_good A n cap l m' t' w h (by omega) (by omega)
end Go.Proofs.Ytkhggpopohkjfaa
