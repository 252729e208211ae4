/- ambrylaw04.BlockSure returns true whatever the input. Premise: the calls lie there. -/
import Derived.Test.YtkhggpopohkjfaaBegun
namespace Go.Proofs.Ytkhggpopohkjfaa
open Go.RowKit Go.Proofs Go.Lib
set_option linter.unusedVariables false
set_option linter.unusedSimpArgs false

theorem BytesIn.pre {w : World} {A : Option Addr} {n cap : Nat} {s t : ByteArray} (h : BytesIn w A n cap (s ++ t)) : BytesIn w A s.size cap s := by
  have hs := h.size
  rw [ByteArray.size_append] at hs
  refine ⟨rfl, by have := h.hcap; omega, h.hmax, fun a ha i hi => ?_, fun ha => ⟨by have := (h.ofNone ha).1; omega, (h.ofNone ha).2⟩⟩
  rw [h.ofSome a ha i (by rw [ByteArray.size_append]; omega), ByteArray.getElem_append_left hi]

theorem mod8 (i : Int) : ∃ a : Nat, a < 8 ∧ wrap64 ((IntKind.u64.wrap i).tmod 8) = (a : Int) := by
  have h0 : 0 ≤ IntKind.u64.wrap i := by
    have : IntKind.u64.wrap i = i % 18446744073709551616 := rfl
    omega
  obtain ⟨m, hm⟩ := Int.eq_ofNat_of_zero_le h0
  rw [hm]
  refine ⟨m % 8, Nat.mod_lt _ (by decide), ?_⟩
  have h1 : (m : Int).tmod 8 = ((m % 8 : Nat) : Int) := by rw [Int.tmod_eq_emod_of_nonneg (by omega)]; omega
  rw [h1]
  have : m % 8 < 8 := Nat.mod_lt _ (by decide)
  unfold wrap64
  omega

/-- What one call of the second list makes of a disk: no write to the sector. -/
def ActV.onBut (at_ : Nat) (V : DiskV) (x : ActV) : DiskV := if x.kind = 1 then V.flushV else if x.kind = 2 then V.crashV x.keep else if x.kind = 3 then V.armV x.i else if x.i = at_ then V else V.writeV x.i x.s
theorem onBut_len (a : Nat) (V : DiskV) (x : ActV) : (ActV.onBut a V x).pend.length ≤ V.pend.length + 1 := by
  unfold ActV.onBut
  (repeat' split)
  · have := flush_len V; omega
  · show 0 ≤ _; omega
  · rw [arm_len]; omega
  · omega
  · exact write_len V _ _
theorem onBut_kept (a : Nat) (V : DiskV) (x : ActV) : (ActV.onBut a V x).kept.length = V.kept.length := by
  unfold ActV.onBut
  (repeat' split)
  · exact flush_kept_length V
  · exact crash_kept_length V _
  · rw [arm_kept]
  · rfl
  · rw [write_kept]
theorem onBut_stands {a : Nat} {V : DiskV} {s : ByteArray} (h : Stands V a s) (x : ActV) : Stands (ActV.onBut a V x) a s := by
  unfold ActV.onBut
  (repeat' split)
  · exact h.flush
  · exact h.crash _
  · exact h.arm _
  · exact h
  · rename_i hne; exact h.write _ hne _

/-- Between two of the second calls. -/
def SureI (w wr : World) (g at_ : Nat) (s : ByteArray) (k : Nat) : Prop :=
  ∃ V, V.pend.length ≤ k ∧ V.kept.length = 8 ∧ Stands V at_ (padB s) ∧ StH w wr g V []

set_option maxRecDepth 100000 in
set_option maxHeartbeats 4000000 in
theorem sure_any (A : Option Addr) (n cap : Nat) (l : List ActV) (i : Int) (s : ByteArray) (A2 : Option Addr) (n2 cap2 : Nat) (more : List ActV) (A3 : Option Addr) (n3 cap3 : Nat) (keep : List Int) (w : World)
    (h : ActsIn w A n cap l) (hm : ActsIn w A2 n2 cap2 more) (hk : IntsIn w A3 n3 cap3 keep) (hs : s.size ≤ maxLen) :
    Calls Try.prog 7 #[.slice A n cap, .int .i64 i, .string s, .slice A2 n2 cap2, .slice A3 n3 cap3] w fun e w' => e = .returned (.bool true) ∧ Keep [] w w' := by
  have hb := begun_any A n cap l w h
  have hlv := lives4_any
  have HB := Lib.hid hb
  have HLV := Lib.hid hlv
  have HM := Lib.hid hm
  have kc := conv_bytes
  have hcap := hm.hcap
  have hmax := hm.hmax
  obtain rfl : n2 = more.length := hm.size.symm
  have hsm := hs
  unfold maxLen at hmax hsm
  clear hb h hlv hm
  by_cases hbig : 128 < s.size
  · have hb2 : (128 : Int) < (s.size : Int) := by omega
    go_enter Try.func7, Try.ntmps7
    go_wp2_with fail
    refine HB.out.mono ?_
    rintro e w1 ⟨g, rfl, hst⟩
    have H1 := Lib.hid hst.keep
    clear hst
    go_wp2_with fail
    refine (HLV.out w1).mono ?_
    rintro e w2 ⟨rfl, hk2⟩
    have H2 := Lib.hid (H1.out.trans hk2)
    clear hk2
    go_wp2
    go_ret
    exact ⟨rfl, H2.out⟩
  · have hb2 : ¬ ((128 : Int) < (s.size : Int)) := by omega
    go_enter Try.func7, Try.ntmps7
    go_wp2_with fail
    refine HB.out.mono ?_
    rintro e w1 ⟨g, rfl, hst⟩
    have H1 := Lib.hid hst
    clear hst
    go_wp2_with fail
    have hV1 := begunV_kept l
    have hL1 := begunV_len l
    generalize begunV l = V1 at *
    obtain ⟨at_, hat8, hat⟩ := mod8 i
    rw [hat]
    refine (st_crash_nil H1.out).mono ?_
    rintro e w2 ⟨rfl, hst⟩
    have H2 := Lib.hid hst
    clear hst H1
    have hk2 : (V1.crashV []).kept.length = 8 := (crash_kept_length V1 []).trans hV1
    have hwf := write_free (V := V1.crashV []) rfl rfl (i := at_) (by omega) (s := s) (by omega)
    have hff := flush_free (V := (V1.crashV []).add at_ s) rfl rfl
    have hst2 := stands_flushed (V := V1.crashV []) rfl (i := at_) (by omega) s
    go_wp2_with fail
    refine (st_write H2.out ((Keep.refl _ _).alloc _).drew (at_ : Int) (bytes_conv _ s hs _ _ rfl _ rfl) (fun a ha => by cases ha; exact Nat.le_refl _) (by simp [crash_nil_pend])).mono ?_
    rintro e w3 ⟨rfl, hst⟩
    rw [hwf.1] at hst
    rw [hwf.2]
    have H3 := Lib.hid hst
    clear hst H2
    go_wp2_with fail
    refine (st_flush H3.out).mono ?_
    rintro e w4 ⟨rfl, hst⟩
    rw [hff.1] at hst
    rw [hff.2]
    have H4 : Hid (SureI w w4 g at_ s 0) := Lib.hid ⟨_, Nat.le_refl _, by rw [keep_kept_length]; exact hk2, hst2, hst⟩
    clear hst H3 hst2 hwf hff hk2
    go_wp2_with fail
    go_loopw [13] (fun i wr => ∃ k : Nat, k ≤ more.length ∧ k ≤ 200 ∧ i = .int .i64 k ∧ Hid (SureI w wr g at_ s k)) (fun i _ => 200 - (intOf i).toNat)
    case atStart => exact ⟨0, by omega, by omega, rfl, H4⟩
    case round =>
      obtain ⟨k, hk1, hk2, rfl, HS⟩ := hrel
      clear H4
      by_cases hlt : k < more.length ∧ k < 200
      · obtain ⟨hlt, hlt2⟩ := hlt
        obtain ⟨V, hV1, hV2, hV3, hV⟩ := HS.out
        have HV := Lib.hid hV
        obtain ⟨b, o, rfl, hr⟩ := HM.out.at_ k hlt
        have hr1 := rangeAt_keep hr HV.out.keep (by simp)
        have hx := HM.out.each _ (List.getElem_mem hlt)
        obtain ⟨x, hxE⟩ : ∃ x, more[k] = x := ⟨_, rfl⟩
        rw [hxE] at hr1 hx
        clear hr hxE
        obtain ⟨kind, xi, xs, xA, xn, xcap, keep'⟩ := x
        dsimp only at hr1
        have HR := Lib.hid (And.intro hr1 (And.intro hx (And.intro hV1 (And.intro hV2 hV3))))
        clear hr1 hx hV hV1 hV2 hV3 HS
        by_cases k1 : kind = 1
        · subst k1
          go_wp2_with (refine wpList_load_mid rfl 58 _ rfl b (o + k * 4) rfl _ _ HR.out.1 Try.underlying58 rfl size58 ?_)
          refine (st_flush (HV.out.keep0 ((Keep.refl _ _).alloc _))).mono ?_
          rintro e w2 ⟨rfl, hst⟩
          have HN : Hid (SureI w w2 g at_ s (k + 1)) := Lib.hid ⟨_, by have := HR.out.2.2.1; have := onBut_len at_ V ⟨1, xi, xs, xA, xn, xcap, keep'⟩; omega, (onBut_kept at_ V _).trans HR.out.2.2.2.1, onBut_stands HR.out.2.2.2.2 ⟨1, xi, xs, xA, xn, xcap, keep'⟩, by simpa [ActV.onBut] using hst⟩
          clear hst
          go_wp2
          exact ⟨⟨k + 1, by omega, by omega, by go_num, HN⟩, by simp [intOf]; omega⟩
        by_cases k2 : kind = 2
        · subst k2
          go_wp2_with (refine wpList_load_mid rfl 58 _ rfl b (o + k * 4) rfl _ _ HR.out.1 Try.underlying58 rfl size58 ?_)
          refine (st_crash (HV.out.keep0 ((Keep.refl _ _).alloc _)) HR.out.2.1.keep).mono ?_
          rintro e w2 ⟨rfl, hst⟩
          have HN : Hid (SureI w w2 g at_ s (k + 1)) := Lib.hid ⟨_, by have := HR.out.2.2.1; have := onBut_len at_ V ⟨2, xi, xs, xA, xn, xcap, keep'⟩; omega, (onBut_kept at_ V _).trans HR.out.2.2.2.1, onBut_stands HR.out.2.2.2.2 ⟨2, xi, xs, xA, xn, xcap, keep'⟩, by simpa [ActV.onBut] using hst⟩
          clear hst
          go_wp2
          exact ⟨⟨k + 1, by omega, by omega, by go_num, HN⟩, by simp [intOf]; omega⟩
        by_cases k3 : kind = 3
        · subst k3
          go_wp2_with (refine wpList_load_mid rfl 58 _ rfl b (o + k * 4) rfl _ _ HR.out.1 Try.underlying58 rfl size58 ?_)
          refine (st_arm (HV.out.keep0 ((Keep.refl _ _).alloc _)) xi HR.out.2.1.i).mono ?_
          rintro e w2 ⟨rfl, hst⟩
          have HN : Hid (SureI w w2 g at_ s (k + 1)) := Lib.hid ⟨_, by have := HR.out.2.2.1; have := onBut_len at_ V ⟨3, xi, xs, xA, xn, xcap, keep'⟩; omega, (onBut_kept at_ V _).trans HR.out.2.2.2.1, onBut_stands HR.out.2.2.2.2 ⟨3, xi, xs, xA, xn, xcap, keep'⟩, by simpa [ActV.onBut] using hst⟩
          clear hst
          go_wp2
          exact ⟨⟨k + 1, by omega, by omega, by go_num, HN⟩, by simp [intOf]; omega⟩
        by_cases k4 : xi = (at_ : Int)
        · go_wp2_with (refine wpList_load_mid rfl 58 _ rfl b (o + k * 4) rfl _ _ HR.out.1 Try.underlying58 rfl size58 ?_)
          have HN : Hid (SureI w (wr.alloc (.cells #[.int .i64 kind, .int .i64 xi, .string xs, .slice xA xn xcap] 58)) g at_ s (k + 1)) := Lib.hid ⟨V, by have := HR.out.2.2.1; omega, HR.out.2.2.2.1, HR.out.2.2.2.2, (HV.out.keep0 ((Keep.refl _ _).alloc _))⟩
          subst k4
          go_wp2
          exact ⟨⟨k + 1, by omega, by omega, by go_num, HN⟩, by simp [intOf]; omega⟩
        go_wp2_with (refine wpList_load_mid rfl 58 _ rfl b (o + k * 4) rfl _ _ HR.out.1 Try.underlying58 rfl size58 ?_)
        refine (st_write HV.out (((Keep.refl _ _).alloc _).alloc _).drew xi (bytes_conv _ xs HR.out.2.1.s _ _ (by simp) _ rfl) (fun a ha => by cases ha; simp) (by have := HR.out.2.2.1; omega)).mono ?_
        rintro e w2 ⟨rfl, hst⟩
        have HN : Hid (SureI w w2 g at_ s (k + 1)) := Lib.hid ⟨_, by have := HR.out.2.2.1; have := onBut_len at_ V ⟨kind, xi, xs, xA, xn, xcap, keep'⟩; omega, (onBut_kept at_ V _).trans HR.out.2.2.2.1, onBut_stands HR.out.2.2.2.2 ⟨kind, xi, xs, xA, xn, xcap, keep'⟩, by simpa [ActV.onBut, k1, k2, k3, k4] using hst⟩
        clear hst
        go_wp2
        exact ⟨⟨k + 1, by omega, by omega, by go_num, HN⟩, by simp [intOf]; omega⟩
      · obtain ⟨V, hV1, hV2, hV3, hV⟩ := HS.out
        have HV := Lib.hid hV
        clear HS hV
        by_cases hlt1 : k < more.length
        · have hk200 : ¬ (k < 200) := fun h => hlt ⟨hlt1, h⟩
          go_wp2_with fail
          refine (st_crash HV.out hk).mono ?_
          rintro e w5 ⟨rfl, hst⟩
          have H5 := Lib.hid hst
          have hst5 := (hV3.crash keep)
          have hl5 : (V.crashV keep).kept.length = 8 := (crash_kept_length V keep).trans hV2
          have hrf := read_free (V := V.crashV keep) rfl (i := at_) (by omega)
          rw [hst5.has] at hrf
          clear hst hst5 hl5
          go_wp2_with fail
          refine (st_read H5.out at_).mono ?_
          rintro e w6 ⟨A6, n6, cap6, rfl, hb6, hst⟩
          have H6 := Lib.hid hst.keep
          rw [hrf.2] at hb6
          rw [hrf.1]
          have hn6 := hb6.size
          have hc6 := hb6.hcap
          have hm6 := hb6.hmax
          rw [padB_size (by omega)] at hn6
          subst hn6
          unfold maxLen at hm6
          have hcv := hb6.pre.conv
          clear hst hrf hV3 HV HM
          cases A6 with
          | none => exact absurd (hb6.ofNone rfl).1 (by decide)
          | some ad =>
            clear hb6
            go_wp2_with fail
            refine (HLV.out w6).mono ?_
            rintro e w7 ⟨rfl, hk7⟩
            have H7 := Lib.hid (H6.out.trans hk7)
            clear hk7
            go_wp2
            go_ret
            exact ⟨rfl, H7.out⟩
        · clear hlt
          go_wp2_with fail
          refine (st_crash HV.out hk).mono ?_
          rintro e w5 ⟨rfl, hst⟩
          have H5 := Lib.hid hst
          have hst5 := (hV3.crash keep)
          have hl5 : (V.crashV keep).kept.length = 8 := (crash_kept_length V keep).trans hV2
          have hrf := read_free (V := V.crashV keep) rfl (i := at_) (by omega)
          rw [hst5.has] at hrf
          clear hst hst5 hl5
          go_wp2_with fail
          refine (st_read H5.out at_).mono ?_
          rintro e w6 ⟨A6, n6, cap6, rfl, hb6, hst⟩
          have H6 := Lib.hid hst.keep
          rw [hrf.2] at hb6
          rw [hrf.1]
          have hn6 := hb6.size
          have hc6 := hb6.hcap
          have hm6 := hb6.hmax
          rw [padB_size (by omega)] at hn6
          subst hn6
          unfold maxLen at hm6
          have hcv := hb6.pre.conv
          clear hst hrf hV3 HV HM
          cases A6 with
          | none => exact absurd (hb6.ofNone rfl).1 (by decide)
          | some ad =>
            clear hb6
            go_wp2_with fail
            refine (HLV.out w6).mono ?_
            rintro e w7 ⟨rfl, hk7⟩
            have H7 := Lib.hid (H6.out.trans hk7)
            clear hk7
            go_wp2
            go_ret
            exact ⟨rfl, H7.out⟩
end Go.Proofs.Ytkhggpopohkjfaa
