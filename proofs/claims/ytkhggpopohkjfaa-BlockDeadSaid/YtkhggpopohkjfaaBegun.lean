/- ambrylaw04.begun: a disk of eight sectors behind calls. Premise: the calls lie there. -/
import Derived.Test.YtkhggpopohkjfaaLives4
namespace Go.Proofs.Ytkhggpopohkjfaa
open Go.RowKit Go.Proofs Go.Lib
set_option linter.unusedVariables false
set_option linter.unusedSimpArgs false

/-- What a call makes of a disk. -/
def ActV.on (V : DiskV) (x : ActV) : DiskV := if x.kind = 1 then V.flushV else if x.kind = 2 then V.crashV x.keep else if x.kind = 3 then V.armV x.i else V.writeV x.i x.s
theorem on_len (V : DiskV) (x : ActV) : (ActV.on V x).pend.length ≤ V.pend.length + 1 := by
  unfold ActV.on
  (repeat' split)
  · have := flush_len V; omega
  · show 0 ≤ _; omega
  · rw [arm_len]; omega
  · exact write_len V _ _
theorem on_kept (V : DiskV) (x : ActV) : (ActV.on V x).kept.length = V.kept.length := by
  unfold ActV.on
  (repeat' split)
  · exact flush_kept_length V
  · exact crash_kept_length V _
  · rw [arm_kept]
  · rw [write_kept]
def begunTo (l : List ActV) (k : Nat) : DiskV := (l.take k).foldl ActV.on (newV 8)
theorem begunTo_succ (l : List ActV) (k : Nat) (h : k < l.length) : begunTo l (k + 1) = ActV.on (begunTo l k) l[k] := by
  unfold begunTo
  rw [List.take_succ_eq_append_getElem h, List.foldl_append]
  rfl
theorem begunTo_len (l : List ActV) (k : Nat) : (begunTo l k).pend.length ≤ k := by
  induction k with
  | zero => simp [begunTo, newV]
  | succ k ih =>
    by_cases h : k < l.length
    · rw [begunTo_succ l k h]
      have := on_len (begunTo l k) l[k]
      omega
    · have : begunTo l (k + 1) = begunTo l k := by unfold begunTo; rw [List.take_of_length_le (by omega), List.take_of_length_le (by omega)]
      rw [this]
      omega
theorem begunTo_kept (l : List ActV) (k : Nat) : (begunTo l k).kept.length = 8 := by
  unfold begunTo
  generalize l.take k = m
  have : ∀ (m : List ActV) (V : DiskV), (m.foldl ActV.on V).kept.length = V.kept.length := by
    intro m
    induction m with
    | nil => exact fun _ => rfl
    | cons x m ih => intro V; rw [List.foldl_cons, ih, on_kept]
  rw [this]
  rfl
def begunV (l : List ActV) : DiskV := begunTo l (min l.length 200)

theorem size58 : (Try.prog.info? 58).map (·.size) = some 4 := by kernel_rfl
theorem conv_bytes (w : World) (s : ByteArray) : (convert 9 42 (.string s)).run Try.prog w = .ok (.slice (some ⟨w.heap.size, 0, none⟩) s.size (grownCap w s.size 0 5))
      (w.drew.alloc (.cells (bytesRow s (grownCap w s.size 0 5)) 5 ((bytesRow s (grownCap w s.size 0 5)).size, (bytesRow s (grownCap w s.size 0 5)).size + 1))) :=
  run_bytes_of_string w 9 42 5 s Try.underlying9 Try.underlying42 Try.underlying5
theorem bytes_conv (w : World) (s : ByteArray) (hs : s.size ≤ maxLen) (fr : Nat × Nat) (b : Nat) (hb : b = w.heap.size) (c : Nat) (hc : c = grownCap w s.size 0 5) : BytesIn (w.alloc (.cells (bytesRow s c) 5 fr)).drew (some ⟨b, 0, none⟩) s.size c s := by
  subst hb hc
  refine ⟨rfl, grownCap_ge _ _ _ _, grownCap_le_maxLen _ _ _ _ hs, fun a ha i hi => ?_, fun ha => by cases ha⟩
  cases ha
  rw [addr_add, Nat.zero_add]
  exact (cell_of_row _ _ i _ _ _ (heap_alloc_new w _)).trans (bytesRow_at s _ i hi)

set_option maxRecDepth 100000 in
set_option maxHeartbeats 2000000 in
theorem begun_any (A : Option Addr) (n cap : Nat) (l : List ActV) (w : World) (h : ActsIn w A n cap l) :
    Calls Try.prog 33 #[.slice A n cap] w fun e w' => ∃ g, e = .returned (.pointer (some ⟨g, 0, none⟩)) ∧ StH w w' g (begunV l) [] := by
  have hn := st_new (w0 := w) (w := w) (hs := []) 8 (by decide) (by decide) (Keep.refl _ _) (by simp)
  have HN := Lib.hid hn
  have HH := Lib.hid h
  have kc := conv_bytes
  have hcap := h.hcap
  have hmax := h.hmax
  obtain rfl : n = l.length := h.size.symm
  unfold maxLen at hmax
  clear hn h
  go_enter Try.func33, Try.ntmps33
  go_wp2_with fail
  refine HN.out.mono ?_
  rintro e w1 ⟨g, rfl, hst⟩
  have H1 : Hid (StH w w1 g (begunTo l 0) []) := Lib.hid hst
  clear hst HN
  go_wp2_with fail
  go_loopw [5] (fun i wr => ∃ k : Nat, k ≤ l.length ∧ k ≤ 200 ∧ i = .int .i64 k ∧ Hid (StH w wr g (begunTo l k) [])) (fun i _ => 200 - (intOf i).toNat)
  case atStart => exact ⟨0, by omega, by omega, rfl, H1⟩
  case round =>
    obtain ⟨k, hk, hk2, rfl, HS⟩ := hrel
    clear H1
    by_cases hlt : k < l.length
    · by_cases hlt2 : k < 200
      · obtain ⟨b, o, rfl, hr⟩ := HH.out.at_ k hlt
        have hr1 := rangeAt_keep hr HS.out.keep (by simp)
        have hx := HH.out.each _ (List.getElem_mem hlt)
        have hsucc := begunTo_succ l k hlt
        have hlen := begunTo_len l k
        obtain ⟨x, hxE⟩ : ∃ x, l[k] = x := ⟨_, rfl⟩
        rw [hxE] at hr1 hx hsucc
        clear hr hxE
        obtain ⟨kind, xi, xs, xA, xn, xcap, keep⟩ := x
        dsimp only at hr1
        have HR := Lib.hid (And.intro hr1 (And.intro hx (And.intro hsucc hlen)))
        clear hr1 hx hsucc hlen
        by_cases k1 : kind = 1
        · subst k1
          go_wp2_with (refine wpList_load_mid rfl 58 _ rfl b (o + k * 4) rfl _ _ HR.out.1 Try.underlying58 rfl size58 ?_)
          refine (st_flush ((HS.out.keep0 ((Keep.refl _ _).alloc _)))).mono ?_
          rintro e w2 ⟨rfl, hst⟩
          have HN : Hid (StH w w2 g (begunTo l (k + 1)) []) := Lib.hid (by rw [HR.out.2.2.1]; simpa [ActV.on] using hst)
          clear hst
          go_wp2
          exact ⟨⟨k + 1, by omega, by omega, by go_num, HN⟩, by simp [intOf]; omega⟩
        by_cases k2 : kind = 2
        · subst k2
          go_wp2_with (refine wpList_load_mid rfl 58 _ rfl b (o + k * 4) rfl _ _ HR.out.1 Try.underlying58 rfl size58 ?_)
          refine (st_crash ((HS.out.keep0 ((Keep.refl _ _).alloc _))) HR.out.2.1.keep).mono ?_
          rintro e w2 ⟨rfl, hst⟩
          have HN : Hid (StH w w2 g (begunTo l (k + 1)) []) := Lib.hid (by rw [HR.out.2.2.1]; simpa [ActV.on] using hst)
          clear hst
          go_wp2
          exact ⟨⟨k + 1, by omega, by omega, by go_num, HN⟩, by simp [intOf]; omega⟩
        by_cases k3 : kind = 3
        · subst k3
          go_wp2_with (refine wpList_load_mid rfl 58 _ rfl b (o + k * 4) rfl _ _ HR.out.1 Try.underlying58 rfl size58 ?_)
          refine (st_arm ((HS.out.keep0 ((Keep.refl _ _).alloc _))) xi HR.out.2.1.i).mono ?_
          rintro e w2 ⟨rfl, hst⟩
          have HN : Hid (StH w w2 g (begunTo l (k + 1)) []) := Lib.hid (by rw [HR.out.2.2.1]; simpa [ActV.on] using hst)
          clear hst
          go_wp2
          exact ⟨⟨k + 1, by omega, by omega, by go_num, HN⟩, by simp [intOf]; omega⟩
        go_wp2_with (refine wpList_load_mid rfl 58 _ rfl b (o + k * 4) rfl _ _ HR.out.1 Try.underlying58 rfl size58 ?_)
        refine (st_write HS.out (((Keep.refl _ _).alloc _).alloc _).drew xi (bytes_conv _ xs HR.out.2.1.s _ _ (by simp) _ rfl) (fun a ha => by cases ha; simp) (by have := HR.out.2.2.2; omega)).mono ?_
        rintro e w2 ⟨rfl, hst⟩
        have HN : Hid (StH w w2 g (begunTo l (k + 1)) []) := Lib.hid (by rw [HR.out.2.2.1]; simpa [ActV.on, k1, k2, k3] using hst)
        clear hst
        go_wp2
        exact ⟨⟨k + 1, by omega, by omega, by go_num, HN⟩, by simp [intOf]; omega⟩
      · obtain rfl : k = 200 := by omega
        have HF : Hid (StH w wr g (begunV l) []) := Lib.hid (by unfold begunV; rw [Nat.min_eq_right (by omega)]; exact HS.out)
        clear HS
        go_wp2
        go_ret
        exact ⟨g, rfl, HF.out⟩
    · obtain rfl : k = l.length := by omega
      have HF : Hid (StH w wr g (begunV l) []) := Lib.hid (by unfold begunV; rw [Nat.min_eq_left (by omega)]; exact HS.out)
      clear HS
      go_wp2
      go_ret
      exact ⟨g, rfl, HF.out⟩
theorem begunV_kept (l : List ActV) : (begunV l).kept.length = 8 := begunTo_kept l _
theorem begunV_len (l : List ActV) : (begunV l).pend.length ≤ 200 := by have := begunTo_len l (min l.length 200); unfold begunV; omega
end Go.Proofs.Ytkhggpopohkjfaa
