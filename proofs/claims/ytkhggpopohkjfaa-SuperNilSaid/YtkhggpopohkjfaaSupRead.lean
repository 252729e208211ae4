/- super.Read: any bytes read as a super. Premise: they lie there. -/
import Derived.Test.YtkhggpopohkjfaaSupBytes
import Derived.Test.YtkhggpopohkjfaaReadEnd
import Derived.Test.YtkhggpopohkjfaaArrEq
namespace Go.Proofs.Ytkhggpopohkjfaa
open Go.RowKit Go.Proofs Go.Lib
set_option linter.unusedVariables false
set_option linter.unusedSimpArgs false

/-- What bytes say of a super. -/
def decSup (s : ByteArray) : SupV := ⟨wrap64 (numAt s 4 8 : Nat), (numAt s 12 4 : Nat) - 1, wrap64 (numAt s 16 8 : Nat), (numAt s 24 4 : Nat), wrap64 (numAt s 28 8 : Nat), wrap64 (numAt s 36 8 : Nat)⟩
def supOk (s : ByteArray) : Bool := decide (s.size = 128) && okSup (decSup s) && decide (supB (decSup s) = s)
def supS (s : ByteArray) : SupV := if supOk s then decSup s else sup0
def supE (s : ByteArray) : Int := if supOk s then 0 else 4

/-- A region that draws its order and only reads. -/
theorem wp_region_same {P : Program} {id : Nat} {Q : Exit → Act → World → Prop} {a : Act} {W : World} {l : List Oper} (hm : P.follows .mixedOrders = true) (hB : Region.lexB .any l.toArray = true)
    (h : wpQuiet P l.toArray (fun w' => w' = W.drew) (fun a' => ∀ w', w' = W.drew → Q .normal a' w') l a) : (Code.region id l.toArray true).wp P Q a W :=
  wp_region_quiet (C := fun w' => w' = W.drew) hm hB rfl (by simpa using h)

theorem quiet_load {P : Program} {C : World → Prop} {o : Oper} {a : Act} {K : Act → Prop} (ty : TypeId) (x : Operand) (h : o.op = .load ty x) (v : Value) (hr : ∀ w, C w → (Instr.loadAt ty (a.eval x)).run P w = .ok v w) (hk : K (a.put o.dst v)) : o.quiet P a C K :=
  ⟨v, fun w hw => by
    unfold Oper.quietAt execOp
    simp only [h, Sem.run_bind, hr w hw, Sem.run_pure, Result.andThen_ok]
    exact ⟨rfl, rfl⟩, hk⟩

theorem size100 : (Try.prog.info? 100).map (·.size) = some 6 := by kernel_rfl
theorem supread_end {w wx : World} {tm : Array Value} {sv : SupV} {x : Int} {R : Ending → World → Prop} (h0 : tm.getD 2 undef = .pointer (some ⟨w.heap.size, 0, none⟩)) (h1 : tm.getD 3 undef = .int .i64 x)
    (hb : wx.heap[w.heap.size]? = some sv.obj) (hR : R (.returned (.tuple #[sv.val, .int .i64 x])) wx) : bodyPost Try.prog Try.f66 R .ret ⟨tm, []⟩ wx := by
  refine bodyPost_ret (v := .tuple #[sv.val, .int .i64 x]) ?_ rfl hR
  rw [results_cell_tmp rfl]
  have hl := run_loadVar_row (P := Try.prog) wx w.heap.size 100 100 _ (0, 0) _ hb Try.underlying100 rfl size100
  show ((asAddr (tm.getD 2 undef)).run Try.prog wx).andThen _ = _
  rw [h0, h1]
  simp only [asAddr, Sem.run_pure, Result.andThen_ok, hl]
  rfl

set_option maxRecDepth 100000 in
theorem supread_short (p : Option Addr) (n cap : Nat) (w : World) (h : n ≠ 128) :
    Calls Try.prog 66 #[.slice p n cap] w fun e w' => e = .returned (.tuple #[sup0.val, .int .i64 4]) ∧ Keep [] w w' := by
  have h2 : ¬ ((n : Int) = 128) := by omega
  unfold sup0 SupV.val
  go_enter Try.func66, Try.ntmps66
  go_wp2
  refine bodyPost_ret (v := .tuple #[.agg #[.int .i64 0, .int .i64 0, .int .i64 0, .int .i64 0, .int .i64 0, .int .i64 0], .int .i64 4]) ?_ rfl ⟨rfl, (Keep.refl _ _).alloc _⟩
  rw [results_cell_tmp rfl]
  go_simp

set_option maxRecDepth 100000 in
set_option maxHeartbeats 8000000 in
theorem supread_full (r o cap : Nat) (s : ByteArray) (w : World) (hn : s.size = 128) (hcap : 128 ≤ cap) (hcm : cap ≤ maxLen) (hc : Str8 w r o s) :
    Calls Try.prog 66 #[.slice (some ⟨r, o, none⟩) 128 cap] w fun e w' => e = .returned (.tuple #[(supS s).val, .int .i64 (supE s)]) ∧ Keep [] w w' := by
  have hrl : r < w.heap.size := block_lt_of_cell (hc 0 (by omega))
  have hcap2 : cap ≤ 9223372036854775807 := hcm
  have hc1 : Str8 (w.alloc sup0.obj) r o s := hc.keep ((Keep.refl [] w).alloc _) (by simp)
  have hsz1 : (s.extract 4 128).size = 124 := by simp [hn]
  have hB0 : (w.alloc sup0.obj).heap[w.heap.size]? = some sup0.obj := heap_alloc_new w _
  have hnr := newrd_any r (o + 4) 124 (cap - 4) (s.extract 4 128) (w.alloc sup0.obj) hsz1 (by decide) (by decide) (hc1.extract 4 128 (by omega))
  have HNR := Lib.hid hnr
  have HC1 := Lib.hid hc1
  have hne1 : ¬ cap = 4 := by omega
  clear hnr hc1 hc hcm
  have eG : beNum (bytesAt (s.extract 4 128) 0 8) = numAt s 4 8 := numAt_extract s 4 128 0 8 (by decide) (by omega)
  have eR : beNum (bytesAt (s.extract 4 128) 8 4) = numAt s 12 4 := numAt_extract s 4 128 8 4 (by decide) (by omega)
  have eS : beNum (bytesAt (s.extract 4 128) 12 8) = numAt s 16 8 := numAt_extract s 4 128 12 8 (by decide) (by omega)
  have eE : beNum (bytesAt (s.extract 4 128) 20 4) = numAt s 24 4 := numAt_extract s 4 128 20 4 (by decide) (by omega)
  have eL : beNum (bytesAt (s.extract 4 128) 24 8) = numAt s 28 8 := numAt_extract s 4 128 24 8 (by decide) (by omega)
  have eM : beNum (bytesAt (s.extract 4 128) 32 8) = numAt s 36 8 := numAt_extract s 4 128 32 8 (by decide) (by omega)
  obtain ⟨R, hR, hR2⟩ : ∃ R, numAt s 12 4 = R ∧ R < 4294967296 := ⟨_, rfl, numAt_lt s 12 4 (by omega)⟩
  obtain ⟨E, hE, hE2⟩ : ∃ E, numAt s 24 4 = E ∧ E < 4294967296 := ⟨_, rfl, numAt_lt s 24 4 (by omega)⟩
  have hdec : decSup s = ⟨wrap64 (numAt s 4 8 : Nat), (R : Int) - 1, wrap64 (numAt s 16 8 : Nat), E, wrap64 (numAt s 28 8 : Nat), wrap64 (numAt s 36 8 : Nat)⟩ := by unfold decSup; rw [hR, hE]
  obtain ⟨G, hG⟩ : ∃ G, wrap64 (numAt s 4 8 : Nat) = G := ⟨_, rfl⟩
  obtain ⟨S, hS⟩ : ∃ S, wrap64 (numAt s 16 8 : Nat) = S := ⟨_, rfl⟩
  obtain ⟨L, hL⟩ : ∃ L, wrap64 (numAt s 28 8 : Nat) = L := ⟨_, rfl⟩
  obtain ⟨M, hM⟩ : ∃ M, wrap64 (numAt s 36 8 : Nat) = M := ⟨_, rfl⟩
  rw [hR] at eR
  rw [hE] at eE
  rw [hG, hS, hL, hM] at hdec
  have rG : wrap64 (beNum (bytesAt (s.extract 4 128) 0 8) : Nat) = G := by rw [eG, hG]
  have rR : wrap64 (beNum (bytesAt (s.extract 4 128) 8 4) : Nat) = (R : Int) := by rw [eR]; exact IntWalk.wrap64_in (R : Int) (by omega)
  have rS : wrap64 (beNum (bytesAt (s.extract 4 128) 12 8) : Nat) = S := by rw [eS, hS]
  have rE : wrap64 (beNum (bytesAt (s.extract 4 128) 20 4) : Nat) = (E : Int) := by rw [eE]; exact IntWalk.wrap64_in (E : Int) (by omega)
  have rL : wrap64 (beNum (bytesAt (s.extract 4 128) 24 8) : Nat) = L := by rw [eL, hL]
  have rM : wrap64 (beNum (bytesAt (s.extract 4 128) 32 8) : Nat) = M := by rw [eM, hM]
  have HEQ := Lib.hid (And.intro rG (And.intro rR (And.intro rS (And.intro rE (And.intro rL (And.intro rM hdec))))))
  clear eG eR eS eE eL eM hG hS hL hM hR hE hdec rG rR rS rE rL rM
  have hsup0 : sup0.obj = .cells #[.int .i64 0, .int .i64 0, .int .i64 0, .int .i64 0, .int .i64 0, .int .i64 0] 100 := rfl
  rw [hsup0] at HNR HC1 hB0
  have HB0 := Lib.hid hB0
  clear hsup0 hB0
  go_enter Try.func66, Try.ntmps66
  go_wp2_with fail
  refine HNR.out.mono ?_
  rintro e w1 ⟨g1, r1, cap1, rfl, hg1, hr1, hgr, hcc1, hcm1, hh1, hs1, hk1⟩
  have hgw : w.heap.size + 1 ≤ g1 := by simpa using hg1
  have hrw : w.heap.size + 1 ≤ r1 := by simpa using hr1
  have R1 : Rdg s (s.extract 4 128) r o w.heap.size g1 r1 cap1 124 sup0.obj 0 w1 := ⟨HC1.out.keep hk1 (by simp), hk1.heap HB0.out (by simp), hh1, fun i hi => by have := hs1 i hi; rwa [Nat.zero_add] at this⟩
  have K1 : Keep [] w w1 := ((Keep.refl _ _).alloc _).trans hk1
  clear hh1 hs1 hk1 hg1 hr1
  have HR1 := Lib.hid (And.intro R1 K1)
  clear R1 K1
  go_wp2_with fail
  refine (ri64_any g1 r1 cap1 124 0 (s.extract 4 128) w1 hsz1 hcc1 hcm1 (by decide) (by decide) HR1.out.1.rd HR1.out.1.row).mono ?_
  rintro e w2 ⟨rfl, hh, hk⟩
  have HR2 := Lib.hid (And.intro (HR1.out.1.step (k := 8) (by omega) (by omega) (by omega) hh hk) (HR1.out.2.trans' hk (by simp; omega)))
  rw [HEQ.out.1]
  clear hh hk HR1
  go_wp2_with fail
  refine (ru32_any g1 r1 cap1 124 8 (s.extract 4 128) w2 hsz1 hcc1 hcm1 (by decide) (by decide) HR2.out.1.rd HR2.out.1.row).mono ?_
  rintro e w3 ⟨rfl, hh, hk⟩
  have HR3 := Lib.hid (And.intro (HR2.out.1.step (k := 4) (by omega) (by omega) (by omega) hh hk) (HR2.out.2.trans' hk (by simp; omega)))
  rw [HEQ.out.2.1]
  clear hh hk HR2
  go_wp2_with fail
  refine (ri64_any g1 r1 cap1 124 12 (s.extract 4 128) w3 hsz1 hcc1 hcm1 (by decide) (by decide) HR3.out.1.rd HR3.out.1.row).mono ?_
  rintro e w4 ⟨rfl, hh, hk⟩
  have HR4 := Lib.hid (And.intro (HR3.out.1.step (k := 8) (by omega) (by omega) (by omega) hh hk) (HR3.out.2.trans' hk (by simp; omega)))
  rw [HEQ.out.2.2.1]
  clear hh hk HR3
  go_wp2_with fail
  refine (ru32_any g1 r1 cap1 124 20 (s.extract 4 128) w4 hsz1 hcc1 hcm1 (by decide) (by decide) HR4.out.1.rd HR4.out.1.row).mono ?_
  rintro e w5 ⟨rfl, hh, hk⟩
  have HR5 := Lib.hid (And.intro (HR4.out.1.step (k := 4) (by omega) (by omega) (by omega) hh hk) (HR4.out.2.trans' hk (by simp; omega)))
  rw [HEQ.out.2.2.2.1]
  clear hh hk HR4
  go_wp2_with fail
  refine (ri64_any g1 r1 cap1 124 24 (s.extract 4 128) w5 hsz1 hcc1 hcm1 (by decide) (by decide) HR5.out.1.rd HR5.out.1.row).mono ?_
  rintro e w6 ⟨rfl, hh, hk⟩
  have HR6 := Lib.hid (And.intro (HR5.out.1.step (k := 8) (by omega) (by omega) (by omega) hh hk) (HR5.out.2.trans' hk (by simp; omega)))
  rw [HEQ.out.2.2.2.2.1]
  clear hh hk HR5
  go_wp2_with fail
  refine (ri64_any g1 r1 cap1 124 32 (s.extract 4 128) w6 hsz1 hcc1 hcm1 (by decide) (by decide) HR6.out.1.rd HR6.out.1.row).mono ?_
  rintro e w7 ⟨rfl, hh, hk⟩
  have HR7 := Lib.hid (And.intro (HR6.out.1.step (k := 8) (by omega) (by omega) (by omega) hh hk) (HR6.out.2.trans' hk (by simp; omega)))
  rw [HEQ.out.2.2.2.2.2.1]
  clear hh hk HR6
  have hR3 : (0 : Int) ≤ R := by omega
  have hR4 : (R : Int) ≤ 4294967295 := by omega
  go_wp2_with fail
  obtain ⟨D, hD⟩ : ∃ D : SupV, D = ⟨G, (R : Int) - 1, S, E, L, M⟩ := ⟨_, rfl⟩
  have hsb := supbytes_any ⟨G, (R : Int) - 1, S, E, L, M⟩ (w7.alloc (SupV.obj ⟨G, (R : Int) - 1, S, E, L, M⟩))
  rw [← hD] at hsb
  have hdec : decSup s = D := by rw [hD]; exact HEQ.out.2.2.2.2.2.2
  have hbx : (w7.alloc (SupV.obj ⟨G, (R : Int) - 1, S, E, L, M⟩)).heap[w7.heap.size]? = some D.obj := by rw [hD]; exact heap_alloc_new w7 _
  have hk7 : Keep [] w (w7.alloc (SupV.obj ⟨G, (R : Int) - 1, S, E, L, M⟩)) := HR7.out.2.alloc _
  have hB7 := ((Keep.refl [] w7).alloc (SupV.obj ⟨G, (R : Int) - 1, S, E, L, M⟩)).heap HR7.out.1.box (by simp)
  have hs7 := HR7.out.1.src.keep ((Keep.refl [] w7).alloc (SupV.obj ⟨G, (R : Int) - 1, S, E, L, M⟩)) (by simp)
  unfold SupV.val SupV.obj at hsb
  have hDv : D.val = .agg #[.int .i64 G, .int .i64 ((R : Int) - 1), .int .i64 S, .int .i64 E, .int .i64 L, .int .i64 M] := by rw [hD]; rfl
  have HSB := Lib.hid (And.intro hsb (And.intro hdec (And.intro hbx (And.intro hk7 (And.intro hB7 hs7)))))
  clear hsb hdec hbx hk7 hB7 hs7 HNR HC1 HB0 hne1
  rw [hD] at HSB
  refine HSB.out.1.mono ?_
  rintro e w8 ⟨v, rfl, hk8, hrow⟩
  have hk8w := HSB.out.2.2.2.1.trans hk8
  have hk8d := hk8.drew
  have hB8 := hk8d.heap HSB.out.2.2.2.2.1 (by simp)
  have hx8 := hk8d.heap HSB.out.2.2.1 (by simp)
  have hs8 := HSB.out.2.2.2.2.2.keep hk8d (by simp)
  cases hok : okSup ⟨G, (R : Int) - 1, S, E, L, M⟩ with
  | false =>
    have hno : supOk s = false := by unfold supOk; rw [HEQ.out.2.2.2.2.2.2, hok]; simp
    have HK := Lib.hid (And.intro hno (And.intro hk8w hB8))
    clear hrow hx8 hs8 hk8 hk8d hno hk8w hB8 HEQ HSB HR7
    rw [if_neg (by simp)]
    go_wp2_with fail
    refine wp_region_same (by kernel_rfl) (by kernel_rfl) ?_
    repeat (go_big_quiet_step (fail))
    refine wpQuiet_nil ?_
    rintro _ rfl
    go_wp2_with (refine wpList_store_at rfl 100 _ _ rfl w.heap.size 0 [.int .i64 0, .int .i64 0, .int .i64 0, .int .i64 0, .int .i64 0, .int .i64 0] (by simp [Act.eval, Act.put]) (by simp [Act.eval, Act.put]) [.int .i64 0, .int .i64 0, .int .i64 0, .int .i64 0, .int .i64 0, .int .i64 0] 100 HK.out.2.2 (by decide) size100 (by simp [Value.oneCell']) ?_)
    refine supread_end (w := w) (sv := sup0) (x := 4) rfl rfl (setRow_same HK.out.2.2 _) ?_
    refine ⟨?_, HK.out.2.1.drew.putRow _ (.inr (Nat.le_refl _))⟩
    unfold supS supE
    rw [HK.out.1]
    rfl
  | true =>
    have hv : ∃ B c, v = .slice (some ⟨B, 0, none⟩) 128 c := by
      rw [hok] at hrow
      rcases hrow.2 with ⟨_, h2⟩ | ⟨g', cap', cur, h1, _⟩
      · simp at h2
      · exact ⟨_, _, by rw [h1]; rfl⟩
    obtain ⟨B, c, rfl⟩ := hv
    rw [hok] at hrow
    have hrow8 : w8.drew.ownsRow _ 5 1 (.slice (some ⟨B, 0, none⟩) 128 c) 128 (strCells (supB ⟨G, (R : Int) - 1, S, E, L, M⟩)) := hrow.drew
    have hbs := supB_size ⟨G, (R : Int) - 1, S, E, L, M⟩
    obtain ⟨X, hX⟩ : ∃ X, supB ⟨G, (R : Int) - 1, S, E, L, M⟩ = X := ⟨_, rfl⟩
    rw [hX] at hrow8 hbs
    have hl1 : w8.drew.rangeAt B 0 (strCells X) := fun j u hu => by
      have hj : j < 128 := by have := (List.getElem?_eq_some_iff.1 hu).1; rw [strCells_length] at this; omega
      rw [Nat.zero_add, hrow8.cellAt j (by omega)]
      exact hu
    have hl2 : w8.drew.rangeAt r o (strCells s) := fun j u hu => by
      have hj : j < 128 := by have := (List.getElem?_eq_some_iff.1 hu).1; rw [strCells_length] at this; omega
      rw [hs8 j (by omega)]
      simp only [strCells, List.getElem?_map] at hu
      rw [List.getElem?_eq_getElem (by show j < s.size; omega)] at hu
      exact hu
    have r1' := run_loadAt_mid (P := Try.prog) w8.drew B 0 144 (strCells X) _ hl1 underlying144 rfl (by rw [strCells_length, hbs]; exact size144)
    have r2' := run_loadAt_mid (P := Try.prog) w8.drew r o 144 (strCells s) _ hl2 underlying144 rfl (by rw [strCells_length, hn]; exact size144)
    have r3' := fun wz : World => neq144 X s wz hbs hn
    have r4' := fun wz : World => arrayAt144 (some ⟨B, 0, none⟩) c wz
    have r5' := fun wz : World => arrayAt144 (some ⟨r, o, none⟩) cap wz
    obtain ⟨A1, hA1⟩ : ∃ A1, (strCells X).toArray = A1 := ⟨_, rfl⟩
    obtain ⟨A2, hA2⟩ : ∃ A2, (strCells s).toArray = A2 := ⟨_, rfl⟩
    simp only [hA1, hA2] at r3'
    rw [hA1] at r1'
    rw [hA2] at r2'
    have hsup : supOk s = decide (X = s) := by unfold supOk; rw [HEQ.out.2.2.2.2.2.2, hok, hX]; simp [hn]
    obtain ⟨b, hb⟩ : ∃ b, decide (X = s) = b := ⟨_, rfl⟩
    simp only [hb] at hsup r3'
    have hdec : decSup s = ⟨G, (R : Int) - 1, S, E, L, M⟩ := HEQ.out.2.2.2.2.2.2
    have HK := Lib.hid (And.intro hsup (And.intro hk8w (And.intro hB8 (And.intro hdec hx8))))
    clear hrow hx8 hs8 hk8 hk8d hsup hk8w hB8 HEQ HSB HR7 hA1 hA2 hX hb hrow8 hl1 hl2 hdec hok
    rw [if_pos rfl]
    go_wp2_with fail
    refine wp_region_same (by kernel_rfl) (by kernel_rfl) ?_
    repeat (go_big_quiet_step (fail))
    refine BigFrame.wpQuiet_want (by rfl) fun K hK => quiet_load 144 _ rfl (.agg A1) (fun w hw => by subst hw; exact r1') ?_
    refine hK _ ?_
    clear hK K
    simp only [Act.put, List.setIfInBounds_toArray, List.set]
    repeat (go_big_quiet_step (fail))
    refine BigFrame.wpQuiet_want (by rfl) fun K hK => quiet_load 144 _ rfl (.agg A2) (fun w hw => by subst hw; exact r2') ?_
    refine hK _ ?_
    clear hK K
    simp only [Act.put, List.setIfInBounds_toArray, List.set]
    repeat (go_big_quiet_step (fail))
    refine wpQuiet_nil ?_
    rintro _ rfl
    cases b with
    | false =>
      go_wp2_with (refine wpList_store_at rfl 100 _ _ rfl w.heap.size 0 [.int .i64 0, .int .i64 0, .int .i64 0, .int .i64 0, .int .i64 0, .int .i64 0] (by simp [Act.eval, Act.put]) (by simp [Act.eval, Act.put]) [.int .i64 0, .int .i64 0, .int .i64 0, .int .i64 0, .int .i64 0, .int .i64 0] 100 HK.out.2.2.1 (by decide) size100 (by simp [Value.oneCell']) ?_)
      refine supread_end (w := w) (sv := sup0) (x := 4) rfl rfl (setRow_same HK.out.2.2.1 _) ?_
      refine ⟨?_, HK.out.2.1.drew.putRow _ (.inr (Nat.le_refl _))⟩
      unfold supS supE
      rw [HK.out.1]
      rfl
    | true =>
      have hxr : w8.drew.rangeAt w7.heap.size 0 [.int .i64 G, .int .i64 ((R : Int) - 1), .int .i64 S, .int .i64 E, .int .i64 L, .int .i64 M] := range_of_row HK.out.2.2.2.2 0 _ (fun j u hu => by rw [Nat.zero_add]; exact hu)
      go_wp2_with (first
        | (refine wpList_load_mid rfl 100 _ rfl w7.heap.size 0 (by simp [Act.eval, Act.put]) [.int .i64 G, .int .i64 ((R : Int) - 1), .int .i64 S, .int .i64 E, .int .i64 L, .int .i64 M] _ hxr Try.underlying100 rfl size100 ?_)
        | (refine wpList_store_at rfl 100 _ _ rfl w.heap.size 0 [.int .i64 G, .int .i64 ((R : Int) - 1), .int .i64 S, .int .i64 E, .int .i64 L, .int .i64 M] (by simp [Act.eval, Act.put]) (by simp [Act.eval, Act.put]) [.int .i64 0, .int .i64 0, .int .i64 0, .int .i64 0, .int .i64 0, .int .i64 0] 100 HK.out.2.2.1 (by simp) size100 (by simp [Value.oneCell']) ?_))
      refine supread_end (w := w) (sv := ⟨G, (R : Int) - 1, S, E, L, M⟩) (x := 0) ?_ ?_ (setRow_same HK.out.2.2.1 _) ?_
      · rfl
      · rfl
      refine ⟨?_, HK.out.2.1.drew.putRow _ (.inr (Nat.le_refl _))⟩
      unfold supS supE
      rw [HK.out.1, HK.out.2.2.2.1]
      rfl

/-- super.Read of any bytes. -/
theorem supread_any (A : Option Addr) (n cap : Nat) (s : ByteArray) (w : World) (h : BytesIn w A n cap s) :
    Calls Try.prog 66 #[.slice A n cap] w fun e w' => e = .returned (.tuple #[(supS s).val, .int .i64 (supE s)]) ∧ Keep [] w w' := by
  by_cases hn : n = 128
  · subst hn
    obtain ⟨r, o, h1 | h1, h2⟩ := h.at
    · subst h1
      exact supread_full r o cap s w h.size h.hcap h.hmax h2
    · have := h.size; omega
  · have hno : supOk s = false := by unfold supOk; rw [show decide (s.size = 128) = false by have := h.size; simp; omega]; rfl
    refine (supread_short A n cap w hn).mono ?_
    rintro e w' ⟨rfl, hk⟩
    unfold supS supE
    rw [hno]
    exact ⟨rfl, hk⟩
end Go.Proofs.Ytkhggpopohkjfaa
