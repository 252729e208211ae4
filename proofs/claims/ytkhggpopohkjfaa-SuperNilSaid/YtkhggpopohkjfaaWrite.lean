/- (*block.Disk).Write. Premises: the disk is right, the bytes lie elsewhere, not too many writes are pending. -/
import Derived.Test.YtkhggpopohkjfaaFlush
import Derived.Test.YtkhggpopohkjfaaRelP
import Derived.Test.YtkhggpopohkjfaaBytesIn
import Derived.Test.YtkhggpopohkjfaaReadEnd
import Derived.Laws.CopyOwn
import Derived.Maps.AppendAt
import Derived.Deep.Cut
namespace Go.Proofs.Ytkhggpopohkjfaa
open Go.RowKit Go.Proofs Go.Lib
set_option linter.unusedSectionVars false
set_option linter.unusedVariables false
set_option linter.unusedSimpArgs false

theorem size5 : (Try.prog.info? 5).map (·.size) = some 1 := by kernel_rfl
theorem run_build147 (x : Int) (w : World) : (Instr.build 147 #[(1, .int .i64 x)]).run Try.prog w = .ok (.agg (strCells (zerosB 128) ++ [Value.int .i64 x]).toArray) w := by
  rw [strCells_zerosB]
  kernel_rfl
theorem wpList_build147 {w : World} {ops : Array Oper} {rest : List Oper} {o : Oper} {a : Act} {Q : Exit → Act → World → Prop} (hgd : o.guard = none) (y : Operand) (ho : o.op = .build 147 #[(1, y)]) (i : Nat) (hy : a.eval y = .int .i64 i)
    (h : wpList Try.prog ops Q rest (a.put o.dst (.agg (wrCells (i, zerosB 128)).toArray)) w) : wpList Try.prog ops Q (o :: rest) a w := by
  refine wpList_plain hgd fun K hK => ?_
  have hr := run_build147 i w
  unfold Oper.wp execOp
  simp only [ho]
  have hm : (#[(1, y)].map fun (p : Nat × Operand) => (p.1, a.eval p.2)) = #[(1, Value.int .i64 i)] := by simp [hy]
  simp only [hm, Sem.run_bind, Sem.run_pure, hr, Result.andThen_ok]
  exact hK _ _ h

theorem splice_pad (i : Nat) (s : ByteArray) (h : s.size ≤ 128) : Go.splice (wrCells (i, zerosB 128)) 0 (strCells s) = wrCells (i, padB s) := by
  unfold Go.splice wrCells padB
  rw [List.take_zero, List.nil_append, Nat.zero_add, strCells_append, strCells_zerosB, strCells_zerosB, strCells_length, List.append_assoc]
  congr 1
  rw [List.drop_append_of_le_length (by simp; omega), List.drop_replicate]

theorem BytesIn.cellsOf {w : World} {A : Option Addr} {n cap : Nat} {s : ByteArray} (h : BytesIn w A n cap s) {ad : Addr} (hA : A = some ad) (j : Nat) (v : Value) (hv : (strCells s)[j]? = some v) : w.cell? (ad.add j) = some v := by
  simp only [strCells, List.getElem?_map] at hv
  cases hb : s.data.toList[j]? with
  | none => rw [hb] at hv; cases hv
  | some b =>
    rw [hb] at hv
    cases hv
    obtain ⟨hj, e⟩ := List.getElem?_eq_some_iff.1 hb
    rw [h.ofSome ad hA j hj, ← e]
    rfl

theorem wp_append_own_at {P : Program} {w : World} {o : Oper} {a : Act} {K : Act → World → Prop} {Q : Exit → Act → World → Prop} (s x : Operand) (t : TypeId)
    (ho : o.op = .call { callee := .builtin .append, args := #[s, x], argTypes := #[t, t] })
    (base : Nat) (e : TypeId) (i : TypeInfo) (z : Value) (size bytes : Nat) (ht : P.underlying t = some (.slice e)) (hi : P.info? e = some i) (hz : i.zero = some z)
    (hsize : i.size = size) (hby : i.bytes = bytes) (hzs : z.cells.size = size) (hsz : 0 < size)
    (v : Value) (n : Nat) (xs : List Value) (hs : a.eval s = v) (hown : w.ownsRow base e size v n xs)
    (ad : Addr) (m c : Nat) (news : List Value) (hx : a.eval x = .slice (some ad) m c) (hl : news.length = m * size) (hnews : ∀ j u, news[j]? = some u → w.cell? (ad.add j) = some u) (h1 : ∀ u ∈ news, u.oneCell' = true)
    (h63 : n + m ≤ maxLen) (hbytes : (n + m) * bytes ≤ 140737488355328) (hbase : base ≤ w.heap.size)
    (h : ∀ v' w', w'.ownsRow base e size v' (n + m) (xs ++ news) → w.grownBy w' v.ownBlock → (v'.ownBlock = v.ownBlock ∨ v'.ownBlock = some w.heap.size) → K (a.put o.dst v') w') : o.wp P a w K Q := by
  obtain ⟨v', w', hr, h2, h3, h4, h5⟩ := run_append_own_at (P := P) w base t o.type e i z size bytes ht hi hz hsize hby hzs hsz v n xs hown ad m c news hl hnews h1 h63 hbytes hbase
  unfold Oper.wp execOp
  simp only [ho, resolve, invoke, builtin, Sem.run_bind, Sem.run_pure, Result.andThen_ok, List.map_toArray, List.map_cons, List.map_nil, hs, hx, hr]
  exact h v' w' h2 h3 h5

set_option maxRecDepth 100000 in
set_option maxHeartbeats 4000000 in
theorem write_tail (w w1 : World) (g K c : Nat) (pv : Value) (V : DiskV) (i : Nat) (A : Option Addr) (n cap : Nat) (s : ByteArray) (tm : Array Value) (hsz : tm.size = 42)
    (t0 : tm.getD 0 undef = .pointer (some ⟨g, 0, none⟩)) (t1 : tm.getD 1 undef = .int .i64 i) (t2 : tm.getD 2 undef = .slice A n cap) (h : DiskAt w1 g K c pv V) (hi : i < V.kept.length) (hb : BytesIn w1 A n cap s) (hs : s.size ≤ 128) (hfew : V.pend.length ≤ 1000000) (hk0 : Keep [g] w w1)
    (Q0 : Exit → Act → World → Prop) (hQ : ∀ tm' w', tm'.getD 6 undef = .int .i64 0 → (∃ pv', DiskAt w' g K c pv' (V.add i s) ∧ ∀ k, pv'.ownBlock = some k → pv.ownBlock = some k ∨ w1.heap.size ≤ k) → Keep (foot g K pv) w1 w' → Q0 .ret ⟨tm', []⟩ w') :
    Code.wp Try.prog (headOf (tailOf 5 (Try.f35.body.getD .skip))) (Exit.then (Code.wp Try.prog (tailOf 6 (Try.f35.body.getD .skip)) Q0) Q0) ⟨tm, []⟩ w1 := by
  obtain ⟨i147, hi147, hz147, hz1, hz2⟩ := info_parts info147
  obtain ⟨_, c1, _, _⟩ := h.cells
  have f1 := h.free 1
  have hlt := h.lt
  have hglt : g < w1.heap.size := hlt g (mem_foot.2 (.inl rfl))
  have HH := Lib.hid h
  have HB := Lib.hid hb
  have ht := tmps_out tm 42 hsz
  rw [show List.range 42 = [0, 1, 2, 3, 4, 5, 6, 7, 8, 9, 10, 11, 12, 13, 14, 15, 16, 17, 18, 19, 20, 21, 22, 23, 24, 25, 26, 27, 28, 29, 30, 31, 32, 33, 34, 35, 36, 37, 38, 39, 40, 41] from rfl] at ht
  simp only [List.map, t0, t1, t2] at ht
  rw [ht]
  clear ht t0 t1 t2 h hb hlt
  simp only [Try.f35, Option.getD_some, tailOf, headOf]
  have hx0 : (w1.alloc (.cells z147 147)).heap[w1.heap.size]? = some (.cells z147.toList.toArray 147) := by simpa using heap_alloc_new w1 (.cells z147 147)
  have hz147l : z147.toList.length = 129 := by simp [z147]
  have hwl : (wrCells (i, zerosB 128)).length = 129 := wrCells_length (zerosB_size 128)
  have hone := wr_one (i : Int) (zerosB 128)
  have hxs := setRow_same hx0 (splice z147.toList 0 (wrCells (i, zerosB 128))).toArray
  rw [splice_all (by omega)] at hxs
  have hk1 : Keep [] w1 ((w1.alloc (.cells z147 147)).setRow w1.heap.size (wrCells (i, zerosB 128)).toArray) := ((Keep.refl [] w1).alloc _).putRow _ (.inr (Nat.le_refl _))
  have HS := Lib.hid (And.intro hx0 (And.intro hz147l (And.intro hwl (And.intro hone (And.intro hi147 (And.intro hz147 (And.intro hz1 hz2)))))))
  have HX := Lib.hid (And.intro hxs hk1)
  have hpos : 0 < (strCells s).length → some (⟨w1.heap.size, 0, none⟩ : Addr) = some ⟨w1.heap.size, 0, none⟩ ∧ ∃ ad, A = some ad ∧ ∀ (j : Nat) (v : Value), (strCells s)[j]? = some v → ((w1.alloc (.cells z147 147)).setRow w1.heap.size (wrCells (i, zerosB 128)).toArray).cell? (ad.add j) = some v := by
    intro hp
    refine ⟨rfl, ?_⟩
    have hB2 := HB.out.keep0 hk1
    cases A with
    | none =>
      have := (HB.out.ofNone rfl).1
      rw [strCells_length, HB.out.size] at hp
      omega
    | some ad => exact ⟨ad, rfl, hB2.cellsOf rfl⟩
  have hfit : 0 + (strCells s).length ≤ (wrCells (i, zerosB 128)).length := by rw [strCells_length, hwl]; omega
  have HPF := Lib.hid (And.intro hpos hfit)
  clear hpos hfit
  clear hx0 hz147l hwl hone hxs hk1 hi147 hz147 hz1 hz2
  go_wp2_with (first
    | (refine wpList_build147 rfl _ rfl i rfl ?_)
    | (refine wpList_alloc_big rfl 147 rfl i147 z147 HS.out.2.2.2.2.1 HS.out.2.2.2.2.2.1 ?_)
    | (refine wpList_store_at rfl 147 _ _ rfl w1.heap.size 0 (wrCells (i, zerosB 128)) rfl rfl z147.toList 147 HS.out.1 (by rw [HS.out.2.1, HS.out.2.2.1]; omega) (by rw [HS.out.2.2.1]; exact size147) HS.out.2.2.2.1 ?_; rw [splice_all (by rw [HS.out.2.1, HS.out.2.2.1])])
    | (refine wpList_copy_splice rfl _ _ 42 42 rfl 5 Try.underlying42 size5 _ _ 128 128 n cap rfl rfl w1.heap.size 0 (wrCells (i, zerosB 128)) 147 HX.out.1 (strCells s) (by rw [strCells_length, HB.out.size]; exact (Nat.min_eq_left (by rw [← HB.out.size]; exact hs)).symm) HPF.out.1 HPF.out.2 (strCells_one s) w1.heap.size w1 HX.out.2.below (Nat.le_refl _) ?_; intro w2 hw2 hbel))
  have hw3 : w2.drew.heap[w1.heap.size]? = some (.cells (wrCells (i, padB s)).toArray 147) := by rw [← splice_pad i s hs]; exact hw2.out
  have hk2 : Keep [] w1 w2.drew := (Keep.of_below hbel).drew
  have hD2 := HH.out.keep hk2 (fun _ _ => by simp)
  have hx2 : w1.heap.size < w2.drew.heap.size := heap_lt hw3
  have hps := padB_size hs
  have hrg : w2.drew.rangeAt w1.heap.size 0 (wrCells (i, padB s)) := range_of_row hw3 0 _ (fun j v hv => by rw [Nat.zero_add]; exact hv)
  have hwl2 : (wrCells (i, padB s)).length = 129 := wrCells_length hps
  obtain ⟨_, d1, _, _⟩ := hD2.cells
  have e1 := hD2.free 1
  have HD2 := Lib.hid (And.intro hD2 (And.intro hk2 (And.intro hw3 (And.intro hrg hwl2))))
  clear hw2 hbel hw3 hk2 hD2 hrg hwl2 HX HPF c1 f1
  go_wp2_with fail
  have hfootlt : ∀ k, pv.ownBlock = some k → k < w1.heap.size := fun k hk => HH.out.lt k (mem_foot.2 (.inr (.inr hk)))
  have hoB : ∀ k, k ∈ pv.ownBlock.toList → pv.ownBlock = some k := fun k hk => by simpa using hk
  refine wp_region_relp (by simp only [List.dropLast]; rfl) (by simp only [List.getLast?_cons_cons, List.getLast?_singleton]; rfl) (by kernel_rfl) (by kernel_rfl) (fun w' => Keep pv.ownBlock.toList w2.drew w') (fun i w' => i = 7 → w'.ownsRow 0 147 129 pv V.pend.length (pendCells V.pend)) (relR
      [some (.pointer (some ⟨g, 0, none⟩)), some (.pointer (some ⟨g, 0, none⟩)), some (.pointer (some ⟨g, 0, none⟩)), some (.pointer (some ⟨g, 1, none⟩)), some pv, some (.agg (wrCells (i, padB s)).toArray), none, none, some (.pointer (some ⟨g, 0, none⟩)), some (.pointer (some ⟨g, 1, none⟩))]
      (fun j v w' => (j = 6 → ∃ y, v = .slice (some ⟨y, 0, none⟩) 1 1 ∧ w'.heap[y]? = some (.cells (wrCells (i, padB s)).toArray 147) ∧ w1.heap.size ≤ y) ∧
        (j = 7 → w'.ownsRow 0 147 129 v (V.pend.length + 1) (pendCells V.pend ++ wrCells (i, padB s)) ∧ ∀ k, v.ownBlock = some k → pv.ownBlock = some k ∨ w1.heap.size ≤ k))) (Keep.refl _ _) (fun i hi => HD2.out.1.pend) ?_ ?_
  · repeat (refine relpSteps_cons (fun a w' hC hpre hout hf K' Q' hK' => ?_) ?_; rotate_left)
    · exact trivial
    all_goals
      have t0 : a.tmps.getD 0 undef = .pointer (some ⟨g, 0, none⟩) := hout 0 (by kernel_rfl)
      have t8 : a.tmps.getD 8 undef = .pointer (some ⟨w1.heap.size, 0, none⟩) := hout 8 (by kernel_rfl)
      clear hout
      have hd1 := hC.cell d1 (by intro hm; exact HH.out.ng (hoB _ hm))
      simp [relFacts, relR, Region.binds, -Int.reduceNeg] at hf t0 t8
      try go_split_ands
    all_goals first
      | (go_simp; exact hK' _ _ rfl hC (fun _ _ _ h => h) (fun _ _ h => h))
      | skip
    · have hw' : w'.heap[w1.heap.size]? = some (.cells (wrCells (i, padB s)).toArray 147) := hC.heap HD2.out.2.2.1 (by intro hm; have := hfootlt _ (hoB _ hm); omega)
      refine wp_load_mid 147 _ rfl w1.heap.size 0 (by simp [Act.eval, *]) (wrCells (i, padB s)) _ (range_of_row hw' 0 _ (fun j v hv => by rw [Nat.zero_add]; exact hv)) Try.underlying147 rfl (by rw [HD2.out.2.2.2.2]; exact size147) ?_
      exact hK' _ _ rfl hC (fun _ _ _ h => h) (fun _ _ h => h)
    · refine wp_buildSlice1 88 147 _ rfl Try.underlying88 i147 z147 HS.out.2.2.2.2.1 HS.out.2.2.2.2.2.1 (by rw [HS.out.2.2.2.2.2.2.1]; simp [z147]) (by simp [z147]) (by simp [z147]) (wrCells (i, padB s)).toArray (by simp [Act.eval, *]) (by simp only [List.size_toArray]; rw [HD2.out.2.2.2.2]; simp [z147]) ?_
      refine hK' _ _ ⟨fun _ => ⟨_, rfl, heap_alloc_new _ _, by have := hC.size; omega⟩, fun h7 => by omega⟩ (hC.alloc _) (fun j u hj hr => relR_stable (i := 6) (fun j v hj hs => ⟨fun h6 => absurd h6 hj, fun h7 => ⟨(hs.2 h7).1.alloc _, (hs.2 h7).2⟩⟩) j u hj hr) (fun j hj hp h7 => (hp h7).alloc _)
    · rename_i hf36 hf38
      obtain ⟨y, hf38, hy1, hy2⟩ := hf38
      have hrow := hpre rfl
      have hyr : ∀ (j : Nat) (u : Value), (wrCells (i, padB s))[j]? = some u → w'.cell? ((⟨y, 0, none⟩ : Addr).add j) = some u := by
        intro j u hu
        have hadd : (⟨y, 0, none⟩ : Addr).add j = ⟨y, j, none⟩ := by unfold Addr.add; split <;> simp_all
        rw [hadd, cell_of_row w' y j _ _ _ hy1]
        simpa using hu
      refine wp_append_own_at _ _ 88 rfl 0 147 i147 (.agg z147) 129 136 Try.underlying88 HS.out.2.2.2.2.1 HS.out.2.2.2.2.2.1 HS.out.2.2.2.2.2.2.1 HS.out.2.2.2.2.2.2.2 (by simp [Value.cells, z147]) (by decide) pv V.pend.length (pendCells V.pend) (by simp [Act.eval, hf36]) hrow ⟨y, 0, none⟩ 1 1 (wrCells (i, padB s)) (by simp [Act.eval, hf38]) (by rw [HD2.out.2.2.2.2]) hyr (wr_one _ _) (by unfold maxLen; omega) (by omega) (Nat.zero_le _) ?_
      intro v' w'' hown hgrow hat
      have hKg : Keep pv.ownBlock.toList w' w'' := (Keep.refl _ _).grown hgrow (fun k e => .inl (by simpa using e))
      refine hK' _ _ ⟨fun h6 => by omega, fun _ => ⟨hown, fun k hk => ?_⟩⟩ (hC.trans hKg) (fun j u hj hr => relR_stable (i := 7) (fun j v hj hs => ⟨fun h6 => ?_, fun h7 => absurd h7 hj⟩) j u hj hr) (fun j hj hp h7 => absurd h7 hj)
      · rcases hat with h | h
        · rw [h] at hk; exact .inl hk
        · rw [h] at hk; cases hk; have := hC.size; right; omega
      · obtain ⟨y2, e1, e2, e3⟩ := hs.1 h6
        exact ⟨y2, e1, hKg.heap e2 (fun hm => by have := hfootlt _ (hoB _ hm); omega), e3⟩
  · intro tm wx hC hsz2 hout hall K' hK'
    have t0 : tm.getD 0 undef = .pointer (some ⟨g, 0, none⟩) := hout 0 (by kernel_rfl)
    simp only [relAll, relR] at hall
    have t41 : tm.getD 41 undef = .pointer (some ⟨g, 1, none⟩) := hall.2.2.2.2.2.2.2.2.2.1
    have h39 := hall.2.2.2.2.2.2.2.1.2 trivial
    clear hall hout
    have ht := tmps_out tm 42 hsz2
    rw [show List.range 42 = [0, 1, 2, 3, 4, 5, 6, 7, 8, 9, 10, 11, 12, 13, 14, 15, 16, 17, 18, 19, 20, 21, 22, 23, 24, 25, 26, 27, 28, 29, 30, 31, 32, 33, 34, 35, 36, 37, 38, 39, 40, 41] from rfl] at ht
    obtain ⟨v39, t39⟩ : ∃ v, tm.getD 39 undef = v := ⟨_, rfl⟩
    rw [t39] at h39
    obtain ⟨A9, c9, rfl⟩ := own_form h39.1
    simp only [List.map, t0, t39, t41] at ht
    rw [ht]
    clear ht t0 t39 t41
    obtain ⟨hrow, hblk⟩ := h39
    have hgP : g ∉ pv.ownBlock.toList := fun hm => HH.out.ng (hoB _ hm)
    have hKP : K ∉ pv.ownBlock.toList := fun hm => HH.out.nK (hoB _ hm)
    have hgd := hC.heap HD2.out.1.hd hgP
    have hg1 := (cell_of_row _ _ 1 _ _ _ hgd).trans rfl
    have hf1 := frozen_of_row wx g 1 _ _ hgd
    have hv39 : (Value.slice A9 (V.pend.length + 1) c9).ownBlock ≠ some g := fun e => by rcases hblk _ e with h | h; exact HH.out.ng h; omega
    have hKlt : K < w1.heap.size := HH.out.lt K (mem_foot.2 (.inr (.inl rfl)))
    have hv39K : (Value.slice A9 (V.pend.length + 1) c9).ownBlock ≠ some K := fun e => by rcases hblk _ e with h | h; exact HH.out.nK h; omega
    have hD : DiskAt (wx.setCell ⟨g, 1, none⟩ (.slice A9 (V.pend.length + 1) c9)) g K c (.slice A9 (V.pend.length + 1) c9) (V.add i s) := by
      have hks := keep_set wx g 1 (.slice A9 (V.pend.length + 1) c9)
      refine ⟨heap_setCell_same _ g 1 _ 90 _ hgd, hks.owns (hC.owns HD2.out.1.kept (fun k e => by cases e; exact hKP)) (fun k e => by cases e; simpa using Ne.symm HH.out.ne), ?_, HH.out.ne, hv39, hv39K, HH.out.ok.add hi hs⟩
      have := hks.owns hrow (fun k e => by simp; rintro rfl; exact hv39 e)
      show World.ownsRow _ 0 147 129 (.slice A9 (V.pend.length + 1) c9) (V.pend ++ [(i, padB s)]).length (pendCells (V.pend ++ [(i, padB s)]))
      rw [pendCells_append, pendCells_one, List.length_append]
      exact this
    have hKf : Keep (foot g K pv) w1 (wx.setCell ⟨g, 1, none⟩ (.slice A9 (V.pend.length + 1) c9)) := by
      have h1 : Keep (foot g K pv) w1 w2.drew := HD2.out.2.1.mono (by simp)
      have h2 := h1.trans (hC.mono (S' := foot g K pv) (fun k hk => .inl (mem_foot.2 (.inr (.inr (hoB _ hk))))))
      exact h2.setCell (.inl (mem_foot.2 (.inl rfl))) _
    have FIN := Lib.hid (And.intro hD (And.intro hKf hblk))
    clear hD hKf hblk hrow hgd d1 e1
    go_simp
    refine hK' _ _ ?_
    go_wp2
    refine hQ _ _ ?_ ⟨(.slice A9 (V.pend.length + 1) c9), FIN.out.1, FIN.out.2.2⟩ FIN.out.2.1
    rfl
end Go.Proofs.Ytkhggpopohkjfaa
