/- field.Put64 onto a text's bytes that are full (a literal's). Premise: the row's cells are known. -/
import Derived.Test.YtkhggpopohkjfaaPut
namespace Go.Proofs.Ytkhggpopohkjfaa
open Go.RowKit Go.Proofs Go.Lib
set_option linter.unusedVariables false
set_option linter.unusedSimpArgs false

/-- A slice without room, whose cells are known. -/
def FullRow (w : World) (base : Nat) (v : Value) (n : Nat) (xs : List Value) : Prop :=
  xs.length = n ∧ ∃ g, v = .slice (some ⟨g, 0, none⟩) n n ∧ base ≤ g ∧ ∀ j u, xs[j]? = some u → w.cell? ⟨g, j, none⟩ = some u
theorem FullRow.keep {w w' : World} {base : Nat} {v : Value} {n : Nat} {xs : List Value} (h : FullRow w base v n xs) (hk : Keep [] w w') : FullRow w' base v n xs := by
  obtain ⟨h1, g, h2, h3, h4⟩ := h
  exact ⟨h1, g, h2, h3, fun j u hu => hk.cell (h4 j u hu) (by simp)⟩
theorem FullRow.lt {w : World} {base : Nat} {v : Value} {n : Nat} {xs : List Value} (h : FullRow w base v n xs) (j : Nat) (e : v.ownBlock = some j) : base ≤ j := by
  obtain ⟨_, g, rfl, h3, _⟩ := h
  cases e
  exact h3
theorem wpList_append_full {w : World} {ops : Array Oper} {rest : List Oper} {o : Oper} {a : Act} {Q : Exit → Act → World → Prop} (hgd : o.guard = none) (s x : Operand)
    (ho : o.op = .call { callee := .builtin .append, args := #[s, x], argTypes := #[42, 42] })
    (base : Nat) (i : TypeInfo) (hi : Try.prog.info? 5 = some i) (hz : i.zero = some (.int .u8 0)) (hsize : i.size = 1) (hby : i.bytes = 1)
    (v : Value) (n : Nat) (xs : List Value) (hs : a.eval s = v) (hown : FullRow w base v n xs)
    (ad : Addr) (m c : Nat) (news : List Value) (hx : a.eval x = .slice (some ad) m c) (hl : news.length = m * 1) (hnews : ∀ j u, news[j]? = some u → w.cell? (ad.add j) = some u) (h1 : ∀ u ∈ news, u.oneCell' = true)
    (h63 : n + m ≤ maxLen) (hbytes : (n + m) * 1 ≤ 140737488355328) (hbase : base ≤ w.heap.size) (hm : 0 < m)
    (h : ∀ v' w', w'.ownsRow base 5 1 v' (n + m) (xs ++ news) → w.grownBy w' v.ownBlock → wpList Try.prog ops Q rest (a.put o.dst v') w') : wpList Try.prog ops Q (o :: rest) a w := by
  refine wpList_plain hgd fun K hK => ?_
  obtain ⟨hlx, g, rfl, hbg, hcell⟩ := hown
  have hsmall : n + m ≤ 9223372036854775807 := by simp only [maxLen] at h63; omega
  have hadd : ∀ j, (⟨g, 0, none⟩ : Addr).add j = ⟨g, j, none⟩ := fun j => by unfold Addr.add; split <;> simp_all
  have hr := run_append_grow (P := Try.prog) w 42 o.type 5 i (.int .u8 0) Try.underlying42 hi hz ⟨g, 0, none⟩ n n xs (by rw [hsize]; omega) (fun j u hu => by rw [hadd]; exact hcell j u hu) ad m c news (by rw [hsize]; exact hl) hnews (by omega) (by omega) (growslice_fits (by omega) (by rw [hby]; exact hbytes))
  have hge := grownCap_ge w (n + m) n 5
  have hcm : grownCap w (n + m) n 5 ≤ maxLen := grownCap_le_maxLen w (n + m) n 5 h63
  unfold Oper.wp execOp
  simp only [ho, resolve, invoke, builtin, Sem.run_bind, Sem.run_pure, Result.andThen_ok, List.map_toArray, List.map_cons, List.map_nil, hs, hx, hr]
  refine hK _ _ (h _ _ ⟨by rw [List.length_append]; omega, .inr ⟨w.heap.size, _, _, rfl, hbase, heap_alloc_new w.drew _, hge, hcm, ?_, ?_⟩⟩ ⟨rfl, rfl, rfl, by simp, fun k hk _ => heap_alloc_old w.drew _ hk⟩)
  · simp only [Array.size_append, List.size_toArray, size_zeroCells, hlx]
    have : (Value.int IntKind.u8 0).cells.size = 1 := rfl
    rw [this]
    omega
  · simp only [Array.toList_append, List.append_assoc]
    rw [← List.append_assoc, show (n + m) * 1 = (xs ++ news).length by rw [List.length_append]; omega]
    exact List.take_left

theorem cells8_nil' : cells8 [] = [] := rfl
/-- Between two rounds of put. -/
def PutI (base n0 : Nat) (xs : List Value) (x j : Nat) (va : Value) (wr : World) : Prop :=
  (j = 0 → FullRow wr base va n0 xs) ∧ (0 < j → wr.ownsRow base 5 1 va (n0 + j) (xs ++ cells8 (beTo 8 x j)))

set_option maxRecDepth 100000 in
set_option maxHeartbeats 2000000 in
theorem put64_full (v : Value) (n0 : Nat) (xs : List Value) (base : Nat) (x : Nat) (w : World) (h : FullRow w base v n0 xs) (hb : base ≤ w.heap.size) (hn : n0 ≤ 1000000) (hx : x < 18446744073709551616) :
    Calls Try.prog 122 #[v, .int .u64 x, .int .i64 8] w fun e w' => ∃ v', e = .returned v' ∧ w'.ownsRow base 5 1 v' (n0 + 8) (xs ++ cells8 (beTo 8 x 8)) ∧ Below base w w' := by
  obtain ⟨i5, hi5, hz50, hz51, hz52⟩ := info_parts info5
  have hx2 : (x : Int) < 18446744073709551616 := by omega
  have HST := Lib.hid h
  have hb0 : 0 ≤ (x : Int) := by omega
  clear h
  go_enter Try.func122, Try.ntmps122
  go_wp2
  go_loopw [0, 7] (fun va i wr => ∃ (j : Nat) (i0 : Int), i = .int .i64 i0 ∧ i0 = 7 - (j : Int) ∧ j ≤ 8 ∧ PutI base n0 xs x j va wr ∧ Below base w wr ∧ base ≤ wr.heap.size) (fun _ i _ => (intOf i + 1).toNat)
  case atStart => exact ⟨0, 7, rfl, by omega, by omega, ⟨fun _ => HST.out, fun h => absurd h (by decide)⟩, Below.refl _ _, hb⟩
  case round =>
    obtain ⟨j, i0, rfl, hi, hj, hr, hbl, hbs⟩ := hrel
    have HR := Lib.hid hr
    clear hr
    have hcs : (j = 0 ∧ i0 = 7) ∨ (j = 1 ∧ i0 = 6) ∨ (j = 2 ∧ i0 = 5) ∨ (j = 3 ∧ i0 = 4) ∨ (j = 4 ∧ i0 = 3) ∨ (j = 5 ∧ i0 = 2) ∨ (j = 6 ∧ i0 = 1) ∨ (j = 7 ∧ i0 = 0) ∨ (j = 8 ∧ i0 = -1) := by omega
    clear hi hj
    obtain ⟨rfl, rfl⟩ | ⟨rfl, rfl⟩ | ⟨rfl, rfl⟩ | ⟨rfl, rfl⟩ | ⟨rfl, rfl⟩ | ⟨rfl, rfl⟩ | ⟨rfl, rfl⟩ | ⟨rfl, rfl⟩ | ⟨rfl, rfl⟩ := hcs
    · obtain ⟨q, hq⟩ : ∃ q : Int, (x : Int) / 72057594037927936 = q := ⟨_, rfl⟩
      have hq0 : 0 ≤ q := by omega
      have hq1 : q < 256 := by omega
      have hv : cells8 [UInt8.ofNat (byteAt x 7)] = [.int .u8 (q)] := cells8_byte x 7 _ (by have : (256 : Int) ^ 7 = 72057594037927936 := rfl; rw [this]; omega)
      go_wp2_with (at_builtin; refine wpList_append_full rfl _ _ rfl base i5 hi5 hz50 hz51 hz52 u0 n0 xs rfl ((HR.out.1 rfl).keep ((Keep.refl _ _).alloc _)) ⟨wr.heap.size, 0, none⟩ 1 1 [.int .u8 (q)] rfl rfl (news_alloc wr [.int .u8 (q)] 5) (by simp [Value.oneCell']) (by unfold maxLen; omega) (by omega) (by simp; omega) (by decide) ?_; intro v1 w1 hown1 hgrow1)
      have hs1 := hgrow1.size
      simp only [World.alloc, Array.size_push] at hs1
      exact ⟨⟨1, 6, by go_num, by omega, by omega, ⟨fun h => absurd h (by decide), fun _ => by rw [beTo_succ, cells8_append, ← List.append_assoc]; simp only [beTo, List.range_zero, List.map_nil, cells8_nil', List.append_nil]; exact (show 8 - 1 - 0 = 7 from rfl) ▸ hv ▸ hown1⟩, (hbl.alloc hbs _).grown hgrow1 (by simp; omega) (fun j e => ((HR.out.1 rfl).lt j e)), by omega⟩, by simp [intOf]⟩
    · obtain ⟨q, hq⟩ : ∃ q : Int, (x : Int) / 281474976710656 = q := ⟨_, rfl⟩
      have hq0 : 0 ≤ q := by omega
      have hq1 : q < 65536 := by omega
      have hv : cells8 [UInt8.ofNat (byteAt x 6)] = [.int .u8 (q % 256)] := cells8_byte x 6 _ (by have : (256 : Int) ^ 6 = 281474976710656 := rfl; rw [this]; omega)
      go_wp2_with (at_builtin; refine wpList_append_own _ rfl _ _ 42 rfl base 5 i5 (.int .u8 0) 1 1 Try.underlying42 hi5 hz50 hz51 hz52 rfl (by decide) u0 (n0 + 1) (xs ++ cells8 (beTo 8 x 1)) rfl ((HR.out.2 (by decide)).alloc _) ⟨wr.heap.size, 0, none⟩ 1 1 [.int .u8 (q % 256)] rfl rfl (news_alloc wr [.int .u8 (q % 256)] 5) (by simp [Value.oneCell']) (by unfold maxLen; omega) (by omega) (by simp; omega) ?_; intro v1 w1 hown1 hgrow1 _)
      have hs1 := hgrow1.size
      simp only [World.alloc, Array.size_push] at hs1
      exact ⟨⟨2, 5, by go_num, by omega, by omega, ⟨fun h => absurd h (by decide), fun _ => by rw [beTo_succ, cells8_append, ← List.append_assoc]; exact (show 8 - 1 - 1 = 6 from rfl) ▸ hv ▸ hown1⟩, (hbl.alloc hbs _).grown hgrow1 (by simp; omega) (fun j e => ((HR.out.2 (by decide)).lt j e).1), by omega⟩, by simp [intOf]⟩
    · obtain ⟨q, hq⟩ : ∃ q : Int, (x : Int) / 1099511627776 = q := ⟨_, rfl⟩
      have hq0 : 0 ≤ q := by omega
      have hq1 : q < 16777216 := by omega
      have hv : cells8 [UInt8.ofNat (byteAt x 5)] = [.int .u8 (q % 256)] := cells8_byte x 5 _ (by have : (256 : Int) ^ 5 = 1099511627776 := rfl; rw [this]; omega)
      go_wp2_with (at_builtin; refine wpList_append_own _ rfl _ _ 42 rfl base 5 i5 (.int .u8 0) 1 1 Try.underlying42 hi5 hz50 hz51 hz52 rfl (by decide) u0 (n0 + 2) (xs ++ cells8 (beTo 8 x 2)) rfl ((HR.out.2 (by decide)).alloc _) ⟨wr.heap.size, 0, none⟩ 1 1 [.int .u8 (q % 256)] rfl rfl (news_alloc wr [.int .u8 (q % 256)] 5) (by simp [Value.oneCell']) (by unfold maxLen; omega) (by omega) (by simp; omega) ?_; intro v1 w1 hown1 hgrow1 _)
      have hs1 := hgrow1.size
      simp only [World.alloc, Array.size_push] at hs1
      exact ⟨⟨3, 4, by go_num, by omega, by omega, ⟨fun h => absurd h (by decide), fun _ => by rw [beTo_succ, cells8_append, ← List.append_assoc]; exact (show 8 - 1 - 2 = 5 from rfl) ▸ hv ▸ hown1⟩, (hbl.alloc hbs _).grown hgrow1 (by simp; omega) (fun j e => ((HR.out.2 (by decide)).lt j e).1), by omega⟩, by simp [intOf]⟩
    · obtain ⟨q, hq⟩ : ∃ q : Int, (x : Int) / 4294967296 = q := ⟨_, rfl⟩
      have hq0 : 0 ≤ q := by omega
      have hq1 : q < 4294967296 := by omega
      have hv : cells8 [UInt8.ofNat (byteAt x 4)] = [.int .u8 (q % 256)] := cells8_byte x 4 _ (by have : (256 : Int) ^ 4 = 4294967296 := rfl; rw [this]; omega)
      go_wp2_with (at_builtin; refine wpList_append_own _ rfl _ _ 42 rfl base 5 i5 (.int .u8 0) 1 1 Try.underlying42 hi5 hz50 hz51 hz52 rfl (by decide) u0 (n0 + 3) (xs ++ cells8 (beTo 8 x 3)) rfl ((HR.out.2 (by decide)).alloc _) ⟨wr.heap.size, 0, none⟩ 1 1 [.int .u8 (q % 256)] rfl rfl (news_alloc wr [.int .u8 (q % 256)] 5) (by simp [Value.oneCell']) (by unfold maxLen; omega) (by omega) (by simp; omega) ?_; intro v1 w1 hown1 hgrow1 _)
      have hs1 := hgrow1.size
      simp only [World.alloc, Array.size_push] at hs1
      exact ⟨⟨4, 3, by go_num, by omega, by omega, ⟨fun h => absurd h (by decide), fun _ => by rw [beTo_succ, cells8_append, ← List.append_assoc]; exact (show 8 - 1 - 3 = 4 from rfl) ▸ hv ▸ hown1⟩, (hbl.alloc hbs _).grown hgrow1 (by simp; omega) (fun j e => ((HR.out.2 (by decide)).lt j e).1), by omega⟩, by simp [intOf]⟩
    · obtain ⟨q, hq⟩ : ∃ q : Int, (x : Int) / 16777216 = q := ⟨_, rfl⟩
      have hq0 : 0 ≤ q := by omega
      have hq1 : q < 1099511627776 := by omega
      have hv : cells8 [UInt8.ofNat (byteAt x 3)] = [.int .u8 (q % 256)] := cells8_byte x 3 _ (by have : (256 : Int) ^ 3 = 16777216 := rfl; rw [this]; omega)
      go_wp2_with (at_builtin; refine wpList_append_own _ rfl _ _ 42 rfl base 5 i5 (.int .u8 0) 1 1 Try.underlying42 hi5 hz50 hz51 hz52 rfl (by decide) u0 (n0 + 4) (xs ++ cells8 (beTo 8 x 4)) rfl ((HR.out.2 (by decide)).alloc _) ⟨wr.heap.size, 0, none⟩ 1 1 [.int .u8 (q % 256)] rfl rfl (news_alloc wr [.int .u8 (q % 256)] 5) (by simp [Value.oneCell']) (by unfold maxLen; omega) (by omega) (by simp; omega) ?_; intro v1 w1 hown1 hgrow1 _)
      have hs1 := hgrow1.size
      simp only [World.alloc, Array.size_push] at hs1
      exact ⟨⟨5, 2, by go_num, by omega, by omega, ⟨fun h => absurd h (by decide), fun _ => by rw [beTo_succ, cells8_append, ← List.append_assoc]; exact (show 8 - 1 - 4 = 3 from rfl) ▸ hv ▸ hown1⟩, (hbl.alloc hbs _).grown hgrow1 (by simp; omega) (fun j e => ((HR.out.2 (by decide)).lt j e).1), by omega⟩, by simp [intOf]⟩
    · obtain ⟨q, hq⟩ : ∃ q : Int, (x : Int) / 65536 = q := ⟨_, rfl⟩
      have hq0 : 0 ≤ q := by omega
      have hq1 : q < 281474976710656 := by omega
      have hv : cells8 [UInt8.ofNat (byteAt x 2)] = [.int .u8 (q % 256)] := cells8_byte x 2 _ (by have : (256 : Int) ^ 2 = 65536 := rfl; rw [this]; omega)
      go_wp2_with (at_builtin; refine wpList_append_own _ rfl _ _ 42 rfl base 5 i5 (.int .u8 0) 1 1 Try.underlying42 hi5 hz50 hz51 hz52 rfl (by decide) u0 (n0 + 5) (xs ++ cells8 (beTo 8 x 5)) rfl ((HR.out.2 (by decide)).alloc _) ⟨wr.heap.size, 0, none⟩ 1 1 [.int .u8 (q % 256)] rfl rfl (news_alloc wr [.int .u8 (q % 256)] 5) (by simp [Value.oneCell']) (by unfold maxLen; omega) (by omega) (by simp; omega) ?_; intro v1 w1 hown1 hgrow1 _)
      have hs1 := hgrow1.size
      simp only [World.alloc, Array.size_push] at hs1
      exact ⟨⟨6, 1, by go_num, by omega, by omega, ⟨fun h => absurd h (by decide), fun _ => by rw [beTo_succ, cells8_append, ← List.append_assoc]; exact (show 8 - 1 - 5 = 2 from rfl) ▸ hv ▸ hown1⟩, (hbl.alloc hbs _).grown hgrow1 (by simp; omega) (fun j e => ((HR.out.2 (by decide)).lt j e).1), by omega⟩, by simp [intOf]⟩
    · obtain ⟨q, hq⟩ : ∃ q : Int, (x : Int) / 256 = q := ⟨_, rfl⟩
      have hq0 : 0 ≤ q := by omega
      have hq1 : q < 72057594037927936 := by omega
      have hv : cells8 [UInt8.ofNat (byteAt x 1)] = [.int .u8 (q % 256)] := cells8_byte x 1 _ (by have : (256 : Int) ^ 1 = 256 := rfl; rw [this]; omega)
      go_wp2_with (at_builtin; refine wpList_append_own _ rfl _ _ 42 rfl base 5 i5 (.int .u8 0) 1 1 Try.underlying42 hi5 hz50 hz51 hz52 rfl (by decide) u0 (n0 + 6) (xs ++ cells8 (beTo 8 x 6)) rfl ((HR.out.2 (by decide)).alloc _) ⟨wr.heap.size, 0, none⟩ 1 1 [.int .u8 (q % 256)] rfl rfl (news_alloc wr [.int .u8 (q % 256)] 5) (by simp [Value.oneCell']) (by unfold maxLen; omega) (by omega) (by simp; omega) ?_; intro v1 w1 hown1 hgrow1 _)
      have hs1 := hgrow1.size
      simp only [World.alloc, Array.size_push] at hs1
      exact ⟨⟨7, 0, by go_num, by omega, by omega, ⟨fun h => absurd h (by decide), fun _ => by rw [beTo_succ, cells8_append, ← List.append_assoc]; exact (show 8 - 1 - 6 = 1 from rfl) ▸ hv ▸ hown1⟩, (hbl.alloc hbs _).grown hgrow1 (by simp; omega) (fun j e => ((HR.out.2 (by decide)).lt j e).1), by omega⟩, by simp [intOf]⟩
    · have hv : cells8 [UInt8.ofNat (byteAt x 0)] = [.int .u8 ((x : Int) % 256)] := cells8_byte x 0 _ (by have : (256 : Int) ^ 0 = 1 := rfl; rw [this]; omega)
      go_wp2_with (at_builtin; refine wpList_append_own _ rfl _ _ 42 rfl base 5 i5 (.int .u8 0) 1 1 Try.underlying42 hi5 hz50 hz51 hz52 rfl (by decide) u0 (n0 + 7) (xs ++ cells8 (beTo 8 x 7)) rfl ((HR.out.2 (by decide)).alloc _) ⟨wr.heap.size, 0, none⟩ 1 1 [.int .u8 ((x : Int) % 256)] rfl rfl (news_alloc wr [.int .u8 ((x : Int) % 256)] 5) (by simp [Value.oneCell']) (by unfold maxLen; omega) (by omega) (by simp; omega) ?_; intro v1 w1 hown1 hgrow1 _)
      have hs1 := hgrow1.size
      simp only [World.alloc, Array.size_push] at hs1
      exact ⟨⟨8, -1, by go_num, by omega, by omega, ⟨fun h => absurd h (by decide), fun _ => by rw [beTo_succ, cells8_append, ← List.append_assoc]; exact (show 8 - 1 - 7 = 0 from rfl) ▸ hv ▸ hown1⟩, (hbl.alloc hbs _).grown hgrow1 (by simp; omega) (fun j e => ((HR.out.2 (by decide)).lt j e).1), by omega⟩, by simp [intOf]⟩
    · go_wp2
      go_ret
      exact ⟨_, rfl, HR.out.2 (by decide), hbl⟩



set_option maxRecDepth 100000 in
theorem Put64_full (v : Value) (n0 : Nat) (xs : List Value) (base : Nat) (x : Nat) (w : World) (h : FullRow w base v n0 xs) (hb : base ≤ w.heap.size) (hn : n0 ≤ 1000000) (hx : x < 9223372036854775808) :
    Calls Try.prog 80 #[v, .int .i64 x] w fun e w' => ∃ v', e = .returned v' ∧ w'.ownsRow base 5 1 v' (n0 + 8) (xs ++ cells8 (beTo 8 x 8)) ∧ Below base w w' := by
  have HX := Lib.hid h
  clear h
  have hx1 : (x : Int) < 9223372036854775808 := by omega
  have hx0 : 0 ≤ (x : Int) := by omega
  go_enter Try.func80, Try.ntmps80
  go_wp2_with fail
  refine (put64_full v n0 xs base x w HX.out hb hn (by omega)).mono ?_
  rintro e w1 ⟨v', rfl, hr, hbl⟩
  have FIN := Lib.hid (And.intro hr hbl)
  clear hr hbl
  go_wp2
  first | exact ⟨_, rfl, FIN.out⟩ | (go_ret; exact ⟨_, rfl, FIN.out⟩)

end Go.Proofs.Ytkhggpopohkjfaa
