/- slices.Clone of bytes, field.NewReader. Premises: the bytes are there, and not none. -/
import Derived.Test.YtkhggpopohkjfaaReader
import Derived.Maps.AppendAt
import Derived.RangeFuncBox
import Derived.Laws.Cover3
namespace Go.Proofs.Ytkhggpopohkjfaa
open Go.RowKit Go.Proofs Go.Lib

/-- A text's bytes lie from here on. -/
def Str8 (w : World) (r o : Nat) (s : ByteArray) : Prop := ∀ i (h : i < s.size), w.cell? ⟨r, o + i, none⟩ = some (.int .u8 (s[i]'h).toNat)
theorem Str8.news {w : World} {r o : Nat} {s : ByteArray} (h : Str8 w r o s) (j : Nat) (u : Value) (hu : (strCells s)[j]? = some u) : w.cell? ((⟨r, o, none⟩ : Addr).add j) = some u := by
  have hadd : (⟨r, o, none⟩ : Addr).add j = ⟨r, o + j, none⟩ := by unfold Addr.add; split <;> simp_all
  rw [hadd]
  simp only [strCells, List.getElem?_map] at hu
  cases hx : s.data.toList[j]? with
  | none => rw [hx] at hu; cases hu
  | some b =>
    rw [hx] at hu
    cases hu
    obtain ⟨hj, e⟩ := List.getElem?_eq_some_iff.1 hx
    rw [h j hj, ← e]
    rfl
theorem Str8.keep {S : List Nat} {w w' : World} {r o : Nat} {s : ByteArray} (h : Str8 w r o s) (hk : Keep S w w') (hr : r ∉ S) : Str8 w' r o s := fun i hi => hk.cell (h i hi) hr
theorem Str8.of_own {w : World} {base n cap r : Nat} {s : ByteArray} (h : w.ownsRow base 5 1 (.slice (some ⟨r, 0, none⟩) n cap) n (strCells s)) : Str8 w r 0 s := by
  intro i hi
  have hl : s.size = n := by have := h.1; rw [strCells_length] at this; omega
  rw [Nat.zero_add, h.cellAt i (by omega)]
  simp only [strCells, List.getElem?_map]
  rw [List.getElem?_eq_getElem hi]
  rfl

theorem eql_nil42 (a : Option Addr) (l c : Nat) (w : World) : (binOp .eql 42 (.slice a l c) (.slice none 0 0)).run Try.prog w = .ok (.bool a.isNone) w := by
  simp only [binOp]
  simp [run_equal_slice_nil w 42 5 a l c Try.underlying42]

set_option maxRecDepth 100000 in
set_option maxHeartbeats 2000000 in
theorem clone8_any (r o n cap : Nat) (s : ByteArray) (w : World) (hn : s.size = n) (hpos : 0 < n) (hs : n ≤ 1000000000) (hc : Str8 w r o s) :
    Calls Try.prog 131 #[.slice (some ⟨r, o, none⟩) n cap] w fun e w' => ∃ r' cap', e = .returned (.slice (some ⟨r', 0, none⟩) n cap') ∧ w'.ownsRow w.heap.size 5 1 (.slice (some ⟨r', 0, none⟩) n cap') n (strCells s) ∧ Keep [] w w' := by
  obtain ⟨i5, hi5, hz50, hz51, hz52⟩ := info_parts info5
  have hr0 : (w.alloc (.cells #[] 5)).ownsRow w.heap.size 5 1 (.slice (some ⟨w.heap.size, 0, none⟩) 0 0) 0 [] := World.ownsRow_lit (base := w.heap.size) (size := 1) (e := 5) w #[] 0 (Nat.le_refl _) (by decide) rfl
  have hc2 : Str8 (w.alloc (.cells #[] 5)) r o s := hc.keep ((Keep.refl [] w).alloc _) (by simp)
  have HC := Lib.hid hc2
  clear hc hc2
  have heq : ∀ w : World, (binOp .eql 42 (.slice (some ⟨r, o, none⟩) n cap) (.slice none 0 0)).run Try.prog w = .ok (.bool false) w := fun w => eql_nil42 _ _ _ _
  go_enter Try.func131, Try.ntmps131
  go_wp2_with (at_builtin; refine wpList_append_own _ rfl _ _ 42 rfl w.heap.size 5 i5 (.int .u8 0) 1 1 Try.underlying42 hi5 hz50 hz51 hz52 rfl (by decide) _ 0 [] rfl hr0 ⟨r, o, none⟩ n cap (strCells s) rfl (by rw [strCells_length]; omega) HC.out.news (by intro u hu; simp only [strCells, List.mem_map] at hu; obtain ⟨b, _, rfl⟩ := hu; rfl) (by unfold maxLen; omega) (by omega) (by simp) ?_; intro v1 w1 hown1 hgrow1 _)
  have hk : Keep [] w w1 := (((Keep.refl [] w).alloc (.cells #[] 5)).grown hgrow1 (fun j e => .inr (by have := (hr0.lt j e).1; omega)))
  rw [List.nil_append, Nat.zero_add] at hown1
  obtain ⟨m, rfl⟩ : ∃ m, n = m + 1 := ⟨n - 1, by omega⟩
  obtain ⟨r', cap', rfl⟩ := ownsRow_succ hown1
  go_ret
  exact ⟨r', cap', rfl, hown1, hk⟩

set_option maxRecDepth 100000 in
theorem newrd_any (r o n cap : Nat) (s : ByteArray) (w : World) (hn : s.size = n) (hpos : 0 < n) (hs : n ≤ 1000000000) (hc : Str8 w r o s) :
    Calls Try.prog 106 #[.slice (some ⟨r, o, none⟩) n cap] w fun e w' => ∃ g r' cap', e = .returned (.pointer (some ⟨g, 0, none⟩)) ∧ w.heap.size ≤ g ∧ w.heap.size ≤ r' ∧ g ≠ r' ∧ n ≤ cap' ∧ cap' ≤ maxLen ∧ w'.heap[g]? = some (rdr (.slice (some ⟨r', 0, none⟩) n cap') 0) ∧ Str8 w' r' 0 s ∧ Keep [] w w' := by
  have hcl := clone8_any r o n cap s w hn hpos hs hc
  have HC := Lib.hid hcl
  clear hcl hc
  go_enter Try.func106, Try.ntmps106
  go_wp2_with fail
  refine HC.out.mono ?_
  rintro e w1 ⟨r', cap', rfl, ho, hk⟩
  have hlt := ho.lt r' rfl
  have hcc : n ≤ cap' ∧ cap' ≤ maxLen := by
    rcases ho.2 with ⟨h1, h2⟩ | ⟨g, c, cur, h1, h2, h3, h4, h5, h6, h7⟩
    · omega
    · cases h1; exact ⟨h4, h5⟩
  have hst := Str8.of_own ho
  have FIN := Lib.hid (And.intro hlt (And.intro hcc (And.intro hst hk)))
  clear hlt hcc hst hk ho
  go_wp2
  go_ret
  obtain ⟨⟨f1, f2⟩, ⟨f3, f4⟩, f5, f6⟩ := FIN.out
  exact ⟨w1.heap.size, r', cap', rfl, f6.size, f1, by omega, f3, f4, heap_alloc_new w1 _, f5.keep ((Keep.refl [] w1).alloc _) (by simp), f6.alloc _⟩
end Go.Proofs.Ytkhggpopohkjfaa
