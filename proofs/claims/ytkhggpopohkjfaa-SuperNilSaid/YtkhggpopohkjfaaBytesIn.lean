/- Bytes that came in: a slice, nil or not, and the text that it holds. No condition. -/
import Derived.Test.YtkhggpopohkjfaaNewRd
import Derived.Laws.AppendOwnNone
import Derived.Laws.IdiomStrings
namespace Go.Proofs.Ytkhggpopohkjfaa
open Go.RowKit Go.Proofs Go.Lib

structure BytesIn (w : World) (A : Option Addr) (n cap : Nat) (s : ByteArray) : Prop where
  size : s.size = n
  hcap : n ≤ cap
  hmax : cap ≤ maxLen
  ofSome : ∀ a, A = some a → ∀ i (h : i < s.size), w.cell? (a.add i) = some (.int .u8 (s[i]'h).toNat)
  ofNone : A = none → n = 0 ∧ cap = 0

theorem BytesIn.keep {S : List Nat} {w w' : World} {A : Option Addr} {n cap : Nat} {s : ByteArray} (h : BytesIn w A n cap s) (hk : Keep S w w') (hS : ∀ a, A = some a → a.block ∉ S) : BytesIn w' A n cap s :=
  ⟨h.size, h.hcap, h.hmax, fun a ha i hi => hk.cell (h.ofSome a ha i hi) (by have := hS a ha; unfold Addr.add; split <;> exact this), h.ofNone⟩
theorem BytesIn.keep0 {w w' : World} {A : Option Addr} {n cap : Nat} {s : ByteArray} (h : BytesIn w A n cap s) (hk : Keep [] w w') : BytesIn w' A n cap s := h.keep hk (fun _ _ => by simp)

/-- Where there are some, they lie behind a plain address. -/
theorem BytesIn.at {w : World} {A : Option Addr} {n cap : Nat} {s : ByteArray} (h : BytesIn w A n cap s) : ∃ r o, (A = .some ⟨r, o, .none⟩ ∨ s.size = 0) ∧ Str8 w r o s := by
  cases A with
  | none =>
    have := (h.ofNone rfl).1
    have h0 : s.size = 0 := by rw [h.size]; exact this
    exact ⟨0, 0, .inr h0, fun i hi => by omega⟩
  | some a =>
    by_cases h0 : s.size = 0
    · exact ⟨0, 0, .inr h0, fun i hi => by omega⟩
    · have h1 := h.ofSome a rfl 0 (by omega)
      have hsp : a.spot = .none := by
        have := World.cell?_spot h1
        simpa [Addr.add] using this
      obtain ⟨r, o, sp⟩ := a
      cases hsp
      refine ⟨r, o, .inl rfl, fun i hi => ?_⟩
      have := h.ofSome _ rfl i hi
      have hadd : (⟨r, o, .none⟩ : Addr).add i = ⟨r, o + i, .none⟩ := by unfold Addr.add; split <;> simp_all
      rwa [hadd] at this

theorem BytesIn.conv {w : World} {A : Option Addr} {n cap : Nat} {s : ByteArray} (h : BytesIn w A n cap s) : (convert 42 9 (.slice A n cap)).run Try.prog w = .ok (.string s) w := by
  cases A with
  | none =>
    obtain ⟨rfl, rfl⟩ := h.ofNone rfl
    have h0 : s = ByteArray.empty := by
      apply ByteArray.ext
      have h1 : s.data.size = 0 := h.size
      exact Array.eq_empty_of_size_eq_zero h1
    subst h0
    rw [run_convert_bytes_string w 42 9 5 none 0 0 Try.underlying42 Try.underlying5 Try.underlying9]
    rfl
  | some a =>
    have hl : s.data.toList.length = n := h.size
    have := run_convert_bytes_back (P := Try.prog) w 42 9 5 a cap s.data.toList Try.underlying42 Try.underlying5 Try.underlying9 (fun j hj => h.ofSome a rfl j hj)
    rw [hl] at this
    rw [this]

/-- append(v, b...) onto a row of one's own. -/
theorem wpList_append_in {w : World} {ops : Array Oper} {rest : List Oper} {o : Oper} {a : Act} {Q : Exit → Act → World → Prop} (hgd : o.guard = none) (sl x : Operand)
    (ho : o.op = .call { callee := .builtin .append, args := #[sl, x], argTypes := #[42, 42] }) (base : Nat) (v : Value) (m : Nat) (xs : List Value) (hs : a.eval sl = v) (hown : w.ownsRow base 5 1 v m xs)
    {A : Option Addr} {n cap : Nat} {s : ByteArray} (hx : a.eval x = .slice A n cap) (h : BytesIn w A n cap s) (h63 : m + n ≤ maxLen) (hbytes : m + n ≤ 140737488355328) (hbase : base ≤ w.heap.size)
    (hK : ∀ v' w', w'.ownsRow base 5 1 v' (m + n) (xs ++ strCells s) → w.grownBy w' v.ownBlock → wpList Try.prog ops Q rest (a.put o.dst v') w') : wpList Try.prog ops Q (o :: rest) a w := by
  obtain ⟨i5, hi5, hz50, hz51, hz52⟩ := info_parts info5
  cases A with
  | none =>
    obtain ⟨rfl, rfl⟩ := h.ofNone rfl
    have h0 : s = ByteArray.empty := by
      apply ByteArray.ext
      have h1 : s.data.size = 0 := h.size
      exact Array.eq_empty_of_size_eq_zero h1
    subst h0
    refine wpList_append_own_none hgd sl x 42 ho base 5 i5 1 Try.underlying42 hi5 v m xs hs hown hx (hK v w ?_ (Keep.refl [] w |>.grownBy _))
    rw [strCells_empty, List.append_nil]
    exact hown
  | some ad =>
    refine wpList_append_own w hgd sl x 42 ho base 5 i5 (.int .u8 0) 1 1 Try.underlying42 hi5 hz50 hz51 hz52 rfl (by decide) v m xs hs hown ad n cap (strCells s) hx (by rw [strCells_length, h.size]; omega) ?_ ?_ h63 (by omega) hbase (fun v' w' h1 h2 _ => hK v' w' h1 h2)
    · intro j u hu
      simp only [strCells, List.getElem?_map] at hu
      cases hb : s.data.toList[j]? with
      | none => rw [hb] at hu; cases hu
      | some b =>
        rw [hb] at hu
        cases hu
        obtain ⟨hj, e⟩ := List.getElem?_eq_some_iff.1 hb
        rw [h.ofSome ad rfl j hj, ← e]
        rfl
    · intro u hu
      simp only [strCells, List.mem_map] at hu
      obtain ⟨b, _, rfl⟩ := hu
      rfl

/-- A row of one's own, as bytes that came in. -/
theorem BytesIn.of_own {w : World} {base n cap : Nat} {A : Option Addr} {s : ByteArray} (h : w.ownsRow base 5 1 (.slice A n cap) n (strCells s)) : BytesIn w A n cap s := by
  have hl : s.size = n := by have := h.1; rw [strCells_length] at this; omega
  have hform := h.2
  rcases hform with ⟨h1, h2⟩ | ⟨g, cap', cur, h1, _, _, h3, h4, _⟩
  · cases h1
    exact ⟨hl, Nat.le_refl _, Nat.zero_le _, fun a ha => (by cases ha), fun _ => ⟨rfl, rfl⟩⟩
  · cases h1
    refine ⟨hl, h3, h4, fun a ha i hi => ?_, fun ha => (by cases ha)⟩
    cases ha
    have := Str8.of_own h i hi
    have hadd : (⟨g, 0, .none⟩ : Addr).add i = ⟨g, 0 + i, .none⟩ := by unfold Addr.add; split <;> simp_all
    rw [hadd]
    exact this
end Go.Proofs.Ytkhggpopohkjfaa
