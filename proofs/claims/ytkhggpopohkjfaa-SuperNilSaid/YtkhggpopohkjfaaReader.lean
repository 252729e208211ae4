/- field.Reader: made of a row of bytes, it gives numbers one behind the other. Premises: the bytes are there. -/
import Derived.Test.YtkhggpopohkjfaaRefNum
import Derived.Test.YtkhggpopohkjfaaFam
import Derived.Test.YtkhggpopohkjfaaBytes
namespace Go.Proofs.Ytkhggpopohkjfaa
open Go.RowKit Go.Proofs Go.Lib

/-- A reader's block. -/
def rdr (v : Value) (p : Int) : Obj := .cells #[.bool true, v, .int .i64 p, .int .i64 0] 191

set_option maxRecDepth 100000 in
set_option maxHeartbeats 2000000 in
theorem rnumber_any (g r cap n p k : Nat) (s : ByteArray) (w : World) (hn : s.size = n) (hcap : n ≤ cap) (hcm : cap ≤ maxLen) (hk0 : 0 < k) (hk : k ≤ 8) (hp : p + k ≤ n) (hs : n ≤ 1000000000)
    (hg : w.heap[g]? = some (rdr (.slice (some ⟨r, 0, none⟩) n cap) p)) (hc : ∀ i (h : i < s.size), w.cell? ⟨r, i, none⟩ = some (.int .u8 (s[i]'h).toNat)) :
    Calls Try.prog 136 #[.pointer (some ⟨g, 0, none⟩), .int .i64 p, .int .i64 k] w fun e w' => e = .returned (.tuple #[.int .u64 (beNum (bytesAt s p k) : Nat), .bool true]) ∧ w' = w := by
  have HC := Lib.hid hc
  clear hc
  have c1 := (cell_of_row _ _ 1 _ _ _ hg).trans rfl
  have hcap2 : cap ≤ 9223372036854775807 := hcm
  clear hcm
  have hne : ¬ cap = p := by omega
  go_enter Try.func136, Try.ntmps136
  go_wp2
  go_loopw [8, 30] (fun c i wr => ∃ j : Nat, j ≤ k ∧ i = .int .i64 j ∧ c = .int .u64 (beNum (bytesAt s p j) : Nat) ∧ wr = w) (fun _ i => fun _ => ((k : Int) - intOf i).toNat)
  case atStart => exact ⟨0, by omega, rfl, by simp [bytesAt, beNum], rfl⟩
  case round =>
    obtain ⟨j, hj, rfl, rfl, rfl⟩ := hrel
    by_cases hlt : j < k
    · obtain ⟨x, hx⟩ : ∃ x, beNum (bytesAt s p j) = x := ⟨_, rfl⟩
      rw [hx]
      have hpj : p + j < s.size := by omega
      have hcell := HC.out (p + j) hpj
      obtain ⟨b, hb⟩ : ∃ b, (s[p + j]'hpj).toNat = b := ⟨_, rfl⟩
      rw [hb] at hcell
      have hb2 : b < 256 := by have := (s[p + j]'hpj).toNat_lt; omega
      have hnext : beNum (bytesAt s p (j + 1)) = x * 256 + b := by rw [bytesAt_succ hpj, beNum_snoc, hx, hb]
      have hx2 : x < 72057594037927936 := by
        have h := beNum_lt (bytesAt s p j)
        rw [bytesAt_length (by omega), hx] at h
        have : 256 ^ j ≤ 256 ^ 7 := Nat.pow_le_pow_right (by decide) (by omega)
        have h7 : 256 ^ 7 = 72057594037927936 := rfl
        omega
      have hor := or_byte x b hx2 hb2
      have HN := Lib.hid hnext
      clear hnext hx hb
      go_wp2
      exact ⟨⟨j + 1, by omega, by go_num, by rw [HN.out, Int.natCast_add, Int.natCast_mul]; rfl, trivial⟩, by simp [intOf]; omega⟩
    · obtain rfl : j = k := by omega
      go_wp2
      go_ret2
      exact ⟨rfl, rfl⟩

set_option maxRecDepth 100000 in
theorem ready_any (g : Nat) (v : Value) (p : Int) (w : World) (hg : w.heap[g]? = some (rdr v p)) :
    Calls Try.prog 135 #[.pointer (some ⟨g, 0, none⟩)] w fun e w' => e = .returned (.bool true) ∧ w' = w := by
  have c0 := (cell_of_row _ _ 0 _ _ _ hg).trans rfl
  have c3 := (cell_of_row _ _ 3 _ _ _ hg).trans rfl
  go_enter Try.func135, Try.ntmps135
  go_wp2
  go_ret
  exact ⟨rfl, rfl⟩

set_option maxRecDepth 100000 in
theorem plain_any (x : Nat) (w : World) : Calls Try.prog 133 #[.int .u64 x] w fun e w' => e = .returned (.int .i64 (wrap64 x)) ∧ w' = w := by
  go_enter Try.func133, Try.ntmps133
  go_wp2
  go_ret
  exact ⟨rfl, rfl⟩
set_option maxRecDepth 100000 in
theorem i64_any (x : Nat) (w : World) : Calls Try.prog 134 #[.int .u64 x] w fun e w' => e = .returned (.int .i64 (wrap64 x)) ∧ w' = w := by
  go_enter Try.func134, Try.ntmps134
  go_wp2
  go_ret
  exact ⟨rfl, rfl⟩

set_option maxRecDepth 100000 in
set_option maxHeartbeats 2000000 in
theorem take_plain (g r cap n p k : Nat) (s : ByteArray) (w : World) (hn : s.size = n) (hcap : n ≤ cap) (hcm : cap ≤ maxLen) (hk0 : 0 < k) (hk : k ≤ 8) (hp : p + k ≤ n) (hs : n ≤ 1000000000)
    (hg : w.heap[g]? = some (rdr (.slice (some ⟨r, 0, none⟩) n cap) p)) (hc : ∀ i (h : i < s.size), w.cell? ⟨r, i, none⟩ = some (.int .u8 (s[i]'h).toNat)) :
    Calls Try.prog 132 #[.pointer (some ⟨g, 0, none⟩), .int .i64 k, .func (.func 133) #[] #[]] w fun e w' => e = .returned (.int .i64 (wrap64 (beNum (bytesAt s p k) : Nat))) ∧ w'.heap[g]? = some (rdr (.slice (some ⟨r, 0, none⟩) n cap) ((p + k : Nat) : Int)) ∧ Keep [g] w w' := by
  have HC := Lib.hid hc
  clear hc
  have c2 := (cell_of_row _ _ 2 _ _ _ hg).trans rfl
  have hf2 := frozen_of_row w g 2 _ _ hg
  have hset : (w.setCell ⟨g, 2, none⟩ (.int .i64 ((p : Int) + (k : Int)))).heap[g]? = some (rdr (.slice (some ⟨r, 0, none⟩) n cap) ((p + k : Nat) : Int)) := heap_setCell_same w g 2 _ _ _ hg
  have FIN := Lib.hid (And.intro hset ((Keep.refl [g] w).setCell (a := ⟨g, 2, none⟩) (.inl (by simp)) (.int .i64 ((p : Int) + (k : Int)))))
  clear hset
  go_enter Try.func132, Try.ntmps132
  go_wp2_with fail
  refine (ready_any g _ p _ hg).mono ?_
  rintro e w1 ⟨rfl, rfl⟩
  go_wp2_with fail
  refine (rnumber_any g r cap n p k s _ hn hcap hcm hk0 hk hp hs hg HC.out).mono ?_
  rintro e w1 ⟨rfl, rfl⟩
  go_wp2_with fail
  refine (plain_any _ _).mono ?_
  rintro e w2 ⟨rfl, rfl⟩
  go_wp2
  go_ret
  exact ⟨rfl, FIN.out⟩

set_option maxRecDepth 100000 in
set_option maxHeartbeats 2000000 in
theorem take_i64 (g r cap n p k : Nat) (s : ByteArray) (w : World) (hn : s.size = n) (hcap : n ≤ cap) (hcm : cap ≤ maxLen) (hk0 : 0 < k) (hk : k ≤ 8) (hp : p + k ≤ n) (hs : n ≤ 1000000000)
    (hg : w.heap[g]? = some (rdr (.slice (some ⟨r, 0, none⟩) n cap) p)) (hc : ∀ i (h : i < s.size), w.cell? ⟨r, i, none⟩ = some (.int .u8 (s[i]'h).toNat)) :
    Calls Try.prog 132 #[.pointer (some ⟨g, 0, none⟩), .int .i64 k, .func (.func 134) #[] #[]] w fun e w' => e = .returned (.int .i64 (wrap64 (beNum (bytesAt s p k) : Nat))) ∧ w'.heap[g]? = some (rdr (.slice (some ⟨r, 0, none⟩) n cap) ((p + k : Nat) : Int)) ∧ Keep [g] w w' := by
  have HC := Lib.hid hc
  clear hc
  have c2 := (cell_of_row _ _ 2 _ _ _ hg).trans rfl
  have hf2 := frozen_of_row w g 2 _ _ hg
  have hset : (w.setCell ⟨g, 2, none⟩ (.int .i64 ((p : Int) + (k : Int)))).heap[g]? = some (rdr (.slice (some ⟨r, 0, none⟩) n cap) ((p + k : Nat) : Int)) := heap_setCell_same w g 2 _ _ _ hg
  have FIN := Lib.hid (And.intro hset ((Keep.refl [g] w).setCell (a := ⟨g, 2, none⟩) (.inl (by simp)) (.int .i64 ((p : Int) + (k : Int)))))
  clear hset
  go_enter Try.func132, Try.ntmps132
  go_wp2_with fail
  refine (ready_any g _ p _ hg).mono ?_
  rintro e w1 ⟨rfl, rfl⟩
  go_wp2_with fail
  refine (rnumber_any g r cap n p k s _ hn hcap hcm hk0 hk hp hs hg HC.out).mono ?_
  rintro e w1 ⟨rfl, rfl⟩
  go_wp2_with fail
  refine (i64_any _ _).mono ?_
  rintro e w2 ⟨rfl, rfl⟩
  go_wp2
  go_ret
  exact ⟨rfl, FIN.out⟩

set_option maxRecDepth 100000 in
theorem ru8_any (g r cap n p : Nat) (s : ByteArray) (w : World) (hn : s.size = n) (hcap : n ≤ cap) (hcm : cap ≤ maxLen) (hp : p + 1 ≤ n) (hs : n ≤ 1000000000)
    (hg : w.heap[g]? = some (rdr (.slice (some ⟨r, 0, none⟩) n cap) p)) (hc : ∀ i (h : i < s.size), w.cell? ⟨r, i, none⟩ = some (.int .u8 (s[i]'h).toNat)) :
    Calls Try.prog 107 #[.pointer (some ⟨g, 0, none⟩)] w fun e w' => e = .returned (.int .i64 (wrap64 (beNum (bytesAt s p 1) : Nat))) ∧ w'.heap[g]? = some (rdr (.slice (some ⟨r, 0, none⟩) n cap) ((p + 1 : Nat) : Int)) ∧ Keep [g] w w' := by
  have ht := take_plain g r cap n p 1 s w hn hcap hcm (by decide) (by decide) hp hs hg hc
  have HT := Lib.hid ht
  clear ht hc hg
  go_enter Try.func107, Try.ntmps107
  go_wp2_with fail
  refine HT.out.mono ?_
  rintro e w1 ⟨rfl, hr⟩
  have FIN := Lib.hid hr
  clear hr
  go_wp2
  go_ret
  exact ⟨rfl, FIN.out⟩

set_option maxRecDepth 100000 in
theorem ru32_any (g r cap n p : Nat) (s : ByteArray) (w : World) (hn : s.size = n) (hcap : n ≤ cap) (hcm : cap ≤ maxLen) (hp : p + 4 ≤ n) (hs : n ≤ 1000000000)
    (hg : w.heap[g]? = some (rdr (.slice (some ⟨r, 0, none⟩) n cap) p)) (hc : ∀ i (h : i < s.size), w.cell? ⟨r, i, none⟩ = some (.int .u8 (s[i]'h).toNat)) :
    Calls Try.prog 108 #[.pointer (some ⟨g, 0, none⟩)] w fun e w' => e = .returned (.int .i64 (wrap64 (beNum (bytesAt s p 4) : Nat))) ∧ w'.heap[g]? = some (rdr (.slice (some ⟨r, 0, none⟩) n cap) ((p + 4 : Nat) : Int)) ∧ Keep [g] w w' := by
  have ht := take_plain g r cap n p 4 s w hn hcap hcm (by decide) (by decide) hp hs hg hc
  have HT := Lib.hid ht
  clear ht hc hg
  go_enter Try.func108, Try.ntmps108
  go_wp2_with fail
  refine HT.out.mono ?_
  rintro e w1 ⟨rfl, hr⟩
  have FIN := Lib.hid hr
  clear hr
  go_wp2
  go_ret
  exact ⟨rfl, FIN.out⟩

set_option maxRecDepth 100000 in
theorem ru16_any (g r cap n p : Nat) (s : ByteArray) (w : World) (hn : s.size = n) (hcap : n ≤ cap) (hcm : cap ≤ maxLen) (hp : p + 2 ≤ n) (hs : n ≤ 1000000000)
    (hg : w.heap[g]? = some (rdr (.slice (some ⟨r, 0, none⟩) n cap) p)) (hc : ∀ i (h : i < s.size), w.cell? ⟨r, i, none⟩ = some (.int .u8 (s[i]'h).toNat)) :
    Calls Try.prog 110 #[.pointer (some ⟨g, 0, none⟩)] w fun e w' => e = .returned (.int .i64 (wrap64 (beNum (bytesAt s p 2) : Nat))) ∧ w'.heap[g]? = some (rdr (.slice (some ⟨r, 0, none⟩) n cap) ((p + 2 : Nat) : Int)) ∧ Keep [g] w w' := by
  have ht := take_plain g r cap n p 2 s w hn hcap hcm (by decide) (by decide) hp hs hg hc
  have HT := Lib.hid ht
  clear ht hc hg
  go_enter Try.func110, Try.ntmps110
  go_wp2_with fail
  refine HT.out.mono ?_
  rintro e w1 ⟨rfl, hr⟩
  have FIN := Lib.hid hr
  clear hr
  go_wp2
  go_ret
  exact ⟨rfl, FIN.out⟩

set_option maxRecDepth 100000 in
theorem ri64_any (g r cap n p : Nat) (s : ByteArray) (w : World) (hn : s.size = n) (hcap : n ≤ cap) (hcm : cap ≤ maxLen) (hp : p + 8 ≤ n) (hs : n ≤ 1000000000)
    (hg : w.heap[g]? = some (rdr (.slice (some ⟨r, 0, none⟩) n cap) p)) (hc : ∀ i (h : i < s.size), w.cell? ⟨r, i, none⟩ = some (.int .u8 (s[i]'h).toNat)) :
    Calls Try.prog 109 #[.pointer (some ⟨g, 0, none⟩)] w fun e w' => e = .returned (.int .i64 (wrap64 (beNum (bytesAt s p 8) : Nat))) ∧ w'.heap[g]? = some (rdr (.slice (some ⟨r, 0, none⟩) n cap) ((p + 8 : Nat) : Int)) ∧ Keep [g] w w' := by
  have ht := take_i64 g r cap n p 8 s w hn hcap hcm (by decide) (by decide) hp hs hg hc
  have HT := Lib.hid ht
  clear ht hc hg
  go_enter Try.func109, Try.ntmps109
  go_wp2_with fail
  refine HT.out.mono ?_
  rintro e w1 ⟨rfl, hr⟩
  have FIN := Lib.hid hr
  clear hr
  go_wp2
  go_ret
  exact ⟨rfl, FIN.out⟩

set_option maxRecDepth 100000 in
theorem rat_any (g : Nat) (v : Value) (p : Int) (w : World) (hg : w.heap[g]? = some (rdr v p)) :
    Calls Try.prog 111 #[.pointer (some ⟨g, 0, none⟩)] w fun e w' => e = .returned (.int .i64 p) ∧ w' = w := by
  have c2 := (cell_of_row _ _ 2 _ _ _ hg).trans rfl
  go_enter Try.func111, Try.ntmps111
  go_wp2
  go_ret
  exact ⟨rfl, rfl⟩
end Go.Proofs.Ytkhggpopohkjfaa
