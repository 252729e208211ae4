/- Bytes as a number, the greatest first; there and back. Nothing of the program is in this text. -/
import Derived.Test.YtkhggpopohkjfaaEnc
namespace Go.Proofs.Ytkhggpopohkjfaa
open Go.Lib

theorem snoc_ind {P : List UInt8 → Prop} (h0 : P []) (h1 : ∀ l b, P l → P (l ++ [b])) (l : List UInt8) : P l := by
  have h : ∀ m : List UInt8, P m.reverse := fun m => by
    induction m with
    | nil => exact h0
    | cons b m ih => rw [List.reverse_cons]; exact h1 _ _ ih
  simpa using h l.reverse

def beNum (l : List UInt8) : Nat := l.foldl (fun n b => n * 256 + b.toNat) 0
theorem beNum_nil : beNum [] = 0 := rfl
theorem beNum_snoc (l : List UInt8) (b : UInt8) : beNum (l ++ [b]) = beNum l * 256 + b.toNat := by simp [beNum]
theorem beNum_lt (l : List UInt8) : beNum l < 256 ^ l.length := by
  refine snoc_ind (P := fun l => beNum l < 256 ^ l.length) (by decide) (fun l b ih => ?_) l
  · rw [beNum_snoc, List.length_append]
    have := b.toNat_lt
    simp only [List.length_cons, List.length_nil, Nat.zero_add, Nat.pow_add, Nat.pow_one]
    omega
/-- One byte more at the small end. -/
theorem beTo_shift (k n c j : Nat) (hc : c < 256) (hj : j ≤ k) : beTo (k + 1) (n * 256 + c) j = beTo k n j := by
  unfold beTo
  apply List.map_congr_left
  intro m hm
  have hm := List.mem_range.1 hm
  have h1 : k + 1 - 1 - m = (k - 1 - m) + 1 := by omega
  rw [h1]
  unfold byteAt
  rw [Nat.pow_succ, Nat.mul_comm (256 ^ (k - 1 - m)) 256, ← Nat.div_div_eq_div_mul]
  have h2 : (n * 256 + c) / 256 = n := by omega
  rw [h2]
theorem beTo_beNum (l : List UInt8) : beTo l.length (beNum l) l.length = l := by
  refine snoc_ind (P := fun l => beTo l.length (beNum l) l.length = l) rfl (fun l b ih => ?_) l
  · have hl : (l ++ [b]).length = l.length + 1 := by simp
    have hb := b.toNat_lt
    rw [hl, beNum_snoc, beTo_succ, beTo_shift _ _ _ _ hb (Nat.le_refl _), ih]
    congr 2
    have : byteAt (beNum l * 256 + b.toNat) (l.length + 1 - 1 - l.length) = b.toNat := by
      unfold byteAt
      have h0 : l.length + 1 - 1 - l.length = 0 := by omega
      rw [h0]
      simp only [Nat.pow_zero, Nat.div_one]
      omega
    rw [this]
    simp
theorem beNum_beTo (k n : Nat) (h : n < 256 ^ k) : beNum (beTo k n k) = n := by
  induction k generalizing n with
  | zero => simp at h; subst h; rfl
  | succ k ih =>
    have hn : n = n / 256 * 256 + n % 256 := by omega
    rw [beTo_succ, beNum_snoc]
    have h1 : beTo (k + 1) n k = beTo k (n / 256) k := by
      conv => lhs; rw [hn]
      exact beTo_shift k (n / 256) (n % 256) k (by omega) (Nat.le_refl _)
    rw [h1, ih (n / 256) (by rw [Nat.pow_succ] at h; omega)]
    have h2 : (UInt8.ofNat (byteAt n (k + 1 - 1 - k))).toNat = n % 256 := by
      have h0 : k + 1 - 1 - k = 0 := by omega
      rw [h0]
      unfold byteAt
      simp
    rw [h2]
    omega
end Go.Proofs.Ytkhggpopohkjfaa
