/- Joining what was cut: plain laws. Premise of each: the cut went well. -/
import Derived.Test.YtkhggpopohkjfaaJoinM
namespace Go.Proofs.Ytkhggpopohkjfaa

def headB (s : ByteArray) (k : Nat) : ByteArray := s.extract 0 (min (108 * k) s.size)
theorem headB_zero (s : ByteArray) : headB s 0 = ByteArray.empty := by
  simp [headB]
theorem headB_succ {s : ByteArray} {k : Nat} (h : 108 * k ≤ s.size) : headB s (k + 1) = headB s k ++ pieceB s k := by
  unfold headB pieceB
  rw [show min (108 * k) s.size = 108 * k by omega, ByteArray.extract_append_extract]
  congr 1 <;> omega
theorem headB_all {s : ByteArray} {k : Nat} (h : s.size ≤ 108 * k) : headB s k = s := by
  unfold headB
  rw [Nat.min_eq_right h]
  simp

/-- From the k-th slot on. -/
def cutFrom (s : ByteArray) (e q : Int) (k : Nat) : List SlotV := (List.range (npc s - k)).map fun i => cutAt s e q true (k + i)
theorem cutFrom_zero (s : ByteArray) (e q : Int) : cutL s e q = cutFrom s e q 0 := by simp [cutL, cutTo, cutFrom]
theorem cutFrom_cons {s : ByteArray} {e q : Int} {k : Nat} (h : k < npc s) : cutFrom s e q k = cutAt s e q true k :: cutFrom s e q (k + 1) := by
  unfold cutFrom
  obtain ⟨d, hd⟩ : ∃ d, npc s - k = d + 1 := ⟨npc s - k - 1, by omega⟩
  rw [hd, List.range_succ_eq_map, List.map_cons, List.map_map, show npc s - (k + 1) = d by omega]
  congr 1
  refine List.map_congr_left fun i _ => ?_
  show cutAt s e q true (k + (i + 1)) = cutAt s e q true (k + 1 + i)
  rw [show k + (i + 1) = k + 1 + i by omega]
theorem cutFrom_end (s : ByteArray) (e q : Int) : cutFrom s e q (npc s) = [] := by simp [cutFrom]
theorem cutFrom_length (s : ByteArray) (e q : Int) (k : Nat) : (cutFrom s e q k).length = npc s - k := by simp [cutFrom]
theorem cutL_length (s : ByteArray) (e q : Int) : (cutL s e q).length = npc s := by rw [cutFrom_zero, cutFrom_length]; omega

/-- What 'the cut went well' says. -/
theorem err_zero {s : ByteArray} {e q : Int} (h : cutErr s e q = 0) : s.size ≤ 16384 ∧ 0 ≤ e ∧ e ≤ 2147483647 ∧ 0 ≤ q ∧ q + npc s ≤ 1152921504606846977 := by
  unfold cutErr at h
  split at h
  · cases h
  · split at h
    · cases h
    · omega
theorem cutAt_ok {s : ByteArray} {e q : Int} (h : cutErr s e q = 0) {k : Nat} (hk : k < npc s) : okSlot (cutAt s e q true k) = true := by
  obtain ⟨h1, h2, h3, h4, h5⟩ := err_zero h
  refine decide_eq_true ?_
  simp only [cutAt]
  rw [pieceB_size]
  omega
theorem cutAt_fol {s : ByteArray} {e q : Int} (k : Nat) : folSlot (cutAt s e q true k) (cutAt s e q true (k + 1)) = true := by
  simp only [folSlot, cutAt]
  rw [Bool.and_eq_true, beq_iff_eq]
  refine ⟨by omega, by simp⟩
theorem npc_mul {s : ByteArray} {k : Nat} (h : k < npc s) : 108 * k ≤ s.size := by unfold npc at h; omega
theorem npc_le_mul (s : ByteArray) : s.size ≤ 108 * npc s := by unfold npc; omega

/-- A slot within a record, not its last. -/
theorem go_mid {s : ByteArray} {e q : Int} (h : cutErr s e q = 0) {k : Nat} (hk : k + 1 < npc s) (out : List RecV) (next : Int) (rest : List SlotV) :
    joinGo (some (cutAt s e q true k)) ⟨out, next, headB s (k + 1), q⟩ (cutAt s e q true (k + 1) :: rest) =
      joinGo (some (cutAt s e q true (k + 1))) ((⟨out, next, headB s (k + 1), q⟩ : JoinS).take (cutAt s e q true (k + 1))) rest := by
  have hq : ¬ q < 0 := by have := err_zero h; omega
  have hs : joinStop (some (cutAt s e q true k)) ⟨out, next, headB s (k + 1), q⟩ (cutAt s e q true (k + 1)) = false := by
    unfold joinStop
    dsimp only
    rw [cutAt_ok h hk, cutAt_fol]
    simp [cutAt, hq]
  rw [joinGo, if_neg (by rw [hs]; simp)]
theorem take_mid {s : ByteArray} {e q : Int} {k : Nat} (hk : k + 1 < npc s) (hl : k + 2 < npc s) (out : List RecV) (next : Int) :
    ((⟨out, next, headB s (k + 1), q⟩ : JoinS).take (cutAt s e q true (k + 1))) = ⟨out, next, headB s (k + 2), q⟩ := by
  have h2 : (k + 1 + 1 == npc s) = false := by simp; omega
  rw [headB_succ (k := k + 1) (npc_mul hk)]
  simp [JoinS.take, cutAt, h2]
theorem take_last {s : ByteArray} {e q : Int} {k : Nat} (hk : k + 2 = npc s) (out : List RecV) (next : Int) :
    ((⟨out, next, headB s (k + 1), q⟩ : JoinS).take (cutAt s e q true (k + 1))) = ⟨out ++ [⟨q, q + npc s, s⟩], q + npc s, s, -1⟩ := by
  have h2 : (k + 1 + 1 == npc s) = true := by simp; omega
  have h3 : headB s (k + 1) ++ pieceB s (k + 1) = s := by
    rw [← headB_succ (npc_mul (by omega))]
    exact headB_all (by have := npc_le_mul s; rw [← hk] at this; exact this)
  have h4 : q + ((k : Int) + 1) + 1 = q + (npc s : Int) := by omega
  simp [JoinS.take, cutAt, h2, h3, h4]

/-- The rest of a record, all of it. -/
theorem go_tail {s : ByteArray} {e q : Int} (h : cutErr s e q = 0) (out : List RecV) (next : Int) (rest : List SlotV) : ∀ (d k : Nat), k + 1 + d + 1 = npc s →
    joinGo (some (cutAt s e q true k)) ⟨out, next, headB s (k + 1), q⟩ (cutFrom s e q (k + 1) ++ rest) =
      joinGo (some (cutAt s e q true (npc s - 1))) ⟨out ++ [⟨q, q + npc s, s⟩], q + npc s, s, -1⟩ rest
  | 0, k, hk => by
    rw [cutFrom_cons (by omega), List.cons_append, go_mid h (by omega), take_last (by omega), show k + 1 + 1 = npc s by omega, cutFrom_end, List.nil_append, show npc s - 1 = k + 1 by omega]
  | d + 1, k, hk => by
    rw [cutFrom_cons (by omega), List.cons_append, go_mid h (by omega), take_mid (by omega) (by omega)]
    exact go_tail h out next rest d (k + 1) (by omega)

/-- The first slot of a record, where it may follow. -/
theorem go_first {s : ByteArray} {e q : Int} (h : cutErr s e q = 0) (prev : Option SlotV) (hp : ∀ p, prev = some p → folSlot p (cutAt s e q true 0) = true) (st : JoinS) (ho : st.opn = -1) (rest : List SlotV) :
    joinGo prev st (cutAt s e q true 0 :: rest) = joinGo (some (cutAt s e q true 0)) (st.take (cutAt s e q true 0)) rest := by
  have hs : joinStop prev st (cutAt s e q true 0) = false := by
    unfold joinStop
    rw [cutAt_ok h (npc_pos s), ho]
    cases prev with
    | none => rfl
    | some p => dsimp only; rw [hp p rfl]; rfl
  rw [joinGo, if_neg (by rw [hs]; simp)]
theorem take_first_one {s : ByteArray} {e q : Int} (hn : npc s = 1) (st : JoinS) : st.take (cutAt s e q true 0) = ⟨st.out ++ [⟨q, q + npc s, s⟩], q + npc s, s, -1⟩ := by
  have hsz := npc_le_mul s
  rw [hn] at hsz
  have h3 : pieceB s 0 = s := by
    unfold pieceB
    rw [Nat.mul_zero, Nat.min_eq_right (by omega)]
    simp
  simp [JoinS.take, cutAt, h3, hn]
theorem take_first_more {s : ByteArray} {e q : Int} (hn : 1 < npc s) (st : JoinS) : st.take (cutAt s e q true 0) = ⟨st.out, st.next, headB s 1, q⟩ := by
  have h2 : (0 + 1 == npc s) = false := by simp; omega
  rw [headB_succ (by omega), headB_zero]
  simp [JoinS.take, cutAt, h2]

/-- A whole record is joined. -/
theorem go_whole {s : ByteArray} {e q : Int} (h : cutErr s e q = 0) (prev : Option SlotV) (hp : ∀ p, prev = some p → folSlot p (cutAt s e q true 0) = true) (st : JoinS) (ho : st.opn = -1) (rest : List SlotV) :
    joinGo prev st (cutL s e q ++ rest) = joinGo (some (cutAt s e q true (npc s - 1))) ⟨st.out ++ [⟨q, q + npc s, s⟩], q + npc s, s, -1⟩ rest := by
  rw [cutFrom_zero, cutFrom_cons (npc_pos s), List.cons_append, go_first h prev hp st ho]
  by_cases hn : npc s = 1
  · rw [take_first_one hn, Nat.zero_add, ← hn, cutFrom_end, List.nil_append]
    rw [hn]
  · have hn1 : 1 < npc s := by have := npc_pos s; omega
    rw [take_first_more hn1]
    exact go_tail h st.out st.next rest (npc s - 2) 0 (by omega)

/-- A part of a record's slots gives no record. -/
theorem go_tail_part {s : ByteArray} {e q : Int} (h : cutErr s e q = 0) (out : List RecV) (next : Int) : ∀ (d k : Nat), k + 1 + d < npc s →
    (joinGo (some (cutAt s e q true k)) ⟨out, next, headB s (k + 1), q⟩ ((cutFrom s e q (k + 1)).take d)).out = out ∧
    (joinGo (some (cutAt s e q true k)) ⟨out, next, headB s (k + 1), q⟩ ((cutFrom s e q (k + 1)).take d)).next = next
  | 0, k, hk => by simp [joinGo]
  | d + 1, k, hk => by
    rw [cutFrom_cons (by omega), List.take_succ_cons, go_mid h (by omega), take_mid (by omega) (by omega)]
    exact go_tail_part h out next d (k + 1) (by omega)
theorem go_part {s : ByteArray} {e q : Int} (h : cutErr s e q = 0) (prev : Option SlotV) (hp : ∀ p, prev = some p → folSlot p (cutAt s e q true 0) = true) (st : JoinS) (ho : st.opn = -1) (d : Nat) (hd : d < npc s) :
    (joinGo prev st ((cutL s e q).take d)).out = st.out ∧ (joinGo prev st ((cutL s e q).take d)).next = st.next := by
  cases d with
  | zero => simp [joinGo]
  | succ d =>
    rw [cutFrom_zero, cutFrom_cons (npc_pos s), List.take_succ_cons, go_first h prev hp st ho, take_first_more (by omega)]
    exact go_tail_part h st.out st.next d 0 (by omega)

theorem cutL_cons (s : ByteArray) (e q : Int) : cutL s e q = cutAt s e q true 0 :: cutFrom s e q 1 := by rw [cutFrom_zero, cutFrom_cons (npc_pos s)]

/-- A record, and behind it what may not follow it. -/
theorem join_elder {s : ByteArray} {e q : Int} (h : cutErr s e q = 0) (t : SlotV) (rest : List SlotV) (ht : folSlot (cutAt s e q true (npc s - 1)) t = false) :
    joinF (cutL s e q ++ t :: rest) = ([⟨q, q + npc s, s⟩], q + npc s) := by
  have h1 := go_whole h none (fun p hp => by cases hp) ⟨[], q, ByteArray.empty, -1⟩ rfl (t :: rest)
  have h2 : joinGo (some (cutAt s e q true (npc s - 1))) ⟨[] ++ [⟨q, q + npc s, s⟩], q + npc s, s, -1⟩ (t :: rest) = ⟨[⟨q, q + npc s, s⟩], q + npc s, s, -1⟩ := by
    rw [joinGo, if_pos (by unfold joinStop; dsimp only; rw [ht]; simp)]
    rfl
  rw [h2] at h1
  rw [cutL_cons, List.cons_append] at h1 ⊢
  have h3 : (cutAt s e q true 0).seq = q := by simp [cutAt]
  unfold joinF
  dsimp only
  rw [h3, h1]
end Go.Proofs.Ytkhggpopohkjfaa
