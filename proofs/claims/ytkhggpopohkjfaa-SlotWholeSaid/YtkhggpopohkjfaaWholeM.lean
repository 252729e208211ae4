/- Records cut one behind the other, and what joining some of their slots gives: plain laws. -/
import Derived.Test.YtkhggpopohkjfaaJoinCut
namespace Go.Proofs.Ytkhggpopohkjfaa

/-- How many slots records have; records cut one behind the other; the records themselves; may they be cut? -/
def sumN : List ByteArray → Nat
  | [] => 0
  | s :: r => npc s + sumN r
def allL : List ByteArray → Int → Int → List SlotV
  | [], _, _ => []
  | s :: r, e, q => cutL s e q ++ allL r e (q + npc s)
def recsL : List ByteArray → Int → List RecV
  | [], _ => []
  | s :: r, q => ⟨q, q + npc s, s⟩ :: recsL r (q + npc s)
def okL : List ByteArray → Int → Int → Prop
  | [], _, _ => True
  | s :: r, e, q => cutErr s e q = 0 ∧ okL r e (q + npc s)
/-- How many whole records lie within the first M slots. -/
def wholeN : List ByteArray → Nat → Nat
  | [], _ => 0
  | s :: r, M => if npc s ≤ M then wholeN r (M - npc s) + 1 else 0

theorem sumN_append (a b : List ByteArray) : sumN (a ++ b) = sumN a + sumN b := by
  induction a with
  | nil => simp [sumN]
  | cons s r ih => simp [sumN, ih]; omega
theorem allL_append (a b : List ByteArray) (e q : Int) : allL (a ++ b) e q = allL a e q ++ allL b e (q + sumN a) := by
  induction a generalizing q with
  | nil => simp [allL, sumN]
  | cons s r ih =>
    simp only [List.cons_append, allL, sumN, ih, List.append_assoc]
    rw [show q + (npc s : Int) + (sumN r : Int) = q + ((npc s + sumN r : Nat) : Int) by omega]
theorem okL_append (a b : List ByteArray) (e q : Int) : okL (a ++ b) e q ↔ okL a e q ∧ okL b e (q + sumN a) := by
  induction a generalizing q with
  | nil => simp [okL, sumN]
  | cons s r ih =>
    simp only [List.cons_append, okL, sumN, ih]
    rw [show q + (npc s : Int) + (sumN r : Int) = q + ((npc s + sumN r : Nat) : Int) by omega, and_assoc]
theorem recsL_length (l : List ByteArray) (q : Int) : (recsL l q).length = l.length := by
  induction l generalizing q with
  | nil => rfl
  | cons s r ih => simp [recsL, ih]
theorem allL_length (l : List ByteArray) (e q : Int) : (allL l e q).length = sumN l := by
  induction l generalizing q with
  | nil => rfl
  | cons s r ih => simp [allL, sumN, ih, cutL_length]
theorem sumN_le {l : List ByteArray} {e q : Int} (h : okL l e q) : sumN l ≤ 152 * l.length := by
  induction l generalizing q with
  | nil => simp [sumN]
  | cons s r ih =>
    have := ih h.2
    have := npc_le (err_zero h.1).1
    simp [sumN]
    omega
theorem allL_data {l : List ByteArray} {e q : Int} {x : SlotV} (h : x ∈ allL l e q) : x.data.size ≤ 9223372036854775807 := by
  induction l generalizing q with
  | nil => simp [allL] at h
  | cons s r ih =>
    rcases List.mem_append.1 h with h1 | h1
    · obtain ⟨k, _, rfl⟩ := List.mem_map.1 (show x ∈ (List.range (npc s)).map (cutAt s e q true) from h1)
      simp only [cutAt, pieceB_size]
      omega
    · exact ih h1

/-- A whole number of records, and some slots of the next. -/
theorem go_all (l : List ByteArray) (e : Int) : ∀ (q : Int) (M : Nat) (prev : Option SlotV) (st : JoinS), okL l e q → st.opn = -1 → (∀ p, prev = some p → p.epoch = e ∧ p.seq + 1 = q) →
    (joinGo prev st ((allL l e q).take M)).out = st.out ++ recsL (l.take (wholeN l M)) q ∧
    (joinGo prev st ((allL l e q).take M)).next = if wholeN l M = 0 then st.next else q + sumN (l.take (wholeN l M)) := by
  induction l with
  | nil => intro q M prev st _ _ _; simp [allL, joinGo, wholeN, recsL]
  | cons s r ih =>
    intro q M prev st hok ho hp
    have hpf : ∀ p, prev = some p → folSlot p (cutAt s e q true 0) = true := by
      intro p h
      obtain ⟨h1, h2⟩ := hp p h
      simp [folSlot, cutAt, h1, h2]
    by_cases hM : npc s ≤ M
    · have ht : (allL (s :: r) e q).take M = cutL s e q ++ (allL r e (q + npc s)).take (M - npc s) := by
        simp only [allL]
        rw [List.take_append, cutL_length, List.take_of_length_le (by rw [cutL_length]; exact hM)]
      rw [ht, go_whole hok.1 prev hpf st ho]
      have hw : wholeN (s :: r) M = wholeN r (M - npc s) + 1 := by simp [wholeN, hM]
      have ih' := ih (q + npc s) (M - npc s) (some (cutAt s e q true (npc s - 1))) ⟨st.out ++ [⟨q, q + npc s, s⟩], q + npc s, s, -1⟩ hok.2 rfl (by
        intro p hpe
        obtain rfl := Option.some.inj hpe
        have := npc_pos s
        refine ⟨rfl, ?_⟩
        show q + ((npc s - 1 : Nat) : Int) + 1 = q + (npc s : Int)
        omega)
      rw [hw]
      refine ⟨?_, ?_⟩
      · rw [ih'.1]
        simp [recsL]
      · rw [ih'.2, if_neg (Nat.succ_ne_zero _)]
        simp only [List.take_succ_cons, sumN]
        by_cases h0 : wholeN r (M - npc s) = 0
        · rw [if_pos h0, h0]
          simp [sumN]
        · rw [if_neg h0]
          omega
    · have hw : wholeN (s :: r) M = 0 := by simp [wholeN, hM]
      have ht : (allL (s :: r) e q).take M = (cutL s e q).take M := by
        simp only [allL]
        rw [List.take_append_of_le_length (by rw [cutL_length]; omega)]
      rw [ht, hw]
      have := go_part hok.1 prev hpf st ho M (by omega)
      simp [this.1, this.2, recsL]

theorem wholeN_le (l : List ByteArray) (M : Nat) : wholeN l M ≤ l.length := by
  induction l generalizing M with
  | nil => simp [wholeN]
  | cons s r ih =>
    unfold wholeN
    split
    · have := ih (M - npc s); simp; omega
    · simp
/-- A record lies whole within the first M slots just if its end does. -/
theorem whole_iff (l : List ByteArray) (M : Nat) : ∀ i, i < l.length → (i < wholeN l M ↔ sumN (l.take (i + 1)) ≤ M) := by
  induction l generalizing M with
  | nil => intro i h; simp at h
  | cons s r ih =>
    intro i hi
    have hp := npc_pos s
    simp only [List.take_succ_cons, sumN]
    unfold wholeN
    split
    · rename_i hM
      cases i with
      | zero => simp [sumN]; omega
      | succ i =>
        have := ih (M - npc s) i (by simpa using hi)
        omega
    · omega

theorem join_all {l : List ByteArray} {e q : Int} (hok : okL l e q) (M : Nat) (hM : 0 < M) (hl : l ≠ []) :
    joinF ((allL l e q).take M) = (recsL (l.take (wholeN l M)) q, q + sumN (l.take (wholeN l M))) := by
  obtain ⟨s, r, rfl⟩ : ∃ s r, l = s :: r := by
    cases l with
    | nil => exact absurd rfl hl
    | cons s r => exact ⟨s, r, rfl⟩
  have h := go_all (s :: r) e q M none ⟨[], q, ByteArray.empty, -1⟩ hok rfl (fun p h => by cases h)
  obtain ⟨d, rfl⟩ : ∃ d, M = d + 1 := ⟨M - 1, by omega⟩
  have hc : (allL (s :: r) e q).take (d + 1) = cutAt s e q true 0 :: (cutFrom s e q 1 ++ allL r e (q + npc s)).take d := by
    simp only [allL]
    rw [cutL_cons, List.cons_append, List.take_succ_cons]
  rw [hc] at h ⊢
  have h3 : (cutAt s e q true 0).seq = q := by simp [cutAt]
  unfold joinF
  dsimp only
  rw [h3, h.1, h.2]
  congr 1
  split
  · rename_i h0
    rw [h0]
    simp [sumN]
  · rfl

theorem recsL_get (l : List ByteArray) (q : Int) : ∀ (i : Nat) (h : i < (recsL l q).length) (h2 : i < l.length), (recsL l q)[i] = ⟨q + sumN (l.take i), q + sumN (l.take (i + 1)), l[i]⟩ := by
  induction l generalizing q with
  | nil => intro i h; simp [recsL] at h
  | cons s r ih =>
    intro i h h2
    cases i with
    | zero => simp [recsL, sumN]
    | succ i =>
      simp only [recsL, List.getElem_cons_succ, List.take_succ_cons, sumN]
      rw [ih (q + npc s) i (by simpa [recsL] using h) (by simpa using h2)]
      congr 1 <;> omega
end Go.Proofs.Ytkhggpopohkjfaa
