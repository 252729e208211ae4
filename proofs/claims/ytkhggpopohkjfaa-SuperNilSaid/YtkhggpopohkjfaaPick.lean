/- slices.Index and slices.Contains of whole numbers; the two functions that pick. Premise: the numbers are there. -/
import Derived.Test.YtkhggpopohkjfaaDiskW
import Derived.OwnWalk
namespace Go.Proofs.Ytkhggpopohkjfaa
open Go.RowKit Go.Proofs Go.Lib
set_option linter.unusedSectionVars false
set_option linter.unusedVariables false
set_option linter.unusedSimpArgs false

/-- Whole numbers that lie in a slice, nil or not. -/
structure IntsIn (w : World) (A : Option Addr) (n cap : Nat) (zs : List Int) : Prop where
  size : zs.length = n
  hcap : n ≤ cap
  hmax : cap ≤ maxLen
  ofSome : ∀ a, A = some a → ∀ i (h : i < zs.length), w.cell? (a.add i) = some (.int .i64 (zs[i]'h))
  ofNone : A = none → n = 0 ∧ cap = 0
theorem IntsIn.keep {S : List Nat} {w w' : World} {A : Option Addr} {n cap : Nat} {zs : List Int} (h : IntsIn w A n cap zs) (hk : Keep S w w') (hS : ∀ a, A = some a → 0 < n → a.block ∉ S) : IntsIn w' A n cap zs :=
  ⟨h.size, h.hcap, h.hmax, fun a ha i hi => hk.cell (h.ofSome a ha i hi) (by have := hS a ha (by have := h.size; omega); unfold Addr.add; split <;> exact this), h.ofNone⟩

def idxI (zs : List Int) (v : Int) : Int := if zs.contains v then (zs.idxOf v : Int) else -1
theorem idxI_none {zs : List Int} {v : Int} (h : ∀ m (hm : m < zs.length), zs[m] ≠ v) : idxI zs v = -1 := by
  unfold idxI
  rw [if_neg]
  simp only [List.contains_eq_mem, decide_eq_true_eq]
  intro hv
  obtain ⟨m, hm, e⟩ := List.getElem_of_mem hv
  exact h m hm e
theorem idxI_at {zs : List Int} {v : Int} {j : Nat} (hj : j < zs.length) (he : zs[j] = v) (h : ∀ m (hm : m < j), zs[m]'(by omega) ≠ v) : idxI zs v = (j : Int) := by
  unfold idxI
  have hv : v ∈ zs := he ▸ List.getElem_mem hj
  rw [if_pos (by simpa using hv)]
  have h1 : zs.idxOf v < zs.length := List.idxOf_lt_length_of_mem hv
  have h2 : zs[zs.idxOf v] = v := List.getElem_idxOf h1
  rcases Nat.lt_trichotomy (zs.idxOf v) j with h3 | h3 | h3
  · exact absurd h2 (h _ h3)
  · rw [h3]
  · exfalso
    have := List.not_of_lt_findIdx (p := (· == v)) h3
    simp [he] at this
theorem idxI_pos (zs : List Int) (v : Int) : (decide (idxI zs v ≥ 0)) = zs.contains v := by
  unfold idxI
  cases h : zs.contains v with
  | true => simp
  | false => simp

set_option maxHeartbeats 1000000 in
theorem index_any (A : Option Addr) (n cap : Nat) (zs : List Int) (v : Int) (w : World) (h : IntsIn w A n cap zs) :
    Calls Try.prog 127 #[.slice A n cap, .int .i64 v] w fun e w' => e = .returned (.int .i64 (idxI zs v)) ∧ w = w' := by
  have hm := h.hmax
  have hc := h.hcap
  unfold maxLen at hm
  have HH := Lib.hid h
  obtain rfl : n = zs.length := h.size.symm
  clear h
  go_enter Try.func127, Try.ntmps127
  go_wp2
  go_loop [8] (fun i => ∃ j : Nat, j ≤ zs.length ∧ i = .int .i64 j ∧ Hid (∀ m (hm : m < zs.length), m < j → zs[m] ≠ v)) (fun i => zs.length - (intOf i).toNat)
  case atStart => exact ⟨0, by omega, rfl, Lib.hid (fun m _ hm => by omega)⟩
  case round =>
    obtain ⟨j, hj, rfl, hz⟩ := hrel
    by_cases hlt : j < zs.length
    · cases A with
      | none => exact absurd (HH.out.ofNone rfl).1 (by omega)
      | some a =>
        have hcell := HH.out.ofSome a rfl j hlt
        obtain ⟨x, hx⟩ : ∃ x, zs[j] = x := ⟨_, rfl⟩
        rw [hx] at hcell
        have HX := Lib.hid hx
        clear hx
        by_cases hv : v = x
        · have hfin : idxI zs v = (j : Int) := idxI_at hlt (HX.out.trans hv.symm) (fun m hm => hz.out m (by omega) hm)
          have FIN := Lib.hid hfin
          subst hv
          clear hfin
          go_wp2
          go_ret
          exact ⟨by rw [FIN.out]; rfl, rfl⟩
        · have hnext : Hid (∀ m (hm : m < zs.length), m < j + 1 → zs[m] ≠ v) := Lib.hid (fun m hm h2 => by
            by_cases h3 : m = j
            · subst h3
              rw [HX.out]
              exact fun h => hv h.symm
            · exact hz.out m hm (by omega))
          clear hz
          go_wp2
          go_round
          case rel => exact ⟨j + 1, by omega, by go_num, hnext⟩
          case measure => simp [intOf]; omega
    · have hfin : idxI zs v = -1 := idxI_none (fun m hm => hz.out m hm (by omega))
      have FIN := Lib.hid hfin
      clear hfin hz
      go_wp2
      go_ret
      exact ⟨by rw [FIN.out]; rfl, rfl⟩

theorem contains_any (A : Option Addr) (n cap : Nat) (zs : List Int) (v : Int) (w : World) (h : IntsIn w A n cap zs) :
    Calls Try.prog 89 #[.slice A n cap, .int .i64 v] w fun e w' => e = .returned (.bool (zs.contains v)) ∧ w = w' := by
  have hi := index_any A n cap zs v w h
  have hp := idxI_pos zs v
  generalize idxI zs v = x at *
  generalize zs.contains v = b at *
  have HI := Lib.hid hi
  have HP := Lib.hid hp
  clear hi hp h
  go_enter Try.func89, Try.ntmps89
  go_wp2_with fail
  refine HI.out.mono ?_
  rintro e w1 ⟨rfl, rfl⟩
  go_wp2
  go_ret
  exact ⟨by rw [← HP.out]; first | rfl | simp, rfl⟩

theorem pick_all (k : Int) (w : World) : Calls Try.prog 93 #[.int .i64 k] w fun e w' => e = .returned (.bool true) ∧ w = w' := by
  go_enter Try.func93, Try.ntmps93
  go_wp2
  go_ret
  exact ⟨rfl, rfl⟩

theorem pick_some (k : Nat) (b : Nat) (A : Option Addr) (n cap : Nat) (zs : List Int) (w : World) (h : IntsIn w A n cap zs) (hb : w.cell? ⟨b, 0, none⟩ = some (.slice A n cap)) :
    Calls Try.prog 88 #[.int .i64 k, .pointer (some ⟨b, 0, none⟩)] w fun e w' => e = .returned (.bool (pickOf zs k)) ∧ w = w' := by
  have hc := contains_any A n cap zs k w h
  have hp : pickOf zs k = zs.contains (k : Int) := rfl
  rw [hp]
  generalize zs.contains (k : Int) = x at *
  have HC := Lib.hid hc
  clear hc hp h
  go_enter Try.func88, Try.ntmps88
  go_wp2_with fail
  refine HC.out.mono ?_
  rintro e w1 ⟨rfl, rfl⟩
  go_wp2
  go_ret
  exact ⟨rfl, rfl⟩
end Go.Proofs.Ytkhggpopohkjfaa
