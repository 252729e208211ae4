/- A region that draws its order and ends in one operation that waits for all others (a store): each of the others yields SOME value of which something is known that lasts; and finds, as long as it has not come up, what it wants. No condition. -/
import Derived.Test.YtkhggpopohkjfaaRelZ
namespace Go.Proofs.Ytkhggpopohkjfaa
open Go.RowKit
set_option linter.unusedVariables false
set_option linter.unusedSimpArgs false
set_option linter.unusedSectionVars false

/-- As RelInv, and what is listed has all that it waits for listed. -/
structure RelInvP (md : Region.Mode) (ops : Array Oper) (n : Nat) (a0 : Act) (C : World → Prop) (Pre : Nat → World → Prop) (R : Nat → Value → World → Prop) (listed : Array Bool) (a : Act) (w : World) : Prop where
  ok : C w
  pre : ∀ i, i < n → listed.getD i true = false → Pre i w
  defers : a.defers = a0.defers
  size : a.tmps.size = a0.tmps.size
  out : ∀ t, (∀ i o, i < n → ops[i]? = some o → listed.getD i true = true → o.dst ≠ some t) → a.tmps.getD t undef = a0.tmps.getD t undef
  vals : ∀ i o d, i < n → ops[i]? = some o → listed.getD i true = true → o.dst = some d → R i (a.tmps.getD d undef) w
  closed : ∀ i o, ops[i]? = some o → listed.getD i true = true → ∀ e ∈ o.after, Region.binds md e = true → listed.getD e.on true = true
  open_ : listed.getD n true = false

theorem wpAny_relp {P : Program} {md : Region.Mode} {ops : Array Oper} {Q : Exit → Act → World → Prop} (n : Nat) (z : Oper) (hn : ops.size = n + 1) (hz : ops[n]? = some z) (a0 : Act) (C : World → Prop) (Pre : Nat → World → Prop) (R : Nat → Value → World → Prop)
    (hdst : ∀ (i : Nat) (o : Oper), i < n → ops[i]? = some o → ∃ d, o.dst = some d ∧ d < a0.tmps.size) (hinj : ∀ (i j : Nat) (oi oj : Oper), i < n → j < n → ops[i]? = some oi → ops[j]? = some oj → oi.dst = oj.dst → i = j)
    (hzd : z.dst = none) (hg : ∀ o ∈ ops, o.guard = none) (hlex : ∀ (i : Nat) (o : Oper), ops[i]? = some o → ∀ e ∈ o.after, e.on < i)
    (hsucc : ∀ i, i < n → ∃ (j : Nat) (o : Oper), ops[j]? = some o ∧ ∃ e ∈ o.after, e.on = i ∧ Region.binds md e = true)
    (hstep : ∀ (i : Nat) (o : Oper), i < n → ops[i]? = some o → ∀ a w, C w → Pre i w → a.tmps.size = a0.tmps.size → (∀ t, (∀ (j : Nat) (o' : Oper), j < n → ops[j]? = some o' → o'.dst ≠ some t) → a.tmps.getD t undef = a0.tmps.getD t undef) →
      (∀ e ∈ o.after, Region.binds md e = true → ∀ o' d, ops[e.on]? = some o' → o'.dst = some d → R e.on (a.tmps.getD d undef) w) →
      ∀ K Q', (∀ v w', R i v w' → C w' → (∀ j u, j ≠ i → R j u w → R j u w') → (∀ j, j ≠ i → Pre j w → Pre j w') → K (a.put o.dst v) w') → o.wp P a w K Q')
    (hQ : ∀ a w, C w → a.defers = a0.defers → a.tmps.size = a0.tmps.size → (∀ t, (∀ (j : Nat) (o' : Oper), j < n → ops[j]? = some o' → o'.dst ≠ some t) → a.tmps.getD t undef = a0.tmps.getD t undef) →
      (∀ (i : Nat) (o : Oper) (d : Tmp), i < n → ops[i]? = some o → o.dst = some d → R i (a.tmps.getD d undef) w) → ∀ K, (∀ a w, Q .normal a w → K a w) → z.wp P a w K Q) :
    ∀ (fuel : Nat) (listed : Array Bool) (a : Act) (w : World), listed.size = ops.size → listed.toList.count false ≤ fuel → RelInvP md ops n a0 C Pre R listed a w → wpAny P md ops Q fuel listed a w := by
  have getF : ∀ (listed : Array Bool) (i : Nat), listed.size = ops.size → listed.getD i true = false → i < listed.size := fun listed i hsz h => by
    rcases Nat.lt_or_ge i listed.size with h1 | h1
    · exact h1
    · simp [Array.getD_eq_getD_getElem?, Array.getElem?_eq_none h1] at h
  -- something is ready as long as not all are listed
  have some_ready : ∀ listed : Array Bool, listed.size = ops.size → listed.getD n true = false → Region.ready md ops listed ≠ [] := by
    intro listed hsz hopen hr
    have : ∀ i, listed.getD i true = true := by
      intro i
      induction i using Nat.strongRecOn with
      | _ i ih =>
        cases hb : listed.getD i true with
        | true => rfl
        | false =>
          exfalso
          have hi : i < ops.size := by have := getF listed i hsz hb; omega
          have hmem : i ∈ Region.ready md ops listed := mem_ready.2 ⟨hb, ops[i], by simp [hi], fun e he _ => by
            have hlt := hlex i ops[i] (by simp [hi]) e he
            have h1 := ih e.on hlt
            have h2 : e.on < listed.size := by omega
            simpa [Array.getD_eq_getD_getElem?, Array.getElem?_eq_getElem h2] using h1⟩
          rw [hr] at hmem
          cases hmem
    rw [this n] at hopen
    cases hopen
  intro fuel
  induction fuel with
  | zero =>
    intro listed a w hsz hc h
    exfalso
    have hi := getF listed n hsz h.open_
    have hm : false ∈ listed.toList := by
      have h2 := h.open_
      simp only [Array.getD_eq_getD_getElem?, Array.getElem?_eq_getElem hi, Option.getD_some] at h2
      rw [← h2]
      simp
    have := List.count_pos_iff.2 hm
    omega
  | succ fuel ih =>
    intro listed a w hsz hc h
    refine ⟨fun hr => absurd hr (some_ready listed hsz h.open_), fun i hi => ?_⟩
    obtain ⟨hun, o, ho, hall⟩ := mem_ready.1 hi
    have hmem : o ∈ ops := Array.mem_of_getElem? ho
    have hil : i < listed.size := getF listed i hsz hun
    have hdone : ∀ e ∈ o.after, Region.binds md e = true → listed.getD e.on true = true := fun e he hb => by
      have h1 := hall e he hb
      cases hx : listed[e.on]? with
      | none => simp [Array.getD_eq_getD_getElem?, hx] at h1
      | some b => simpa [Array.getD_eq_getD_getElem?, hx] using h1
    unfold wpOp
    simp only [ho, Region.wanted, hg o hmem, if_true]
    rcases Nat.lt_or_ge i n with hin | hin
    · refine .inl (hstep i o hin ho a w h.ok (h.pre i hin hun) h.size (fun t ht => h.out t (fun j oj hjn hj _ => ht j oj hjn hj)) (fun e he hb o' d ho' hd => h.vals e.on o' d (by have := hlex i o ho e he; omega) ho' (hdone e he hb) hd) _ _ ?_)
      intro v w' hv hC hrel hpre
      obtain ⟨d, hd, hds⟩ := hdst i o hin ho
      have hput : a.put o.dst v = { a with tmps := a.tmps.setIfInBounds d v } := by rw [hd]; rfl
      have hne : ∀ t, t ≠ d → (a.put o.dst v).tmps.getD t undef = a.tmps.getD t undef := by
        intro t ht
        rw [hput]
        simp only [Array.getD_eq_getD_getElem?]
        rw [Array.getElem?_setIfInBounds_ne (Ne.symm ht)]
      have heq : (a.put o.dst v).tmps.getD d undef = v := by
        rw [hput]
        simp only [Array.getD_eq_getD_getElem?]
        rw [Array.getElem?_setIfInBounds_self_of_lt (by rw [h.size]; exact hds)]
        rfl
      refine ih _ _ _ (by simpa using hsz) ?_ ⟨hC, ?_, by rw [hput]; exact h.defers, by rw [hput]; simpa using h.size, ?_, ?_, ?_, ?_⟩
      · have hli : listed.toList[i]'(by simpa using hil) = false := by
          simpa [Array.getD_eq_getD_getElem?, Array.getElem?_eq_getElem hil] using hun
        rw [Array.toList_setIfInBounds, List.count_set (by simpa using hil)]
        simp only [hli]
        have := List.count_pos_iff.2 (show false ∈ listed.toList by rw [← hli]; exact List.getElem_mem _)
        simp only [Array.count_toList] at this hc ⊢
        simp
        omega
      · intro j hjn hj
        by_cases hij : j = i
        · subst hij
          simp [Array.getD_eq_getD_getElem?, hil] at hj
        · refine hpre j hij (h.pre j hjn ?_)
          simp only [Array.getD_eq_getD_getElem?] at hj ⊢
          rw [Array.getElem?_setIfInBounds_ne (Ne.symm hij)] at hj
          exact hj
      · intro t ht
        have htd : t ≠ d := by
          rintro rfl
          refine ht i o hin ho ?_ hd
          simp [Array.getD_eq_getD_getElem?, hil]
        rw [hne t htd]
        refine h.out t (fun j oj hjn hj hl => ht j oj hjn hj ?_)
        by_cases hij : j = i
        · subst hij; simp [Array.getD_eq_getD_getElem?, hil]
        · simp only [Array.getD_eq_getD_getElem?] at hl ⊢
          rw [Array.getElem?_setIfInBounds_ne (Ne.symm hij)]
          exact hl
      · intro j oj dj hjn hj hl hdj
        rcases getD_set_true hl with rfl | hl2
        · rw [ho] at hj
          cases hj
          rw [hd] at hdj
          cases hdj
          rw [heq]
          exact hv
        · by_cases hdd : dj = d
          · subst hdd
            have := hinj i j o oj hin hjn ho hj (by rw [hd, hdj])
            subst this
            rw [hun] at hl2
            cases hl2
          · rw [hne dj hdd]
            exact hrel j _ (by rintro rfl; rw [hun] at hl2; cases hl2) (h.vals j oj dj hjn hj hl2 hdj)
      · intro j oj hj hl e he hb
        have hor : j = i ∨ listed.getD j true = true := getD_set_true hl
        have hin2 : listed.getD e.on true = true := by
          rcases hor with rfl | hl2
          · rw [ho] at hj; cases hj; exact hdone e he hb
          · exact h.closed j oj hj hl2 e he hb
        by_cases hij : e.on = i
        · rw [hij]; simp [Array.getD_eq_getD_getElem?, hil]
        · simp only [Array.getD_eq_getD_getElem?] at hin2 ⊢
          rw [Array.getElem?_setIfInBounds_ne (Ne.symm hij)]
          exact hin2
      · have := h.open_
        simp only [Array.getD_eq_getD_getElem?] at this ⊢
        rw [Array.getElem?_setIfInBounds_ne (by omega)]
        exact this
    · -- the last one: all the others are listed
      have hi_n : i = n := by omega
      subst hi_n
      rw [hz] at ho
      cases ho
      have hlisted : ∀ k, ∀ j, i - j = k → j < i → listed.getD j true = true := by
        intro k
        induction k using Nat.strongRecOn with
        | _ k ihk =>
          intro j hjk hj
          obtain ⟨j2, o2, hj2, e, he, hej, hb⟩ := hsucc j hj
          have hlt := hlex j2 o2 hj2 e he
          have hj2s : j2 < ops.size := (Array.getElem?_eq_some_iff.1 hj2).1
          rw [← hej]
          by_cases h2 : j2 = i
          · subst h2
            rw [hz] at hj2
            cases hj2
            exact hdone e he hb
          · exact h.closed j2 o2 hj2 (ihk (i - j2) (by omega) j2 rfl (by omega)) e he hb
      refine .inl (hQ a w h.ok h.defers h.size (fun t ht => h.out t (fun j oj hjn hj _ => ht j oj hjn hj)) (fun j oj d hjn hj hd => h.vals j oj d hjn hj (hlisted _ j rfl hjn) hd) _ ?_)
      intro a' w' hq
      have hr : Region.ready md ops (listed.setIfInBounds i true) = [] := by
        refine List.eq_nil_iff_forall_not_mem.2 fun j hj => ?_
        obtain ⟨hjf, o2, ho2, _⟩ := mem_ready.1 hj
        have hjs : j < ops.size := (Array.getElem?_eq_some_iff.1 ho2).1
        by_cases hji : j = i
        · subst hji
          simp [Array.getD_eq_getD_getElem?, hil] at hjf
        · have := hlisted _ j rfl (by omega)
          simp only [Array.getD_eq_getD_getElem?] at hjf this
          rw [Array.getElem?_setIfInBounds_ne (Ne.symm hji)] at hjf
          rw [hjf] at this
          cases this
      cases fuel with
      | zero => exact ⟨hr, hq⟩
      | succ fuel => exact ⟨fun _ => hq, fun j hj => by rw [hr] at hj; cases hj⟩

/-- What is to be shown of each operation. -/
def relpSteps (P : Program) (md : Region.Mode) (ops : List Oper) (a0 : Act) (C : World → Prop) (Pre : Nat → World → Prop) (R : Nat → Value → World → Prop) : Nat → List Oper → Prop
  | _, [] => True
  | i, o :: rest => (∀ a w, C w → Pre i w → (∀ t, outB ops t = true → a.tmps.getD t undef = a0.tmps.getD t undef) → relFacts md ops R a w o.after.toList → ∀ K Q', (∀ v w', R i v w' → C w' → (∀ j u, j ≠ i → R j u w → R j u w') → (∀ j, j ≠ i → Pre j w → Pre j w') → K (a.put o.dst v) w') → o.wp P a w K Q') ∧
    relpSteps P md ops a0 C Pre R (i + 1) rest
theorem relpSteps_cons {P : Program} {md : Region.Mode} {ops : List Oper} {a0 : Act} {C : World → Prop} {Pre : Nat → World → Prop} {R : Nat → Value → World → Prop} {i : Nat} {o : Oper} {rest : List Oper}
    (h1 : ∀ a w, C w → Pre i w → (∀ t, outB ops t = true → a.tmps.getD t undef = a0.tmps.getD t undef) → relFacts md ops R a w o.after.toList → ∀ K Q', (∀ v w', R i v w' → C w' → (∀ j u, j ≠ i → R j u w → R j u w') → (∀ j, j ≠ i → Pre j w → Pre j w') → K (a.put o.dst v) w') → o.wp P a w K Q')
    (h2 : relpSteps P md ops a0 C Pre R (i + 1) rest) : relpSteps P md ops a0 C Pre R i (o :: rest) := ⟨h1, h2⟩
theorem relpSteps_at {P : Program} {md : Region.Mode} {ops : List Oper} {a0 : Act} {C : World → Prop} {Pre : Nat → World → Prop} {R : Nat → Value → World → Prop} : ∀ (l : List Oper) (k i : Nat) (o : Oper), relpSteps P md ops a0 C Pre R k l → l[i]? = some o →
    ∀ a w, C w → Pre (k + i) w → (∀ t, outB ops t = true → a.tmps.getD t undef = a0.tmps.getD t undef) → relFacts md ops R a w o.after.toList → ∀ K Q', (∀ v w', R (k + i) v w' → C w' → (∀ j u, j ≠ k + i → R j u w → R j u w') → (∀ j, j ≠ k + i → Pre j w → Pre j w') → K (a.put o.dst v) w') → o.wp P a w K Q'
  | [], _, _, _, _, h => by simp at h
  | x :: l, k, 0, o, hs, h => by
    simp only [List.getElem?_cons_zero, Option.some.injEq] at h
    subst h
    exact hs.1
  | x :: l, k, i + 1, o, hs, h => by
    have := relpSteps_at l (k + 1) i o hs.2 (by simpa using h)
    rw [show k + 1 + i = k + (i + 1) by omega] at this
    exact this

theorem wp_region_relp {P : Program} {id : Nat} {Q : Exit → Act → World → Prop} {a0 : Act} {W : World} {l : List Oper} {z : Oper} {lz : List Oper} (hl : lz.dropLast = l) (hzl : lz.getLast? = some z) (hm : P.follows .mixedOrders = true) (hB : relzB a0.tmps.size l z = true)
    (C : World → Prop) (Pre : Nat → World → Prop) (R : Nat → Value → World → Prop)
    (hC : C W.drew) (hP : ∀ i, Pre i W.drew) (hsteps : relpSteps P .any l a0 C Pre R 0 l)
    (hQ : ∀ (tm : Array Value) (w : World), C w → tm.size = a0.tmps.size → (∀ t, outB l t = true → tm.getD t undef = a0.tmps.getD t undef) → relAll R ⟨tm, a0.defers⟩ w 0 l → ∀ K : Act → World → Prop, (∀ a w, Q .normal a w → K a w) → z.wp P ⟨tm, a0.defers⟩ w K Q) :
    (Code.region id lz.toArray true).wp P Q a0 W := by
  obtain rfl : lz = l ++ [z] := by
    have hne : lz ≠ [] := by rintro rfl; cases hzl
    rw [List.getLast?_eq_some_getLast hne] at hzl
    cases hzl
    rw [← hl]
    exact (List.dropLast_concat_getLast hne).symm
  clear hl hzl
  simp only [relzB, relB, Bool.and_eq_true, List.all_eq_true, decide_eq_true_eq] at hB
  obtain ⟨⟨⟨⟨⟨⟨h1, h2⟩, h3⟩, hzg⟩, hzd⟩, hza⟩, hsu⟩ := hB
  have hget : ∀ i : Nat, i < l.length → (l ++ [z]).toArray[i]? = l[i]? := fun i hi => by simp [List.getElem?_append_left hi]
  have hgz : (l ++ [z]).toArray[l.length]? = some z := by simp
  refine wp_region_any hm (wpAny_relp l.length z (by simp) hgz a0 C Pre R ?_ ?_ (Option.isNone_iff_eq_none.1 hzd) ?_ ?_ ?_ ?_ ?_ (l ++ [z]).toArray.size (Array.replicate (l ++ [z]).toArray.size false) a0 W.drew (by simp) (by simp) ⟨hC, fun i _ _ => hP i, rfl, rfl, fun _ _ => rfl, ?_, ?_, ?_⟩)
  · intro i o hi ho
    rw [hget i hi] at ho
    have := (h1 o (List.mem_of_getElem? ho)).1
    cases hd : o.dst with
    | none => rw [hd] at this; cases this
    | some d => rw [hd] at this; exact ⟨d, rfl, of_decide_eq_true this⟩
  · intro i j oi oj hi hj hoi hoj hij
    rw [hget i hi] at hoi
    rw [hget j hj] at hoj
    have hi' : (l.map (·.dst))[i]? = some oi.dst := by rw [List.getElem?_map, hoi]; rfl
    have hj' : (l.map (·.dst))[j]? = some oj.dst := by rw [List.getElem?_map, hoj]; rfl
    obtain ⟨hil, ei⟩ := List.getElem?_eq_some_iff.1 hi'
    obtain ⟨hjl, ej⟩ := List.getElem?_eq_some_iff.1 hj'
    exact (List.getElem_inj (h₀ := hil) (h₁ := hjl) h2).1 (by rw [ei, ej, hij])
  · intro o ho
    have ho' : o ∈ l ∨ o = z := by simpa using ho
    rcases ho' with ho' | rfl
    · exact Option.isNone_iff_eq_none.1 (h1 o ho').2
    · exact Option.isNone_iff_eq_none.1 hzg
  · intro i o ho e he
    rcases Nat.lt_or_ge i l.length with hi | hi
    · rw [hget i hi] at ho
      have := h3 i (List.mem_range.2 hi)
      rw [ho] at this
      exact of_decide_eq_true (Array.all_eq_true_iff_forall_mem.1 this e he)
    · have hs : i < (l ++ [z]).toArray.size := (Array.getElem?_eq_some_iff.1 ho).1
      have : i = l.length := by simp at hs; omega
      subst this
      rw [hgz] at ho
      cases ho
      exact of_decide_eq_true (Array.all_eq_true_iff_forall_mem.1 hza e he)
  · intro i hi
    have := hsu i (List.mem_range.2 hi)
    obtain ⟨o, ho, h⟩ := List.any_eq_true.1 this
    obtain ⟨j, hj, e⟩ := List.getElem_of_mem ho
    obtain ⟨k, hk, he⟩ := Array.any_eq_true.1 h
    rw [Bool.and_eq_true] at he
    exact ⟨j, o, by simp only [List.getElem?_toArray]; rw [List.getElem?_eq_getElem hj, e], o.after[k], Array.getElem_mem _, by simpa using he.1, he.2⟩
  · intro i o hi ho a w hCw hPw hsz hout hdeps K Q' hK
    rw [hget i hi] at ho
    refine relpSteps_at l 0 i o hsteps ho a w hCw (by rw [Nat.zero_add]; exact hPw) (fun t ht => hout t ?_) (relFacts_of _ fun e he hb o' d ho' hd => ?_) K Q' (by rw [Nat.zero_add]; exact hK)
    · intro j o' hj ho'
      rw [hget j hj] at ho'
      have := List.all_eq_true.1 ht o' (List.mem_of_getElem? ho')
      simpa using this
    · have hel : e.on < l.length := (List.getElem?_eq_some_iff.1 ho').1
      exact hdeps e (by simpa using he) hb o' d (by rw [hget _ hel]; exact ho') hd
  · intro a w hCw hd hsz hout hall K hK
    have ha : a = ⟨a.tmps, a0.defers⟩ := by rw [← hd]
    rw [ha]
    refine hQ a.tmps w hCw hsz (fun t ht => hout t ?_) (relAll_of l 0 fun i o d ho hd => by rw [Nat.zero_add]; exact hall i o d (List.getElem?_eq_some_iff.1 ho).1 (by rw [hget _ (List.getElem?_eq_some_iff.1 ho).1]; exact ho) hd) K hK
    intro j o' hj ho'
    rw [hget j hj] at ho'
    have := List.all_eq_true.1 ht o' (List.mem_of_getElem? ho')
    simpa using this
  · intro i o d hi ho hl _
    exfalso
    simp [Array.getD_eq_getD_getElem?, show i < l.length + 1 by omega] at hl
  · intro i o ho hl
    exfalso
    have hs : i < (l ++ [z]).toArray.size := (Array.getElem?_eq_some_iff.1 ho).1
    simp at hs
    simp [Array.getD_eq_getD_getElem?, hs] at hl
  · simp [Array.getD_eq_getD_getElem?]

theorem relR_stable {vals : List (Option Value)} {Sp : Nat → Value → World → Prop} {w w' : World} {i : Nat} (h : ∀ j v, j ≠ i → Sp j v w → Sp j v w') (j : Nat) (v : Value) (hj : j ≠ i) (hr : relR vals Sp j v w) : relR vals Sp j v w' := by
  unfold relR at *
  split
  · rename_i x hx
    rw [hx] at hr
    exact hr
  · rename_i hx
    split at hr
    · rename_i y hy; exact absurd hy (hx y)
    · exact h j v hj hr
end Go.Proofs.Ytkhggpopohkjfaa
