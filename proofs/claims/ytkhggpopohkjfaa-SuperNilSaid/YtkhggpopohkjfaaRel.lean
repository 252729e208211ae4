/- A region that draws its order: each operation yields SOME value of which something is known that lasts; then, whatever the order, behind the region all of it is known. No condition. -/
import Derived.Test.YtkhggpopohkjfaaFam
namespace Go.Proofs.Ytkhggpopohkjfaa
open Go.RowKit
set_option linter.unusedVariables false
set_option linter.unusedSimpArgs false
set_option linter.unusedSectionVars false

structure RelInv (ops : Array Oper) (a0 : Act) (C : World → Prop) (R : Nat → Value → World → Prop) (listed : Array Bool) (a : Act) (w : World) : Prop where
  ok : C w
  defers : a.defers = a0.defers
  size : a.tmps.size = a0.tmps.size
  out : ∀ t, (∀ i o, ops[i]? = some o → listed.getD i true = true → o.dst ≠ some t) → a.tmps.getD t undef = a0.tmps.getD t undef
  vals : ∀ i o d, ops[i]? = some o → listed.getD i true = true → o.dst = some d → R i (a.tmps.getD d undef) w

/-- What an operation finds when it comes up. -/
structure RelSees (md : Region.Mode) (ops : Array Oper) (a0 : Act) (C : World → Prop) (R : Nat → Value → World → Prop) (o : Oper) (a : Act) (w : World) : Prop where
  ok : C w
  size : a.tmps.size = a0.tmps.size
  out : ∀ t, (∀ o' ∈ ops, o'.dst ≠ some t) → a.tmps.getD t undef = a0.tmps.getD t undef
  deps : ∀ e ∈ o.after, Region.binds md e = true → ∀ o' d, ops[e.on]? = some o' → o'.dst = some d → R e.on (a.tmps.getD d undef) w

theorem getD_set_true {listed : Array Bool} {i j : Nat} (h : (listed.setIfInBounds i true).getD j true = true) : j = i ∨ listed.getD j true = true := by
  by_cases hij : j = i
  · exact .inl hij
  · right
    simp only [Array.getD_eq_getD_getElem?] at h ⊢
    rw [Array.getElem?_setIfInBounds_ne (Ne.symm hij)] at h
    exact h

theorem wpAny_rel {P : Program} {md : Region.Mode} {ops : Array Oper} {Q : Exit → Act → World → Prop} (a0 : Act) (C : World → Prop) (Rel : World → World → Prop) (R : Nat → Value → World → Prop)
    (hdst : ∀ o ∈ ops, ∃ d, o.dst = some d ∧ d < a0.tmps.size) (hinj : ∀ (i j : Nat) (oi oj : Oper), ops[i]? = some oi → ops[j]? = some oj → oi.dst = oj.dst → i = j)
    (hg : ∀ o ∈ ops, o.guard = none) (hlex : ∀ (i : Nat) (o : Oper), ops[i]? = some o → ∀ e ∈ o.after, e.on < i)
    (hst : ∀ i v w w', Rel w w' → R i v w → R i v w')
    (hstep : ∀ i o, ops[i]? = some o → ∀ a w, RelSees md ops a0 C R o a w → ∀ K Q', (∀ v w', R i v w' → C w' → Rel w w' → K (a.put o.dst v) w') → o.wp P a w K Q')
    (hQ : ∀ a w, C w → a.defers = a0.defers → a.tmps.size = a0.tmps.size → (∀ t, (∀ o' ∈ ops, o'.dst ≠ some t) → a.tmps.getD t undef = a0.tmps.getD t undef) →
      (∀ i o d, ops[i]? = some o → o.dst = some d → R i (a.tmps.getD d undef) w) → Q .normal a w) :
    ∀ (fuel : Nat) (listed : Array Bool) (a : Act) (w : World), listed.size = ops.size → listed.toList.count false ≤ fuel → RelInv ops a0 C R listed a w → wpAny P md ops Q fuel listed a w := by
  -- all listed: done
  have fin : ∀ (listed : Array Bool) (a : Act) (w : World), listed.size = ops.size → RelInv ops a0 C R listed a w → (∀ i, listed.getD i true = true) → Q .normal a w := by
    intro listed a w _ h hall
    exact hQ a w h.ok h.defers h.size (fun t ht => h.out t (fun i o ho _ => ht o (Array.mem_of_getElem? ho))) (fun i o d ho hd => h.vals i o d ho (hall i) hd)
  -- nothing ready: all listed
  have none_ready : ∀ listed : Array Bool, listed.size = ops.size → Region.ready md ops listed = [] → ∀ i, listed.getD i true = true := by
    intro listed hsz hr i
    induction i using Nat.strongRecOn with
    | _ i ih =>
      cases hb : listed.getD i true with
      | true => rfl
      | false =>
        exfalso
        have hi : i < ops.size := by
          rcases Nat.lt_or_ge i ops.size with h | h
          · exact h
          · rw [← hsz] at h
            simp [Array.getD_eq_getD_getElem?, Array.getElem?_eq_none h] at hb
        have hmem : i ∈ Region.ready md ops listed := mem_ready.2 ⟨hb, ops[i], by simp [hi], fun e he _ => by
          have hlt := hlex i ops[i] (by simp [hi]) e he
          have h1 := ih e.on hlt
          have h2 : e.on < listed.size := by omega
          simpa [Array.getD_eq_getD_getElem?, Array.getElem?_eq_getElem h2] using h1⟩
        rw [hr] at hmem
        cases hmem
  intro fuel
  induction fuel with
  | zero =>
    intro listed a w hsz hc h
    have hall : ∀ i, listed.getD i true = true := by
      intro i
      cases hb : listed.getD i true with
      | true => rfl
      | false =>
        exfalso
        have hi : i < listed.size := by
          rcases Nat.lt_or_ge i listed.size with h | h
          · exact h
          · simp [Array.getD_eq_getD_getElem?, Array.getElem?_eq_none h] at hb
        have hm : false ∈ listed.toList := by
          simp only [Array.getD_eq_getD_getElem?, Array.getElem?_eq_getElem hi, Option.getD_some] at hb
          rw [← hb]
          simp
        have := List.count_pos_iff.2 hm
        omega
    refine ⟨?_, fin listed a w hsz h hall⟩
    cases hr : Region.ready md ops listed with
    | nil => rfl
    | cons i l =>
      have hm : i ∈ Region.ready md ops listed := by rw [hr]; exact List.mem_cons_self
      have := (mem_ready.1 hm).1
      rw [hall i] at this
      cases this
  | succ fuel ih =>
    intro listed a w hsz hc h
    refine ⟨fun hr => fin listed a w hsz h (none_ready listed hsz hr), fun i hi => ?_⟩
    obtain ⟨hun, o, ho, hall⟩ := mem_ready.1 hi
    have hmem : o ∈ ops := Array.mem_of_getElem? ho
    have hil : i < listed.size := by
      rcases Nat.lt_or_ge i listed.size with h | h
      · exact h
      · simp [Array.getD_eq_getD_getElem?, Array.getElem?_eq_none h] at hun
    unfold wpOp
    simp only [ho, Region.wanted, hg o hmem, if_true]
    refine .inl (hstep i o ho a w ⟨h.ok, h.size, fun t ht => h.out t (fun j oj hj _ => ht oj (Array.mem_of_getElem? hj)), fun e he hb o' d ho' hd => h.vals e.on o' d ho' ?_ hd⟩ _ _ ?_)
    · have h1 := hall e he hb
      cases hx : listed[e.on]? with
      | none => simp [Array.getD_eq_getD_getElem?, hx] at h1
      | some b => simpa [Array.getD_eq_getD_getElem?, hx] using h1
    · intro v w' hv hC hrel
      obtain ⟨d, hd, hds⟩ := hdst o hmem
      have hput : a.put o.dst v = { a with tmps := a.tmps.setIfInBounds d v } := by rw [hd]; rfl
      have hne : ∀ t, t ≠ d → (a.put o.dst v).tmps.getD t undef = a.tmps.getD t undef := by
        intro t ht
        rw [hput]
        simp only [Array.getD_eq_getD_getElem?]
        rw [Array.getElem?_setIfInBounds_ne (Ne.symm ht)]
      have heq : (a.put o.dst v).tmps.getD d undef = v := by
        rw [hput]
        simp only [Array.getD_eq_getD_getElem?]
        rw [Array.getElem?_setIfInBounds_self_of_lt (by rw [h.size]; exact hds)]
        rfl
      refine ih _ _ _ (by simpa using hsz) ?_ ⟨hC, by rw [hput]; exact h.defers, by rw [hput]; simpa using h.size, ?_, ?_⟩
      · have hli : listed.toList[i]'(by simpa using hil) = false := by
          simpa [Array.getD_eq_getD_getElem?, Array.getElem?_eq_getElem hil] using hun
        rw [Array.toList_setIfInBounds, List.count_set (by simpa using hil)]
        simp only [hli]
        have := List.count_pos_iff.2 (show false ∈ listed.toList by rw [← hli]; exact List.getElem_mem _)
        simp only [Array.count_toList] at this hc ⊢
        simp
        omega
      · intro t ht
        have htd : t ≠ d := by
          rintro rfl
          refine ht i o ho ?_ hd
          simp [Array.getD_eq_getD_getElem?, hil]
        rw [hne t htd]
        refine h.out t (fun j oj hj hl => ht j oj hj ?_)
        by_cases hij : j = i
        · subst hij; simp [Array.getD_eq_getD_getElem?, hil]
        · simp only [Array.getD_eq_getD_getElem?] at hl ⊢
          rw [Array.getElem?_setIfInBounds_ne (Ne.symm hij)]
          exact hl
      · intro j oj dj hj hl hdj
        rcases getD_set_true hl with rfl | hl
        · rw [ho] at hj
          cases hj
          rw [hd] at hdj
          cases hdj
          rw [heq]
          exact hv
        · by_cases hdd : dj = d
          · subst hdd
            have := hinj i j o oj ho hj (by rw [hd, hdj])
            subst this
            rw [hun] at hl
            cases hl
          · rw [hne dj hdd]
            exact hst j _ w w' hrel (h.vals j oj dj hj hl hdj)
/-- What is asked of the region's text, as a Bool. -/
def relB (n : Nat) (ops : List Oper) : Bool :=
  ops.all (fun o => (match o.dst with | some d => decide (d < n) | none => false) && o.guard.isNone) &&
  decide ((ops.map (·.dst)).Nodup) &&
  (List.range ops.length).all fun i => match ops[i]? with | some o => o.after.all (fun e => decide (e.on < i)) | none => true

def outB (ops : List Oper) (t : Nat) : Bool := ops.all fun o => o.dst != some t

/-- What is known of the operations that e's name. -/
def relFacts (md : Region.Mode) (ops : List Oper) (R : Nat → Value → World → Prop) (a : Act) (w : World) : List Edge → Prop
  | [] => True
  | e :: es => (if Region.binds md e then (match ops[e.on]? with | some o => (match o.dst with | some d => R e.on (a.tmps.getD d undef) w | none => True) | none => True) else True) ∧ relFacts md ops R a w es

/-- What is to be shown of each operation. -/
def relSteps (P : Program) (md : Region.Mode) (ops : List Oper) (a0 : Act) (C : World → Prop) (Rel : World → World → Prop) (R : Nat → Value → World → Prop) : Nat → List Oper → Prop
  | _, [] => True
  | i, o :: rest => (∀ a w, C w → (∀ t, outB ops t = true → a.tmps.getD t undef = a0.tmps.getD t undef) → relFacts md ops R a w o.after.toList → ∀ K Q', (∀ v w', R i v w' → C w' → Rel w w' → K (a.put o.dst v) w') → o.wp P a w K Q') ∧
    relSteps P md ops a0 C Rel R (i + 1) rest

theorem relSteps_cons {P : Program} {md : Region.Mode} {ops : List Oper} {a0 : Act} {C : World → Prop} {Rel : World → World → Prop} {R : Nat → Value → World → Prop} {i : Nat} {o : Oper} {rest : List Oper}
    (h1 : ∀ a w, C w → (∀ t, outB ops t = true → a.tmps.getD t undef = a0.tmps.getD t undef) → relFacts md ops R a w o.after.toList → ∀ K Q', (∀ v w', R i v w' → C w' → Rel w w' → K (a.put o.dst v) w') → o.wp P a w K Q')
    (h2 : relSteps P md ops a0 C Rel R (i + 1) rest) : relSteps P md ops a0 C Rel R i (o :: rest) := ⟨h1, h2⟩

/-- What is known of all of them. -/
def relAll (R : Nat → Value → World → Prop) (a : Act) (w : World) : Nat → List Oper → Prop
  | _, [] => True
  | i, o :: rest => (match o.dst with | some d => R i (a.tmps.getD d undef) w | none => True) ∧ relAll R a w (i + 1) rest

theorem relSteps_at {P : Program} {md : Region.Mode} {ops : List Oper} {a0 : Act} {C : World → Prop} {Rel : World → World → Prop} {R : Nat → Value → World → Prop} : ∀ (l : List Oper) (k i : Nat) (o : Oper), relSteps P md ops a0 C Rel R k l → l[i]? = some o →
    ∀ a w, C w → (∀ t, outB ops t = true → a.tmps.getD t undef = a0.tmps.getD t undef) → relFacts md ops R a w o.after.toList → ∀ K Q', (∀ v w', R (k + i) v w' → C w' → Rel w w' → K (a.put o.dst v) w') → o.wp P a w K Q'
  | [], _, _, _, _, h => by simp at h
  | x :: l, k, 0, o, hs, h => by
    simp only [List.getElem?_cons_zero, Option.some.injEq] at h
    subst h
    exact hs.1
  | x :: l, k, i + 1, o, hs, h => by
    have := relSteps_at l (k + 1) i o hs.2 (by simpa using h)
    rw [show k + 1 + i = k + (i + 1) by omega] at this
    exact this

theorem relAll_of {R : Nat → Value → World → Prop} {a : Act} {w : World} : ∀ (l : List Oper) (k : Nat), (∀ i o d, l[i]? = some o → o.dst = some d → R (k + i) (a.tmps.getD d undef) w) → relAll R a w k l
  | [], _, _ => trivial
  | x :: l, k, h => by
    refine ⟨?_, relAll_of l (k + 1) fun i o d ho hd => ?_⟩
    · cases hd : x.dst with
      | none => trivial
      | some d => exact h 0 x d rfl hd
    · rw [show k + 1 + i = k + (i + 1) by omega]
      exact h (i + 1) o d (by simpa using ho) hd

theorem relFacts_of {md : Region.Mode} {ops : List Oper} {R : Nat → Value → World → Prop} {a : Act} {w : World} : ∀ es : List Edge, (∀ e ∈ es, Region.binds md e = true → ∀ o' d, ops[e.on]? = some o' → o'.dst = some d → R e.on (a.tmps.getD d undef) w) → relFacts md ops R a w es
  | [], _ => trivial
  | e :: es, h => by
    refine ⟨?_, relFacts_of es fun e' he => h e' (List.mem_cons_of_mem _ he)⟩
    split
    · rename_i hb
      split
      · rename_i o ho
        split
        · rename_i d hd
          exact h e List.mem_cons_self hb o d ho hd
        · trivial
      · trivial
    · trivial

theorem wp_region_rel {P : Program} {id : Nat} {Q : Exit → Act → World → Prop} {a0 : Act} {W : World} {l : List Oper} (hm : P.follows .mixedOrders = true) (hB : relB a0.tmps.size l = true)
    (C : World → Prop) (Rel : World → World → Prop) (R : Nat → Value → World → Prop)
    (hst : ∀ i v w w', Rel w w' → R i v w → R i v w') (hC : C W.drew) (hsteps : relSteps P .any l a0 C Rel R 0 l)
    (hQ : ∀ (tm : Array Value) (w : World), C w → tm.size = a0.tmps.size → (∀ t, outB l t = true → tm.getD t undef = a0.tmps.getD t undef) → relAll R ⟨tm, a0.defers⟩ w 0 l → Q .normal ⟨tm, a0.defers⟩ w) :
    (Code.region id l.toArray true).wp P Q a0 W := by
  simp only [relB, Bool.and_eq_true, List.all_eq_true, decide_eq_true_eq] at hB
  obtain ⟨⟨h1, h2⟩, h3⟩ := hB
  have hget : ∀ i : Nat, l.toArray[i]? = l[i]? := fun i => by simp
  refine wp_region_any hm (wpAny_rel a0 C Rel R ?_ ?_ ?_ ?_ hst ?_ ?_ l.toArray.size (Array.replicate l.toArray.size false) a0 W.drew (by simp) (by simp) ⟨hC, rfl, rfl, fun _ _ => rfl, ?_⟩)
  · intro o ho
    have := (h1 o (by simpa using ho)).1
    cases hd : o.dst with
    | none => rw [hd] at this; cases this
    | some d => rw [hd] at this; exact ⟨d, rfl, of_decide_eq_true this⟩
  · intro i j oi oj hi hj hij
    rw [hget] at hi hj
    have hi' : (l.map (·.dst))[i]? = some oi.dst := by rw [List.getElem?_map, hi]; rfl
    have hj' : (l.map (·.dst))[j]? = some oj.dst := by rw [List.getElem?_map, hj]; rfl
    obtain ⟨hil, ei⟩ := List.getElem?_eq_some_iff.1 hi'
    obtain ⟨hjl, ej⟩ := List.getElem?_eq_some_iff.1 hj'
    exact (List.getElem_inj (h₀ := hil) (h₁ := hjl) h2).1 (by rw [ei, ej, hij])
  · intro o ho
    have := (h1 o (by simpa using ho)).2
    exact Option.isNone_iff_eq_none.1 this
  · intro i o ho e he
    rw [hget] at ho
    have hil : i < l.length := (List.getElem?_eq_some_iff.1 ho).1
    have := h3 i (List.mem_range.2 hil)
    rw [ho] at this
    exact of_decide_eq_true (Array.all_eq_true_iff_forall_mem.1 this e he)
  · intro i o ho a w hs K Q' hK
    rw [hget] at ho
    refine relSteps_at l 0 i o hsteps ho a w hs.ok (fun t ht => hs.out t ?_) (relFacts_of _ fun e he hb o' d ho' hd => hs.deps e (by simpa using he) hb o' d (by rw [hget]; exact ho') hd) K Q' (by rw [Nat.zero_add]; exact hK)
    intro o' ho'
    have := List.all_eq_true.1 ht o' (by simpa using ho')
    simpa using this
  · intro a w hCw hd hsz hout hall
    have ha : a = ⟨a.tmps, a0.defers⟩ := by rw [← hd]
    rw [ha]
    refine hQ a.tmps w hCw hsz (fun t ht => hout t ?_) (relAll_of l 0 fun i o d ho hd => by rw [Nat.zero_add]; exact hall i o d (by rw [hget]; exact ho) hd)
    intro o' ho'
    have := List.all_eq_true.1 ht o' (by simpa using ho')
    simpa using this
  · intro i o d ho hl _
    exfalso
    rw [hget] at ho
    have hil : i < l.length := (List.getElem?_eq_some_iff.1 ho).1
    simp [Array.getD_eq_getD_getElem?, hil] at hl

/-- Values that are told, or what is told of them. -/
def relR (vals : List (Option Value)) (Sp : Nat → Value → World → Prop) (i : Nat) (v : Value) (w : World) : Prop :=
  match vals[i]? with
  | some (some x) => v = x
  | _ => Sp i v w
theorem relR_keep {vals : List (Option Value)} {Sp : Nat → Value → World → Prop} (h : ∀ i v w w', Keep [] w w' → Sp i v w → Sp i v w') (i : Nat) (v : Value) (w w' : World) (hk : Keep [] w w') (hr : relR vals Sp i v w) : relR vals Sp i v w' := by
  unfold relR at *
  split
  · rename_i x hx
    rw [hx] at hr
    exact hr
  · rename_i hx
    split at hr
    · rename_i y hy; exact absurd hy (hx y)
    · exact h i v w w' hk hr

/-- An array, written out. -/
theorem tmps_out (tm : Array Value) (n : Nat) (h : tm.size = n) : tm = ((List.range n).map fun t => tm.getD t undef).toArray := by
  apply Array.ext
  · simp [h]
  · intro i h1 h2
    simp [Array.getD_eq_getD_getElem?, h1]

end Go.Proofs.Ytkhggpopohkjfaa
