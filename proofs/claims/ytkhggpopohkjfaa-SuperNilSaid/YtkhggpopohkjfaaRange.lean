/- A range over a function: the rule by which this seat's three such loops are walked, at the fence that lets everything in. No condition. -/
import Derived.RangeFuncIn
import Derived.RangeFuncRecord
import Derived.RangeFuncLeaves
import Derived.RangeFuncSeq
import Derived.WalkKit
namespace Go.Proofs.Ytkhggpopohkjfaa
open Go.RowKit

theorem wide_fn (f : FuncId) : Fence.wide.fn f := trivial
theorem wide_fn_eq (f : FuncId) : Fence.wide.fn f = True := rfl

/-- How a round's body may be left, and what is asked then: the record is busy; R is asked of what yield hands back. -/
def bodyAsk (l : Nat) (rec : LoopState → Option Code → Loop) (R : Ending → World → Prop) : Exit → Act → World → Prop
  | .normal, _, W => W.heap[l]? = some (.loop (rec .busy none)) ∧ R (.returned (.bool true)) (W.putObj l (.loop (rec .ready none)))
  | .ret, _, W => W.heap[l]? = some (.loop (rec .busy none)) ∧ R (.returned (.bool false)) (W.putObj l (.loop (rec .done (some .ret))))
  | .exit id, _, W => W.heap[l]? = some (.loop (rec .busy none)) ∧ R (.returned (.bool false)) (W.putObj l (.loop (rec .done (some (.exit id)))))
  | _, _, _ => False

/-- The record of a loop. -/
abbrev recOf (fn : FuncId) (tmps : Array Value) (ps : Array Tmp) (assign body : Code) (D : Nat) (st : LoopState) (pe : Option Code) : Loop :=
  { state := st, pending := pe, fn := fn, tmps := tmps, params := ps, assign := assign, body := body, defers := D }

variable {P : Program} {n : Nat}

/-- One call of yield: the assignment, then the body, walked in a round's frame. -/
theorem yield_of_body {l D : Nat} {fn : FuncId} {tmps : Array Value} {ps : Array Tmp} {assign body : Code} {args : Array Value} {W : World} {R : Ending → World → Prop}
    (hl : W.heap[l]? = some (.loop (recOf fn tmps ps assign body D .ready none))) (hps : args.size = ps.size) (a₁ : Act) (W₁ : World)
    (hl1 : W₁.heap[l]? = some (.loop (recOf fn tmps ps assign body D .ready none)))
    (hassign : ∀ K : Act → World → Prop, K a₁ W₁ → assign.wpIn (Fence.wide.inRound l) n P (Exit.then K (fun _ _ _ => False)) { tmps := (ps.zip args).foldl (fun t (p, v) => t.setIfInBounds p v) tmps, defers := [] } W)
    (hbody : body.wpIn (Fence.wide.inRound l) n P (bodyAsk l (recOf fn tmps ps assign body D) R) a₁ (W₁.putObj l (.loop (recOf fn tmps ps assign body D .busy none)))) :
    YieldAt Fence.wide n P l args W R := by
  have hy := run_yield (P := P) (args := args) hl hps
  refine ⟨fn, _, assign, body, hy, roundIn_of_wpIn (wide_fn fn) (hassign _ ⟨_, run_beginRound hl1 rfl, ?_⟩)⟩
  refine wpIn_mono hbody ?_
  rintro e a3 W3 hp
  cases e with
  | normal => exact ⟨_, _, run_endRound none hp.1, hp.2⟩
  | ret => exact ⟨_, _, run_endRound (some .ret) hp.1, hp.2⟩
  | exit id => exact ⟨_, _, run_endRound (some (.exit id)) hp.1, hp.2⟩
  | goto t => exact hp.elim
  | panic c => exact hp.elim
  | outgrown => exact hp.elim

/-- What is asked when the iterator has returned. -/
def rangeAsk (P : Program) (n l : Nat) (rec : LoopState → Option Code → Loop) (Q : Exit → Act → World → Prop) (a' : Act) (W : World) : Prop :=
  (∃ st, st ≠ .busy ∧ W.heap[l]? = some (.loop (rec st none)) ∧ Q .normal a' (W.putObj l (.loop (rec .exhausted none)))) ∨
  (∃ st c, st ≠ .busy ∧ W.heap[l]? = some (.loop (rec st (some c))) ∧ c.wpIn Fence.wide n P Q a' (W.putObj l (.loop (rec .exhausted (some c)))))

/-- What a caller may use of the record: a round is run by walking the assignment and the body. -/
def Rounds (P : Program) (l : Nat) (tmps : Array Value) (ps : Array Tmp) (assign body : Code) (rec : LoopState → Option Code → Loop) : Prop :=
  ∀ (n : Nat) (args : Array Value) (W W₁ : World) (R : Ending → World → Prop) (a₁ : Act), args.size = ps.size →
    W.heap[l]? = some (.loop (rec .ready none)) → W₁.heap[l]? = some (.loop (rec .ready none)) →
    (∀ K : Act → World → Prop, K a₁ W₁ → assign.wpIn (Fence.wide.inRound l) n P (Exit.then K (fun _ _ _ => False)) { tmps := (ps.zip args).foldl (fun t (p, v) => t.setIfInBounds p v) tmps, defers := [] } W) →
    body.wpIn (Fence.wide.inRound l) n P (bodyAsk l rec R) a₁ (W₁.putObj l (.loop (rec .busy none))) →
    YieldAt Fence.wide n P l args W R

/-- The statement: the iterator is called with yield. -/
theorem wp_rangeFunc {g : Operand} {ps : Array Tmp} {assign body : Code} {Q : Exit → Act → World → Prop} {a : Act} {w : World} {gf : Nat} {lb : Array Value}
    (hg : a.eval g = .func (.func gf) #[] lb) (eg : ∀ args w, (callFunc gf args).run P w = .ok (.enter gf args) w)
    (h : ∀ rec, Rounds P (w.heap.size + 1) a.tmps ps assign body rec → CallsIn Fence.wide (n - 1) P gf (#[.func (.yield (w.heap.size + 1)) #[] #[]] ++ lb)
      ((w.alloc (.deferred (some []))).alloc (.loop (rec .ready none)))
      (fun e W => (∃ v, e = .returned v) ∧ rangeAsk P n (w.heap.size + 1) rec Q { a with defers := { target := .collected w.heap.size, args := #[] } :: a.defers } W)) :
    (Code.rangeFunc g ps assign body).wpIn Fence.wide n P Q a w := by
  refine wpIn_rangeFunc ?_
  intro fn _
  have h' := h (recOf fn a.tmps ps assign body w.heap.size) (fun n args W W₁ R a₁ hs hl hl1 ha hb => yield_of_body hl hs a₁ W₁ hl1 ha hb)
  have he := run_enterLoop_outer (P := P) (w := w) fn a.tmps ps assign body
  have hres : (resolve a.eval (rangeCall g (w.heap.size + 1)) 0).run P ((w.alloc (.deferred (some []))).alloc (.loop (recOf fn a.tmps ps assign body w.heap.size .ready none))) = .ok { target := .fn (.func gf) lb, args := #[.func (.yield (w.heap.size + 1)) #[] #[]] } ((w.alloc (.deferred (some []))).alloc (.loop (recOf fn a.tmps ps assign body w.heap.size .ready none))) := by
    simp only [resolve, hg]
    simp [go_sem]
  have hinv : (invoke (.fn (.func gf) lb) #[.func (.yield (w.heap.size + 1)) #[] #[]]).run P ((w.alloc (.deferred (some []))).alloc (.loop (recOf fn a.tmps ps assign body w.heap.size .ready none))) = .ok (.enter gf (#[.func (.yield (w.heap.size + 1)) #[] #[]] ++ lb)) ((w.alloc (.deferred (some []))).alloc (.loop (recOf fn a.tmps ps assign body w.heap.size .ready none))) := by
    simp only [invoke, eg]
  refine ⟨w.heap.size + 1, [{ target := .collected w.heap.size, args := #[] }], _, { target := .fn (.func gf) lb, args := #[.func (.yield (w.heap.size + 1)) #[] #[]] }, _, gf,
    _, _, he, hres, fun _ _ => trivial, hinv, (fun hd => by cases hd), h'.mono ?_⟩
  rintro e W ⟨⟨v, rfl⟩, (⟨st, hst, hl, hq⟩ | ⟨st, c, hst, hl, hq⟩)⟩
  · have hend := run_endLoop (P := P) hl (by simpa using hst)
    exact ⟨none, _, hend, hq⟩
  · have hend := run_endLoop (P := P) hl (by simpa using hst)
    exact ⟨some c, _, hend, hq⟩

end Go.Proofs.Ytkhggpopohkjfaa
