/- A region that draws its order, whose operations leave alone what lay there: one walk in the text's order serves every order. No condition. -/
import Derived.Test.YtkhggpopohkjfaaBase
import Derived.Deep.QuietTactic
import Derived.BigQuiet
namespace Go.Proofs.Ytkhggpopohkjfaa
open Go.RowKit

/-- The worlds behind W in which what lay there lies, but for the blocks of S. -/
structure FamS (S : List Nat) (W : World) where
  at_ : World
  keep : Keep S W at_
abbrev Fam (W : World) : Type := FamS [] W

instance famNonempty (S : List Nat) (W : World) : Nonempty (FamS S W) := ⟨⟨W, Keep.refl S W⟩⟩

theorem wp_region_fam {P : Program} {id : Nat} {Q : Exit → Act → World → Prop} {a : Act} {W : World} {l : List Oper} (hm : P.follows .mixedOrders = true) (hB : Region.lexB .any l.toArray = true)
    (h : wpQuiet P l.toArray (fun w' => ∃ n : Fam W, w' = n.at_) (fun a' => ∀ w', (∃ n : Fam W, w' = n.at_) → Q .normal a' w') l a) : (Code.region id l.toArray true).wp P Q a W :=
  wp_region_quiet (C := fun w' => ∃ n : Fam W, w' = n.at_) hm hB ⟨⟨W.drew, (Keep.refl _ _).drew⟩, rfl⟩ (by simpa using h)

/-- A callee that leaves alone what lay there, met in a world of the family. -/
theorem calls_fam {P : Program} {f : FuncId} {args : Array Value} {W : World} {n : Fam W} {v : Value} (h : Calls P f args n.at_ fun e w' => e = .returned v ∧ Keep [] n.at_ w') :
    Calls P f args n.at_ fun e w'' => e = .returned v ∧ ∃ m : Fam W, w'' = m.at_ :=
  h.mono fun _ w' ⟨he, hk⟩ => ⟨he, ⟨w', n.keep.trans hk⟩, rfl⟩

theorem fam_cell {W : World} {a : Addr} {v : Value} (h : W.cell? a = some v) (n : Fam W) : n.at_.cell? a = some v := n.keep.cell h (by simp)
theorem fam_box {W : World} {b : Nat} {cs : Array Value} {t : TypeId} {fr : Nat × Nat} (h : W.heap[b]? = some (.cells cs t fr)) (n : Fam W) (j : Nat) (v : Value) (hv : cs[j]? = some v) : n.at_.cell? ⟨b, j, none⟩ = some v :=
  fam_cell ((cell_of_row _ _ j _ _ _ h).trans hv) n

end Go.Proofs.Ytkhggpopohkjfaa
