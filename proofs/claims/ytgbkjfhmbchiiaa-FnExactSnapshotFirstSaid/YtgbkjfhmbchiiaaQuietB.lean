/-
  A region that draws its order, whose operations only read and whose callees may make memory of their own: walked once, in the class of all worlds in which old memory is as it was. Plain laws over any program.
-/
import Derived.Test.YtgbkjfhmbchiiaaBase
import Derived.Deep.QuietTactic
import Derived.BigQuiet
import Derived.Below
namespace Go.Proofs.Ytgbkjfhmbchiiaa
set_option linter.unusedVariables false
set_option linter.unusedSimpArgs false
open Go.RowKit

/-- a world in which all that lay in W is as it was -/
structure BelBy (W : World) where
  w : World
  h : Below W.heap.size W w
instance {W : World} : Inhabited (BelBy W) := ⟨⟨W, Below.refl _ W⟩⟩
theorem quiet_bel {P : Program} {id : Nat} {Q : Exit → Act → World → Prop} {a : Act} {w : World} {l : List Oper} (hm : P.follows .mixedOrders = true) (hB : Region.lexB .any l.toArray = true)
    (h : wpQuiet P l.toArray (fun w' => ∃ p : BelBy w, w' = p.w) (fun a' => ∀ w', (∃ p : BelBy w, w' = p.w) → Q .normal a' w') l a) : (Code.region id l.toArray true).wp P Q a w :=
  wp_region_quiet (C := fun w' => ∃ p : BelBy w, w' = p.w) hm hB ⟨⟨w.drew, (Below.refl _ w).drew⟩, rfl⟩ (by simpa using h)
theorem bel_call {P : Program} {f : FuncId} {args : Array Value} {W : World} {p : BelBy W} {v : Value} (h : Calls P f args p.w fun e w' => e = .returned v ∧ Below p.w.heap.size p.w w') : Calls P f args p.w fun e w'' => e = .returned v ∧ ∃ q : BelBy W, w'' = q.w :=
  h.mono fun _ w' ⟨he, hb⟩ => ⟨he, ⟨w', p.h.trans (hb.mono p.h.size)⟩, rfl⟩
theorem bel_same {P : Program} {f : FuncId} {args : Array Value} {W : World} {p : BelBy W} {v : Value} (h : Calls P f args p.w fun e w' => e = .returned v ∧ p.w = w') : Calls P f args p.w fun e w'' => e = .returned v ∧ ∃ q : BelBy W, w'' = q.w :=
  h.mono fun _ w' ⟨he, hb⟩ => ⟨he, p, hb.symm⟩
theorem BelBy.cell {W : World} (p : BelBy W) {q : Addr} {v : Value} (h : W.cell? q = some v) : p.w.cell? q = some v := (p.h.cell (World.block_lt_of_cell? _ _ h)).trans h

end Go.Proofs.Ytgbkjfhmbchiiaa
