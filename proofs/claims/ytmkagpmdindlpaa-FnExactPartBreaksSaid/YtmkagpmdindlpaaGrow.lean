/- A region that draws its order, whose operations only read and whose callees only read or make memory: one walk of its text (the class of worlds: below, nothing has turned). No condition. -/
import Derived.Test.YtmkagpmdindlpaaLib
import Derived.Deep.QuietTactic
import Derived.BigQuiet
set_option linter.unusedVariables false
namespace Go.Proofs.Ytmkagpmdindlpaa.Lib
open Go.RowKit
theorem wp_region_grow {P : Program} {id : Nat} {Q : Exit → Act → World → Prop} {a : Act} {w : World} {l : List Oper} (hm : P.follows .mixedOrders = true) (hB : Region.lexB .any l.toArray = true)
    (h : wpQuiet P l.toArray (fun w' => Below w.heap.size w w') (fun a' => ∀ w', Below w.heap.size w w' → Q .normal a' w') l a) : (Code.region id l.toArray true).wp P Q a w :=
  wp_region_quiet (C := fun w' => Below w.heap.size w w') hm hB (Below.refl _ _).drew (by simpa using h)
/-- A callee that only makes memory, met in such a world. -/
theorem Ret.grow {P : Program} {f : FuncId} {args : Array Value} {w W : World} {v : Value} (hW : Below w.heap.size w W) (h : Calls P f args W (Ret W v)) : Calls P f args W (fun e w'' => e = .returned v ∧ Below w.heap.size w w'') :=
  h.mono fun _ _ ⟨he, hb⟩ => ⟨he, bt hW hb⟩
theorem RetQ.grow {P : Program} {f : FuncId} {args : Array Value} {w W : World} {v : Value} (hW : Below w.heap.size w W) (h : Calls P f args W (fun e w' => e = .returned v ∧ w' = W)) : Calls P f args W (fun e w'' => e = .returned v ∧ Below w.heap.size w w'') :=
  h.mono fun _ _ ⟨he, hb⟩ => ⟨he, by rw [hb]; exact hW⟩
end Go.Proofs.Ytmkagpmdindlpaa.Lib
