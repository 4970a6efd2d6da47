/- A region that draws its order, whose operations yield the same values in all worlds of a class. -/
import Derived.Test.YtfcnjhgfaibmnaaR0
import Derived.BigQuiet
namespace Go.Hw
open Go.RowKit Go.Proofs

/-- A world of the class. -/
structure QW (J : World → Prop) where
  val : World
  ok : J val
theorem wp_region_class {P : Program} {l : List Oper} {J : World → Prop} {id : Nat} {Q : Exit → Act → World → Prop} {a : Act} {w : World} (hm : P.follows .mixedOrders = true) (hB : Region.lexB .any l.toArray = true) (hJ : J w.drew)
    (h : wpQuiet P l.toArray (fun w' => ∃ q : QW J, w' = q.val) (fun a' => ∀ w', (∃ q : QW J, w' = q.val) → Q .normal a' w') l a) : (Code.region id l.toArray true).wp P Q a w :=
  wp_region_quiet (C := fun w' => ∃ q : QW J, w' = q.val) hm hB ⟨⟨_, hJ⟩, rfl⟩ (by simpa using h)
theorem Calls.in_class {P : Program} {f : FuncId} {vs : Array Value} {w : World} {J : World → Prop} {v : Value} (h : Calls P f vs w fun e w' => e = .returned v ∧ J w') : Calls P f vs w fun e w'' => e = .returned v ∧ ∃ q : QW J, w'' = q.val :=
  h.mono fun _ w' ⟨he, hj⟩ => ⟨he, ⟨w', hj⟩, rfl⟩
end Go.Hw
