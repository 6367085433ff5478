/- What comes in: a text. No condition. -/
import Derived.Test.YtepoaapadalnoaaDoorCome
import Derived.ChangeMaps5
namespace Go.Proofs.YtepoaapadalnoaaDoor
theorem string_come {P : Program} {W : World} {base : Nat} {ts : Array TypeId} {args : Array Value} (h : ∀ (j : Nat) t v, ts[j]? = some t → args[j]? = some v → Value.okWide P W .any base t v) (j : Nat) (t : TypeId) (v : Value) (h1 : ts[j]? = some t) (h2 : args[j]? = some v) (ht : P.underlying t = some .string) : ∃ s : ByteArray, v = .string s :=
  Go.WideShapes.okWide_string ht (h j t v h1 h2)
end Go.Proofs.YtepoaapadalnoaaDoor
