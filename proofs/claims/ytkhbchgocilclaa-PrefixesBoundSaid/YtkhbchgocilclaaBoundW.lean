/- PrefixesBound's walk, for every input. No condition but that the input fits. -/
import Derived.Test.YtkhbchgocilclaaBoundY
namespace Go.Proofs.Ytkhbchgocilclaa
open Go.RowKit
theorem bound_walk {H : Type} {enc : TypeId × Value → H} {w : World} {p : Option Addr} {len cap : Nat} {d : DataW H} {ps : List MemPlace}
    (h : DataW.Trod enc Try.prog w 0 (fun _ => true) true 29 (.slice p len cap) d ps) :
    Calls Try.prog 4 #[.slice p len cap] w fun e w' => e = .returned (.bool true) ∧ Below w.heap.size w w' := by
  obtain ⟨f, g⟩ := h
  obtain ⟨hlen, o, tick, later, hA⟩ := acts_come (show DataW.trod enc Try.prog w 0 (fun _ => true) true f 29 [.slice p len cap] = some (d, ps) from g)
  by_cases c : 150 < len
  · exact bound_out p len cap w hlen c
  · exact bound_yes p len cap o tick later w hA (by omega)
end Go.Proofs.Ytkhbchgocilclaa
