/- PrefixesPlay's walk, for every input. No condition but that the input fits. -/
import Derived.Test.YtkhbchgocilclaaPlayY
namespace Go.Proofs.Ytkhbchgocilclaa
open Go.RowKit
theorem u64b : ∀ z, (Lit.int .u64 z).wf = true → 0 ≤ z ∧ z < (18446744073709551616 : Nat) := fun z h => by have := bounds_u64 h; omega
theorem play_walk {H : Type} {enc : TypeId × Value → H} {w : World} {z : Int} {p q : Option Addr} {len cap alen acap : Nat} {d0 d1 d2 : DataW H} {p0 p1 p2 : List MemPlace}
    (h0 : DataW.Trod enc Try.prog w 0 (fun _ => true) true 29 (.slice p len cap) d0 p0) (h1 : DataW.Trod enc Try.prog w 0 (fun _ => true) true 34 (.int .u64 z) d1 p1) (h2 : DataW.Trod enc Try.prog w 0 (fun _ => true) true 47 (.slice q alen acap) d2 p2) :
    Calls Try.prog 5 #[.slice p len cap, .int .u64 z, .slice q alen acap] w fun e w' => e = .returned (.bool true) ∧ Below w.heap.size w w' := by
  obtain ⟨f0, g0⟩ := h0
  obtain ⟨f1, g1⟩ := h1
  obtain ⟨f2, g2⟩ := h2
  obtain ⟨hlen, o, tick, later, hA⟩ := acts_come (show DataW.trod enc Try.prog w 0 (fun _ => true) true f0 29 [.slice p len cap] = some (d0, p0) from g0)
  obtain ⟨halen, f, hK⟩ := asks_come (show DataW.trod enc Try.prog w 0 (fun _ => true) true f2 47 [.slice q alen acap] = some (d2, p2) from g2)
  obtain ⟨n, e1, hn⟩ := int_come (M := 18446744073709551616) Try.underlying34 u64b g1
  have r1 : z = (n : Int) := by simpa [Value.cells] using e1
  rw [r1]
  by_cases c1 : 150 < len
  · exact play_out p q len cap alen acap n w hlen halen (.inl c1)
  · by_cases c2 : 50 < alen
    · exact play_out p q len cap alen acap n w hlen halen (.inr c2)
    · exact play_yes p q len cap alen acap n o tick later f w hA hK (by omega) (by omega) hn
end Go.Proofs.Ytkhbchgocilclaa
