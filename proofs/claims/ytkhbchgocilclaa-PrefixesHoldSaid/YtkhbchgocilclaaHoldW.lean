/- PrefixesHold's walk, for every input. No condition but that the input fits. -/
import Derived.Test.YtkhbchgocilclaaHoldYes
import Derived.Test.YtkhbchgocilclaaCome
namespace Go.Proofs.Ytkhbchgocilclaa
open Go.RowKit
theorem hold_walk {H : Type} {enc : TypeId × Value → H} {w : World} {v0 v2 : Value} {p : Option Addr} {len cap : Nat} {d0 d1 d2 : DataW H} {p0 p1 p2 : List MemPlace}
    (h0 : DataW.Trod enc Try.prog w 0 (fun _ => true) true 28 v0 d0 p0) (h1 : DataW.Trod enc Try.prog w 0 (fun _ => true) true 29 (.slice p len cap) d1 p1) (h2 : DataW.Trod enc Try.prog w 0 (fun _ => true) true 23 v2 d2 p2) :
    Calls Try.prog 3 #[v0, .slice p len cap, v2] w fun e w' => e = .returned (.bool true) ∧ Below w.heap.size w w' := by
  obtain ⟨f0, g0⟩ := h0
  obtain ⟨f1, g1⟩ := h1
  obtain ⟨f2, g2⟩ := h2
  obtain ⟨i, e0, ok⟩ := info_come g0
  obtain ⟨a, e2, ha⟩ := addr_come g2
  obtain ⟨hlen, o, tick, later, hA⟩ := acts_come (show DataW.trod enc Try.prog w 0 (fun _ => true) true f1 29 [.slice p len cap] = some (d1, p1) from g1)
  have r0 := agg_of e0 (by rw [Info.L_length]; decide)
  have r2 := agg_of e2 (by rw [adrL_length]; decide)
  rw [r0, r2]
  show Calls Try.prog 3 #[.agg i.cells, .slice p len cap, .agg (adrCells a)] w _
  by_cases c1 : 100 < len
  · exact hold_out i p len cap a w hlen (.inl c1)
  · by_cases c2 : i.v = 0
    · exact hold_out i p len cap a w hlen (.inr (.inl c2))
    · by_cases c3 : 128 < i.n
      · exact hold_out i p len cap a w hlen (.inr (.inr c3))
      · cases hl : linkB i.a with
        | true => exact hold_no i p len cap a w ok (by omega) c2 (by omega) (.inl hl)
        | false =>
          cases hm : manyB i.a with
          | true => exact hold_no i p len cap a w ok (by omega) c2 (by omega) (.inr hm)
          | false => exact hold_yes i p len cap o a w hA.at ok (by omega) c2 (by omega) ha hl hm
end Go.Proofs.Ytkhbchgocilclaa
