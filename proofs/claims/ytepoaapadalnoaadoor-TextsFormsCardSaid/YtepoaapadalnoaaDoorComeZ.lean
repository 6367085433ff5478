/- What comes in: three bytes. No condition. -/
import Derived.Test.YtepoaapadalnoaaDoorComeU
namespace Go.Proofs.YtepoaapadalnoaaDoor
open Go.ChangeShapes Go.WideShapes
theorem three_in {H : Type} {enc : TypeId × Value → H} {w : World} {held : Bool} {v : Value} {d : DataW H} {p : List MemPlace} (h : DataW.Trod enc Tryd.prog w 0 (fun _ => true) held 33 v d p) :
    ∃ z0 z1 z2 : Nat, v = .agg #[.int .u8 (z0 : Int), .int .u8 (z1 : Int), .int .u8 (z2 : Int)] ∧ z0 < 256 ∧ z1 < 256 ∧ z2 < 256 := by
  obtain ⟨fu, g⟩ := h
  obtain ⟨xs, m, _, _, hl, hx, hi⟩ := DataW.trod_array Tryd.underlying33 g
  have e1 : Tryd.prog.cellsOf 5 = 1 := by kernel_rfl
  have e2 : Tryd.prog.cellsOf 33 = 3 := by kernel_rfl
  rw [e2] at hl
  have each : ∀ i, i < 3 → ∃ n : Nat, n < 256 ∧ v.cells.toList[i]? = some (.int .u8 (n : Int)) := fun i hlt => by
    have := hi i hlt
    rw [e1, Nat.mul_one, List.getElem?_eq_getElem (by omega)] at this
    obtain ⟨n, h1, h2⟩ := int_come Tryd.underlying5 u8b this
    exact ⟨n, h2, one_at h1⟩
  obtain ⟨z0, h0, c0⟩ := each 0 (by decide)
  obtain ⟨z1, h1, c1⟩ := each 1 (by decide)
  obtain ⟨z2, h2, c2⟩ := each 2 (by decide)
  refine ⟨z0, z1, z2, ?_, h0, h1, h2⟩
  have e : v.cells.toList = [.int .u8 (z0 : Int), .int .u8 (z1 : Int), .int .u8 (z2 : Int)] := by
    apply List.ext_getElem?
    intro i
    match i with
    | 0 => exact c0
    | 1 => exact c1
    | 2 => exact c2
    | i + 3 => rw [List.getElem?_eq_none (by omega), List.getElem?_eq_none (by simp)]
  exact agg_of e (by simp)
end Go.Proofs.YtepoaapadalnoaaDoor
