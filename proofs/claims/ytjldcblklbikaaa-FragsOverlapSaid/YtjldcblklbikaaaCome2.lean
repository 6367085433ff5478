/- Two numbers of two bytes that come in. No condition. -/
import Derived.Test.YtjldcblklbikaaaCome
namespace Go.Proofs.Ytjldcblklbikaaa
open Go.Proofs.YtjldcblklbikaaaZev
set_option linter.unusedVariables false
def leaves64 : List Lf := [.int .u16, .int .u16]
theorem rowIs64 : isRow Try.prog 64 = true := by kernel_rfl
theorem rowOf64 : lfsOf Try.prog 64 = some leaves64 := by kernel_rfl
theorem rowN64 : Try.prog.cellsOf 64 = leaves64.length := by kernel_rfl
theorem two_cells {cs : List Value} (h : CellsAre leaves64 cs) : ∃ a b : Nat, cs = [.int .u16 (a : Int), .int .u16 (b : Int)] ∧ a < 65536 ∧ b < 65536 := by
  obtain ⟨_, _, rfl, ⟨z1, rfl, hz1⟩, _, _, rfl, ⟨z2, rfl, hz2⟩, rfl⟩ := h
  have b1 : 0 ≤ z1 ∧ z1 < 65536 := by simp [IntKind.has, IntKind.min, IntKind.max, IntKind.signed, IntKind.bits] at hz1; omega
  have b2 : 0 ≤ z2 ∧ z2 < 65536 := by simp [IntKind.has, IntKind.min, IntKind.max, IntKind.signed, IntKind.bits] at hz2; omega
  refine ⟨z1.toNat, z2.toNat, ?_, by omega, by omega⟩
  rw [Int.toNat_of_nonneg b1.1, Int.toNat_of_nonneg b2.1]
end Go.Proofs.Ytjldcblklbikaaa
