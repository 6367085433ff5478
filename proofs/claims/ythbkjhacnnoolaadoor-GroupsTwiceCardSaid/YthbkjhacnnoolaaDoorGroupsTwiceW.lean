/- The walk of GroupsTwice: every input takes one of the four paths. No condition but the package variable's text. -/
import Derived.Test.YthbkjhacnnoolaaDoorGroupsTwiceP
import Derived.Test.YthbkjhacnnoolaaDoorDelay
namespace Go.Proofs.YthbkjhacnnoolaaDoor.groupsTwice
open Go.RowKit Go.Proofs.YthbkjhacnnoolaaDoorZev
open Go.Proofs.YthbkjhacnnoolaaDoor.delay (delay_le)
set_option linter.unusedVariables false

theorem mul_top {x D : Nat} (hx : x < 4294967296) : x * (D + 1) ≤ 4294967295 * (D + 1) := Nat.mul_le_mul_right _ (by omega)

theorem groupsTwice_walk {v0 v1 : Value} {cs : List Value} (h0 : CellIs (.int .u8) v0) (h1 : CellIs (.int .u16) v1) (h2 : CellsAre [.int .u32, .int .u32, .int .u32, .int .u32] cs) (w : World) (hL : laidMetH Tryd.prog laidL w) : Calls Tryd.prog 3 #[v0, v1, .agg cs.toArray] w fun e w' => e = .returned (.bool true) ∧ Below w.heap.size w w' := by
  obtain ⟨n0, rfl, l0, g0⟩ := h0
  obtain ⟨n1, rfl, l1, g1⟩ := h1
  obtain ⟨_, _, rfl, ⟨n2, rfl, l2, g2⟩, _, _, rfl, ⟨n3, rfl, l3, g3⟩, _, _, rfl, ⟨n4, rfl, l4, g4⟩, _, _, rfl, ⟨n5, rfl, l5, g5⟩, rfl⟩ := h2
  have l0 : 0 ≤ n0 := l0
  have g0 : n0 ≤ 255 := g0
  have l1 : 0 ≤ n1 := l1
  have g1 : n1 ≤ 65535 := g1
  have l2 : 0 ≤ n2 := l2
  have g2 : n2 ≤ 4294967295 := g2
  have l3 : 0 ≤ n3 := l3
  have g3 : n3 ≤ 4294967295 := g3
  have l4 : 0 ≤ n4 := l4
  have g4 : n4 ≤ 4294967295 := g4
  have l5 : 0 ≤ n5 := l5
  have g5 : n5 ≤ 4294967295 := g5
  obtain ⟨x0, rfl⟩ := Int.eq_ofNat_of_zero_le l0
  obtain ⟨x1, rfl⟩ := Int.eq_ofNat_of_zero_le l1
  obtain ⟨x2, rfl⟩ := Int.eq_ofNat_of_zero_le l2
  obtain ⟨x3, rfl⟩ := Int.eq_ofNat_of_zero_le l3
  obtain ⟨x4, rfl⟩ := Int.eq_ofNat_of_zero_le l4
  obtain ⟨x5, rfl⟩ := Int.eq_ofNat_of_zero_le l5
  have b0 : x0 < 256 := by omega
  have b1 : x1 < 65536 := by omega
  have b2 : x2 < 4294967296 := by omega
  have b3 : x3 < 4294967296 := by omega
  have b4 : x4 < 4294967296 := by omega
  have b5 : x5 < 4294967296 := by omega
  have P0 := path0 x0 x1 x2 x3 x4 x5 b0 b1 b2 b3 b4 b5
  have P1 := path1 x0 x1 x2 x3 x4 x5 b0 b1 b2 b3 b4 b5
  have P2 := path2 x0 x1 x2 x3 x4 x5 b0 b1 b2 b3 b4 b5
  have P3 := path3 x0 x1 x2 x3 x4 x5 b0 b1 b2 b3 b4 b5
  rcases Nat.lt_or_ge x1 32768 with h | h
  · clear P0 P1
    have m3 := mul_top (D := x1) b3
    have m4 := mul_top (D := x1) b4
    generalize x3 * (x1 + 1) = M3 at P2 P3 m3
    generalize x4 * (x1 + 1) = M4 at P2 P3 m4
    rcases Nat.lt_or_ge (x5 * 8387585 / 4294967296) (M4 / 4294967296) with h4 | h4
    · exact P3 (by omega) (by omega) (by omega) (by omega) (by omega) (by omega) (by omega) (by omega) (by omega) (by omega) (by omega) (by omega) (by omega) (by omega) (by omega) (by omega) (by omega) (by omega) (by omega) (by omega) (by omega) (by omega) (by omega) (by omega) (by omega) (by omega) (by omega) (by omega) (by omega) (by omega) (by omega) (by omega) w hL
    · exact P2 (by omega) (by omega) (by omega) (by omega) (by omega) (by omega) (by omega) (by omega) (by omega) (by omega) (by omega) (by omega) (by omega) (by omega) (by omega) (by omega) (by omega) (by omega) (by omega) (by omega) (by omega) (by omega) (by omega) (by omega) (by omega) (by omega) (by omega) (by omega) (by omega) (by omega) w hL
  · clear P2 P3
    have hD := delay_le h b1
    generalize (x1 % 4096 + 4096) * 2 ^ (x1 / 4096 % 8 + 3) = D at P0 P1 hD
    have m3 := mul_top (D := D) b3
    have m4 := mul_top (D := D) b4
    generalize x3 * (D + 1) = M3 at P0 P1 m3
    generalize x4 * (D + 1) = M4 at P0 P1 m4
    rcases Nat.lt_or_ge (x5 * 8387585 / 4294967296) (M4 / 4294967296) with h4 | h4
    · exact P1 (by omega) (by omega) (by omega) (by omega) (by omega) (by omega) (by omega) (by omega) (by omega) (by omega) (by omega) (by omega) (by omega) (by omega) (by omega) (by omega) (by omega) (by omega) (by omega) (by omega) (by omega) (by omega) (by omega) (by omega) (by omega) (by omega) (by omega) (by omega) (by omega) (by omega) (by omega) (by omega) (by omega) (by omega) (by omega) (by omega) (by omega) w hL
    · exact P0 (by omega) (by omega) (by omega) (by omega) (by omega) (by omega) (by omega) (by omega) (by omega) (by omega) (by omega) (by omega) (by omega) (by omega) (by omega) (by omega) (by omega) (by omega) (by omega) (by omega) (by omega) (by omega) (by omega) (by omega) (by omega) (by omega) (by omega) (by omega) (by omega) (by omega) (by omega) (by omega) (by omega) (by omega) (by omega) w hL
end Go.Proofs.YthbkjhacnnoolaaDoor.groupsTwice
