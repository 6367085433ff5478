/- The walk of TcbsReset: each of its paths. No condition. -/
import Derived.Test.YtbkijlffaigpiaaTcbsResetP
namespace Go.Proofs.Ytbkijlffaigpiaa
open Go.RowKit Go.Proofs.YtbkijlffaigpiaaZev
set_option linter.unusedVariables false
def leavesTcbsReset0 : List Lf := [.int .u16, .int .u16, .int .u32, .int .u32, .int .u8, .int .u16, .int .u16, .slice]
theorem tcbsReset_walk {cs0 : List Value} (hc0 : CellsAre leavesTcbsReset0 cs0) (w : World) : Calls Try.prog 3 #[.agg cs0.toArray] w fun e w' => e = .returned (.bool true) ∧ Below w.heap.size w w' := by
  unfold leavesTcbsReset0 at hc0
  obtain ⟨y0, r0, rfl, h0, hc0⟩ := hc0
  obtain ⟨x0, rfl, w0⟩ := h0
  obtain ⟨y1, r1, rfl, h1, hc0⟩ := hc0
  obtain ⟨x1, rfl, w1⟩ := h1
  obtain ⟨y2, r2, rfl, h2, hc0⟩ := hc0
  obtain ⟨x2, rfl, w2⟩ := h2
  obtain ⟨y3, r3, rfl, h3, hc0⟩ := hc0
  obtain ⟨x3, rfl, w3⟩ := h3
  obtain ⟨y4, r4, rfl, h4, hc0⟩ := hc0
  obtain ⟨x4, rfl, w4⟩ := h4
  obtain ⟨y5, r5, rfl, h5, hc0⟩ := hc0
  obtain ⟨x5, rfl, w5⟩ := h5
  obtain ⟨y6, r6, rfl, h6, hc0⟩ := hc0
  obtain ⟨x6, rfl, w6⟩ := h6
  obtain ⟨y7, r7, rfl, h7, hc0⟩ := hc0
  obtain ⟨o7, n7, c7, rfl, _⟩ := slice_is h7
  obtain rfl := hc0
  have hlo : 0 ≤ x4 ∧ x4 < 256 := by have h1 : IntKind.u8.min = 0 := rfl; have h2 : IntKind.u8.max = 255 := rfl; obtain ⟨a, b⟩ := w4; rw [h1] at a; rw [h2] at b; exact ⟨a, by omega⟩
  by_cases g : (n7 : Int) > 5000
  · exact pathTcbsReset0 x0 x1 x2 x3 x4 x5 x6 o7 n7 c7 rfl (decide_eq_true g) w
  · have gf := decide_eq_false g
    have hcov := cover ⟨x4.toNat, by omega⟩
    have e4 : ((x4.toNat : Nat) : Int) = x4 := Int.toNat_of_nonneg hlo.1
    simp only [Bool.or_eq_true, e4] at hcov
    rcases hcov with ((((h | h) | h) | h) | h) | h
    · exact pathTcbsReset1 x0 x1 x2 x3 x4 x5 x6 o7 n7 c7 h gf w
    · exact pathTcbsReset2 x0 x1 x2 x3 x4 x5 x6 o7 n7 c7 h gf w
    · exact pathTcbsReset3 x0 x1 x2 x3 x4 x5 x6 o7 n7 c7 h gf w
    · exact pathTcbsReset4 x0 x1 x2 x3 x4 x5 x6 o7 n7 c7 h gf w
    · exact pathTcbsReset5 x0 x1 x2 x3 x4 x5 x6 o7 n7 c7 h gf w
    · exact pathTcbsReset6 x0 x1 x2 x3 x4 x5 x6 o7 n7 c7 h gf w
end Go.Proofs.Ytbkijlffaigpiaa
