/- The walk of NeighborsSilent: every input takes one of the paths. No condition. -/
import Derived.Test.YtfmhjggpcapfoaaGreatNeighborsSilentP
import Derived.Test.YtfmhjggpcapfoaaGreatNeighborsSilentG
import Derived.Test.YtfmhjggpcapfoaaGreatNeighborsSilentE
import Derived.Test.YtfmhjggpcapfoaaGreatNeighborsSilentZ
import Derived.Test.YtfmhjggpcapfoaaGreatCome
namespace Go.Proofs.YtfmhjggpcapfoaaGreat.neighborsSilent
open Go.RowKit Go.ChangeShapes Go.WideShapes Go.Proofs.YtfmhjggpcapfoaaGreatZev
set_option linter.unusedVariables false
set_option maxRecDepth 20000
theorem c33 : Tryz.prog.cellsOf 33 = 1 := by kernel_rfl
theorem c5 : Tryz.prog.cellsOf 5 = 1 := by kernel_rfl
theorem walk {H : Type} {enc : TypeId × Value → H} {d : DataW H} {p : List MemPlace} {cs0 : List Value} (h0 : CellsAre [.int .u8, .int .u8, .int .u8, .int .u8, .int .u8, .int .u8, .int .u8, .int .u8, .int .u8, .int .u8, .int .u8, .int .u8, .int .u8, .int .u8, .int .u8, .int .u8] cs0) {v16 : Value} (q16 : CellIs .slice v16) {cs2 : List Value} (h2 : CellsAre [.int .u32, .int .u32] cs2) (w : World) (hT : DataW.Trod enc Tryz.prog w 0 (fun _ => true) true 33 (v16) d p) : Calls Tryz.prog 4 #[.agg cs0.toArray, v16, .agg cs2.toArray] w fun e w' => e = .returned (.bool true) ∧ Below w.heap.size w w' := by
  obtain ⟨_, _, rfl, ⟨n0, rfl, l0, u0⟩, ⟨_, _, rfl, ⟨n1, rfl, l1, u1⟩, ⟨_, _, rfl, ⟨n2, rfl, l2, u2⟩, ⟨_, _, rfl, ⟨n3, rfl, l3, u3⟩, ⟨_, _, rfl, ⟨n4, rfl, l4, u4⟩, ⟨_, _, rfl, ⟨n5, rfl, l5, u5⟩, ⟨_, _, rfl, ⟨n6, rfl, l6, u6⟩, ⟨_, _, rfl, ⟨n7, rfl, l7, u7⟩, ⟨_, _, rfl, ⟨n8, rfl, l8, u8⟩, ⟨_, _, rfl, ⟨n9, rfl, l9, u9⟩, ⟨_, _, rfl, ⟨n10, rfl, l10, u10⟩, ⟨_, _, rfl, ⟨n11, rfl, l11, u11⟩, ⟨_, _, rfl, ⟨n12, rfl, l12, u12⟩, ⟨_, _, rfl, ⟨n13, rfl, l13, u13⟩, ⟨_, _, rfl, ⟨n14, rfl, l14, u14⟩, ⟨_, _, rfl, ⟨n15, rfl, l15, u15⟩, rfl⟩⟩⟩⟩⟩⟩⟩⟩⟩⟩⟩⟩⟩⟩⟩⟩ := h0
  obtain ⟨_, _, rfl, ⟨n17, rfl, l17, u17⟩, ⟨_, _, rfl, ⟨n18, rfl, l18, u18⟩, rfl⟩⟩ := h2
  have hS : ∃ m y, DataW.trod enc Tryz.prog w 0 (fun _ => true) true m 33 [v16] = some y := by
    obtain ⟨fuel, hf⟩ := hT
    rcases q16 with rfl | ⟨a, n, c, rfl, _⟩ <;> exact ⟨fuel, _, hf⟩
  obtain ⟨x0, rfl⟩ := Int.eq_ofNat_of_zero_le (show 0 ≤ n0 from l0)
  have b0 : x0 < 256 := by have u0 : ((x0 : Nat) : Int) ≤ 255 := u0; omega
  clear l0 u0
  obtain ⟨x1, rfl⟩ := Int.eq_ofNat_of_zero_le (show 0 ≤ n1 from l1)
  have b1 : x1 < 256 := by have u1 : ((x1 : Nat) : Int) ≤ 255 := u1; omega
  clear l1 u1
  obtain ⟨x2, rfl⟩ := Int.eq_ofNat_of_zero_le (show 0 ≤ n2 from l2)
  have b2 : x2 < 256 := by have u2 : ((x2 : Nat) : Int) ≤ 255 := u2; omega
  clear l2 u2
  obtain ⟨x3, rfl⟩ := Int.eq_ofNat_of_zero_le (show 0 ≤ n3 from l3)
  have b3 : x3 < 256 := by have u3 : ((x3 : Nat) : Int) ≤ 255 := u3; omega
  clear l3 u3
  obtain ⟨x4, rfl⟩ := Int.eq_ofNat_of_zero_le (show 0 ≤ n4 from l4)
  have b4 : x4 < 256 := by have u4 : ((x4 : Nat) : Int) ≤ 255 := u4; omega
  clear l4 u4
  obtain ⟨x5, rfl⟩ := Int.eq_ofNat_of_zero_le (show 0 ≤ n5 from l5)
  have b5 : x5 < 256 := by have u5 : ((x5 : Nat) : Int) ≤ 255 := u5; omega
  clear l5 u5
  obtain ⟨x6, rfl⟩ := Int.eq_ofNat_of_zero_le (show 0 ≤ n6 from l6)
  have b6 : x6 < 256 := by have u6 : ((x6 : Nat) : Int) ≤ 255 := u6; omega
  clear l6 u6
  obtain ⟨x7, rfl⟩ := Int.eq_ofNat_of_zero_le (show 0 ≤ n7 from l7)
  have b7 : x7 < 256 := by have u7 : ((x7 : Nat) : Int) ≤ 255 := u7; omega
  clear l7 u7
  obtain ⟨x8, rfl⟩ := Int.eq_ofNat_of_zero_le (show 0 ≤ n8 from l8)
  have b8 : x8 < 256 := by have u8 : ((x8 : Nat) : Int) ≤ 255 := u8; omega
  clear l8 u8
  obtain ⟨x9, rfl⟩ := Int.eq_ofNat_of_zero_le (show 0 ≤ n9 from l9)
  have b9 : x9 < 256 := by have u9 : ((x9 : Nat) : Int) ≤ 255 := u9; omega
  clear l9 u9
  obtain ⟨x10, rfl⟩ := Int.eq_ofNat_of_zero_le (show 0 ≤ n10 from l10)
  have b10 : x10 < 256 := by have u10 : ((x10 : Nat) : Int) ≤ 255 := u10; omega
  clear l10 u10
  obtain ⟨x11, rfl⟩ := Int.eq_ofNat_of_zero_le (show 0 ≤ n11 from l11)
  have b11 : x11 < 256 := by have u11 : ((x11 : Nat) : Int) ≤ 255 := u11; omega
  clear l11 u11
  obtain ⟨x12, rfl⟩ := Int.eq_ofNat_of_zero_le (show 0 ≤ n12 from l12)
  have b12 : x12 < 256 := by have u12 : ((x12 : Nat) : Int) ≤ 255 := u12; omega
  clear l12 u12
  obtain ⟨x13, rfl⟩ := Int.eq_ofNat_of_zero_le (show 0 ≤ n13 from l13)
  have b13 : x13 < 256 := by have u13 : ((x13 : Nat) : Int) ≤ 255 := u13; omega
  clear l13 u13
  obtain ⟨x14, rfl⟩ := Int.eq_ofNat_of_zero_le (show 0 ≤ n14 from l14)
  have b14 : x14 < 256 := by have u14 : ((x14 : Nat) : Int) ≤ 255 := u14; omega
  clear l14 u14
  obtain ⟨x15, rfl⟩ := Int.eq_ofNat_of_zero_le (show 0 ≤ n15 from l15)
  have b15 : x15 < 256 := by have u15 : ((x15 : Nat) : Int) ≤ 255 := u15; omega
  clear l15 u15
  obtain ⟨x17, rfl⟩ := Int.eq_ofNat_of_zero_le (show 0 ≤ n17 from l17)
  have b17 : x17 < 4294967296 := by have u17 : ((x17 : Nat) : Int) ≤ 4294967295 := u17; omega
  clear l17 u17
  obtain ⟨x18, rfl⟩ := Int.eq_ofNat_of_zero_le (show 0 ≤ n18 from l18)
  have b18 : x18 < 4294967296 := by have u18 : ((x18 : Nat) : Int) ≤ 4294967295 := u18; omega
  clear l18 u18
  obtain ⟨m, y, hy⟩ := hS
  rcases bytes_come Tryz.underlying33 Tryz.underlying5 c5 hy with h | ⟨a, c, h⟩ | ⟨a, c, l, h, hl, hat, hb⟩
  · obtain rfl : v16 = _ := by simpa using h
    exact e.path0 x0 x1 x2 x3 x4 x5 x6 x7 x8 x9 x10 x11 x12 x13 x14 x15 x17 x18 b0 b1 b2 b3 b4 b5 b6 b7 b8 b9 b10 b11 b12 b13 b14 b15 b17 b18 (by omega) (by omega) (by omega) (by omega) (by omega) (by omega) (by omega) (by omega) (by omega) (by omega) (by omega) (by omega) (by omega) (by omega) (by omega) (by omega) (by omega) (by omega) (by omega) w
  · obtain rfl : v16 = _ := by simpa using h
    exact z.path0 x0 x1 x2 x3 x4 x5 x6 x7 x8 x9 x10 x11 x12 x13 x14 x15 a c x17 x18 b0 b1 b2 b3 b4 b5 b6 b7 b8 b9 b10 b11 b12 b13 b14 b15 b17 b18 (by omega) (by omega) (by omega) (by omega) (by omega) (by omega) (by omega) (by omega) (by omega) (by omega) (by omega) (by omega) (by omega) (by omega) (by omega) (by omega) (by omega) (by omega) (by omega) w
  · obtain rfl : v16 = _ := by simpa using h
    rcases Nat.lt_or_ge 200 l.length with h2 | h2
    · exact g.path0 x0 x1 x2 x3 x4 x5 x6 x7 x8 x9 x10 x11 x12 x13 x14 x15 w a c l hl hat x17 x18 b0 b1 b2 b3 b4 b5 b6 b7 b8 b9 b10 b11 b12 b13 b14 b15 b17 b18 (by omega)
    · exact r.path0 x0 x1 x2 x3 x4 x5 x6 x7 x8 x9 x10 x11 x12 x13 x14 x15 w a c l hl hat ⟨hb, h2⟩ x17 x18 b0 b1 b2 b3 b4 b5 b6 b7 b8 b9 b10 b11 b12 b13 b14 b15 b17 b18 (by omega) (by omega) (by omega) (by omega) (by omega) (by omega) (by omega) (by omega) (by omega) (by omega) (by omega) (by omega) (by omega) (by omega) (by omega) (by omega) (by omega) (by omega) (by omega) (by omega)
end Go.Proofs.YtfmhjggpcapfoaaGreat.neighborsSilent
