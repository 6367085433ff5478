/- The digits of a group, the decimals of a byte. No condition. -/
import Derived.Test.YtepoaapadalnoaaDoorFormsP
import Derived.Test.YtepoaapadalnoaaDoorLives
namespace Go.Proofs.YtepoaapadalnoaaDoor
open Go.RowKit
set_option linter.unusedVariables false
set_option linter.unusedSimpArgs false
theorem mk_cat (x y : List UInt8) : (⟨x.toArray⟩ : ByteArray) ++ ⟨y.toArray⟩ = ⟨(x ++ y).toArray⟩ := by
  apply ByteArray.ext
  simp
theorem dec_ext : ∀ d : Fin 10, ({ data := #[48, 49, 50, 51, 52, 53, 54, 55, 56, 57] } : ByteArray).extract d.1 (d.1 + 1) = ⟨[UInt8.ofNat (48 + d.1)].toArray⟩ := by decide +kernel
theorem dec_at {d : Nat} (h : d < 10) : ({ data := #[48, 49, 50, 51, 52, 53, 54, 55, 56, 57] } : ByteArray).extract d (d + 1) = ⟨[UInt8.ofNat (48 + d)].toArray⟩ := dec_ext ⟨d, h⟩
set_option maxRecDepth 100000 in
set_option maxHeartbeats 1000000 in
theorem decimal15 (n : Nat) (w : World) (hn : n < 256) : Calls Tryd.prog 15 #[.int .u8 (n : Int)] w fun e w' => e = .returned (.string ⟨(decC n).toArray⟩) ∧ w = w' := by
  by_cases h1 : n < 10
  · have e1 : ¬ ((10 : Int) ≤ n) := by omega
    have e2 : ¬ ((100 : Int) ≤ n) := by omega
    have e3 : n % 10 = n := by omega
    go_enter Tryd.func15, Tryd.ntmps15
    go_wp2_with fail
    go_ret
    exact ⟨congrArg (fun s => Ending.returned (.string s)) (by rw [dec_at h1, decC, if_pos h1]), rfl⟩
  · by_cases h2 : n < 100
    · have e1 : (10 : Int) ≤ n := by omega
      have e2 : ¬ ((100 : Int) ≤ n) := by omega
      go_enter Tryd.func15, Tryd.ntmps15
      go_wp2_with fail
      go_ret
      exact ⟨congrArg (fun s => Ending.returned (.string s)) (by rw [dec_at (by omega), dec_at (by omega), mk_cat, decC, if_neg h1, if_pos h2]; rfl), rfl⟩
    · have e1 : (10 : Int) ≤ n := by omega
      have e2 : (100 : Int) ≤ n := by omega
      go_enter Tryd.func15, Tryd.ntmps15
      go_wp2_with fail
      go_ret
      exact ⟨congrArg (fun s => Ending.returned (.string s)) (by rw [dec_at (by omega), dec_at (by omega), dec_at (by omega), mk_cat, mk_cat, decC, if_neg h1, if_neg h2]; rfl), rfl⟩
theorem and15f (m : Nat) (hm : m < 65536) : bits .and .u16 (m : Int) 15 = ((m % 16 : Nat) : Int) := by
  rw [show (15 : Int) = ((15 : Nat) : Int) from rfl, (bits_nat .u16 16 (by decide) (fun n h0 h1 => by simp [IntKind.wrap, IntKind.signed, IntKind.bits]; omega) m 15 (by omega) (by omega)).1]
  rw [show (15 : Nat) = 2 ^ 4 - 1 from rfl, Nat.and_two_pow_sub_one_eq_mod]
theorem small_ext : ∀ d : Fin 16, ({ data := #[48, 49, 50, 51, 52, 53, 54, 55, 56, 57, 97, 98, 99, 100, 101, 102] } : ByteArray).extract d.1 (d.1 + 1) = ⟨[digC false d.1].toArray⟩ := by decide +kernel
theorem big_ext : ∀ d : Fin 16, ({ data := #[48, 49, 50, 51, 52, 53, 54, 55, 56, 57, 65, 66, 67, 68, 69, 70] } : ByteArray).extract d.1 (d.1 + 1) = ⟨[digC true d.1].toArray⟩ := by decide +kernel
theorem small_at {d : Nat} (h : d < 16) : ({ data := #[48, 49, 50, 51, 52, 53, 54, 55, 56, 57, 97, 98, 99, 100, 101, 102] } : ByteArray).extract d (d + 1) = ⟨[digC false d].toArray⟩ := small_ext ⟨d, h⟩
theorem big_at {d : Nat} (h : d < 16) : ({ data := #[48, 49, 50, 51, 52, 53, 54, 55, 56, 57, 65, 66, 67, 68, 69, 70] } : ByteArray).extract d (d + 1) = ⟨[digC true d].toArray⟩ := big_ext ⟨d, h⟩
/-- one digit's numbers, as the walk writes them -/
theorem dig_num {n k d : Nat} (hk : 0 < k) (hn : n < 65536) (hd : n / k % 16 = d) : bits .and .u16 ((n : Int) / (k : Int)) 15 = (d : Int) ∧ IntKind.u16.wrap ((d : Int) + 1) = ((d + 1 : Nat) : Int) ∧ d < 16 := by
  have h1 := and15f (n / k) (Nat.lt_of_le_of_lt (Nat.div_le_self n k) hn)
  refine ⟨by rw [← hd, ← h1]; congr 1, ?_, by omega⟩
  have : d < 16 := by omega
  simp [IntKind.wrap, IntKind.signed, IntKind.bits]; omega
set_option maxRecDepth 100000 in
set_option maxHeartbeats 1000000 in
theorem digits14_false (n : Nat) (w : World) (hn : n < 65536) : Calls Tryd.prog 14 #[.int .u16 (n : Int), .bool false] w fun e w' => e = .returned (.string ⟨(fourC false n).toArray⟩) ∧ w = w' := by
  go_enter Tryd.func14, Tryd.ntmps14
  go_wp2_with fail
  go_loop [6, 7] (fun s i => ∃ j : Nat, j ≤ 4 ∧ i = .int .i64 (12 - 4 * (j : Int)) ∧ s = .string ⟨((fourC false n).take j).toArray⟩) (fun _ i => (intOf i + 4).toNat)
  case atStart => exact ⟨0, by omega, rfl, rfl⟩
  case round =>
    obtain ⟨j, hj, rfl, rfl⟩ := hrel
    rcases (show j = 0 ∨ j = 1 ∨ j = 2 ∨ j = 3 ∨ j = 4 by omega) with rfl | rfl | rfl | rfl | rfl
    · obtain ⟨d, hd⟩ : ∃ d, n / 4096 % 16 = d := ⟨_, rfl⟩
      obtain ⟨he, hw, hl⟩ := dig_num (n := n) (k := 4096) (by decide) hn hd
      replace he : bits .and .u16 ((n : Int) / 4096) 15 = (d : Int) := he
      have HD := Lib.hid hd
      clear hd
      go_wp2_with fail
      exact ⟨⟨1, by omega, by go_num, congrArg Value.string (by rw [small_at hl, ← HD.out]; first | rfl | (rw [mk_cat]; simp [fourC]) | (apply ByteArray.ext; simp [fourC]))⟩, by simp [intOf]⟩
    · obtain ⟨d, hd⟩ : ∃ d, n / 256 % 16 = d := ⟨_, rfl⟩
      obtain ⟨he, hw, hl⟩ := dig_num (n := n) (k := 256) (by decide) hn hd
      replace he : bits .and .u16 ((n : Int) / 256) 15 = (d : Int) := he
      have HD := Lib.hid hd
      clear hd
      go_wp2_with fail
      exact ⟨⟨2, by omega, by go_num, congrArg Value.string (by rw [small_at hl, ← HD.out]; first | rfl | (rw [mk_cat]; simp [fourC]) | (apply ByteArray.ext; simp [fourC]))⟩, by simp [intOf]⟩
    · obtain ⟨d, hd⟩ : ∃ d, n / 16 % 16 = d := ⟨_, rfl⟩
      obtain ⟨he, hw, hl⟩ := dig_num (n := n) (k := 16) (by decide) hn hd
      replace he : bits .and .u16 ((n : Int) / 16) 15 = (d : Int) := he
      have HD := Lib.hid hd
      clear hd
      go_wp2_with fail
      exact ⟨⟨3, by omega, by go_num, congrArg Value.string (by rw [small_at hl, ← HD.out]; first | rfl | (rw [mk_cat]; simp [fourC]) | (apply ByteArray.ext; simp [fourC]))⟩, by simp [intOf]⟩
    · obtain ⟨d, hd⟩ : ∃ d, n / 1 % 16 = d := ⟨_, rfl⟩
      obtain ⟨he, hw, hl⟩ := dig_num (n := n) (k := 1) (by decide) hn hd
      simp only [Int.natCast_one, Int.ediv_one] at he
      have HD := Lib.hid hd
      clear hd
      go_wp2_with fail
      exact ⟨⟨4, by omega, by go_num, congrArg Value.string (by rw [small_at hl, ← HD.out]; first | rfl | (rw [mk_cat]; simp [fourC]) | (apply ByteArray.ext; simp [fourC]))⟩, by simp [intOf]⟩
    · go_wp2_with fail
      go_ret
      exact ⟨rfl, rfl⟩
set_option maxRecDepth 100000 in
set_option maxHeartbeats 1000000 in
theorem digits14_true (n : Nat) (w : World) (hn : n < 65536) : Calls Tryd.prog 14 #[.int .u16 (n : Int), .bool true] w fun e w' => e = .returned (.string ⟨(fourC true n).toArray⟩) ∧ w = w' := by
  go_enter Tryd.func14, Tryd.ntmps14
  go_wp2_with fail
  go_loop [6, 7] (fun s i => ∃ j : Nat, j ≤ 4 ∧ i = .int .i64 (12 - 4 * (j : Int)) ∧ s = .string ⟨((fourC true n).take j).toArray⟩) (fun _ i => (intOf i + 4).toNat)
  case atStart => exact ⟨0, by omega, rfl, rfl⟩
  case round =>
    obtain ⟨j, hj, rfl, rfl⟩ := hrel
    rcases (show j = 0 ∨ j = 1 ∨ j = 2 ∨ j = 3 ∨ j = 4 by omega) with rfl | rfl | rfl | rfl | rfl
    · obtain ⟨d, hd⟩ : ∃ d, n / 4096 % 16 = d := ⟨_, rfl⟩
      obtain ⟨he, hw, hl⟩ := dig_num (n := n) (k := 4096) (by decide) hn hd
      replace he : bits .and .u16 ((n : Int) / 4096) 15 = (d : Int) := he
      have HD := Lib.hid hd
      clear hd
      go_wp2_with fail
      exact ⟨⟨1, by omega, by go_num, congrArg Value.string (by rw [big_at hl, ← HD.out]; first | rfl | (rw [mk_cat]; simp [fourC]) | (apply ByteArray.ext; simp [fourC]))⟩, by simp [intOf]⟩
    · obtain ⟨d, hd⟩ : ∃ d, n / 256 % 16 = d := ⟨_, rfl⟩
      obtain ⟨he, hw, hl⟩ := dig_num (n := n) (k := 256) (by decide) hn hd
      replace he : bits .and .u16 ((n : Int) / 256) 15 = (d : Int) := he
      have HD := Lib.hid hd
      clear hd
      go_wp2_with fail
      exact ⟨⟨2, by omega, by go_num, congrArg Value.string (by rw [big_at hl, ← HD.out]; first | rfl | (rw [mk_cat]; simp [fourC]) | (apply ByteArray.ext; simp [fourC]))⟩, by simp [intOf]⟩
    · obtain ⟨d, hd⟩ : ∃ d, n / 16 % 16 = d := ⟨_, rfl⟩
      obtain ⟨he, hw, hl⟩ := dig_num (n := n) (k := 16) (by decide) hn hd
      replace he : bits .and .u16 ((n : Int) / 16) 15 = (d : Int) := he
      have HD := Lib.hid hd
      clear hd
      go_wp2_with fail
      exact ⟨⟨3, by omega, by go_num, congrArg Value.string (by rw [big_at hl, ← HD.out]; first | rfl | (rw [mk_cat]; simp [fourC]) | (apply ByteArray.ext; simp [fourC]))⟩, by simp [intOf]⟩
    · obtain ⟨d, hd⟩ : ∃ d, n / 1 % 16 = d := ⟨_, rfl⟩
      obtain ⟨he, hw, hl⟩ := dig_num (n := n) (k := 1) (by decide) hn hd
      simp only [Int.natCast_one, Int.ediv_one] at he
      have HD := Lib.hid hd
      clear hd
      go_wp2_with fail
      exact ⟨⟨4, by omega, by go_num, congrArg Value.string (by rw [big_at hl, ← HD.out]; first | rfl | (rw [mk_cat]; simp [fourC]) | (apply ByteArray.ext; simp [fourC]))⟩, by simp [intOf]⟩
    · go_wp2_with fail
      go_ret
      exact ⟨rfl, rfl⟩
theorem digits14 (n : Nat) (b : Bool) (w : World) (hn : n < 65536) : Calls Tryd.prog 14 #[.int .u16 (n : Int), .bool b] w fun e w' => e = .returned (.string ⟨(fourC b n).toArray⟩) ∧ w = w' := by
  cases b
  · exact digits14_false n w hn
  · exact digits14_true n w hn
end Go.Proofs.YtepoaapadalnoaaDoor
