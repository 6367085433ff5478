/- The walk of GroupsDelay: every input takes one of the four paths. No condition but the package variable's text. -/
import Derived.Test.YthbkjhacnnoolaaDoorGroupsDelayP
namespace Go.Proofs.YthbkjhacnnoolaaDoor.groupsDelay
open Go.RowKit Go.Proofs.YthbkjhacnnoolaaDoorZev
set_option linter.unusedVariables false

theorem delay_cases {x : Nat} (hx : 32768 ≤ x) (hb : x < 65536) : ∃ k r, k < 8 ∧ r < 4096 ∧ x = 32768 + 4096 * k + r ∧ (x % 4096 + 4096) * 2 ^ (x / 4096 % 8 + 3) = (r + 4096) * 2 ^ (k + 3) := by
  refine ⟨x / 4096 % 8, x % 4096, by omega, by omega, by omega, rfl⟩
theorem pow_le {r k : Nat} (hk : k < 8) (hr : r < 4096) : (r + 4096) * 2 ^ (k + 3) ≤ 8387584 ∧ 32768 ≤ (r + 4096) * 2 ^ (k + 3) := by
  have h1 : 2 ^ (k + 3) ≤ 2 ^ 10 := Nat.pow_le_pow_right (by decide) (by omega)
  have h2 : 2 ^ 3 ≤ 2 ^ (k + 3) := Nat.pow_le_pow_right (by decide) (by omega)
  exact ⟨Nat.le_trans (Nat.mul_le_mul (Nat.le_of_lt_succ (by omega : r + 4096 < 8192)) h1) (by decide), Nat.le_trans (by decide) (Nat.mul_le_mul (by omega : 4096 ≤ r + 4096) h2)⟩
theorem pow_mono {r s k j : Nat} (hr : r < 4096) (h : k < j ∨ k = j ∧ r ≤ s) : (r + 4096) * 2 ^ (k + 3) ≤ (s + 4096) * 2 ^ (j + 3) := by
  rcases h with h | ⟨rfl, h⟩
  · have h1 : 2 ^ (k + 1 + 3) ≤ 2 ^ (j + 3) := Nat.pow_le_pow_right (by decide) (by omega)
    have h2 : 2 ^ (k + 1 + 3) = 2 ^ (k + 3) * 2 := Nat.pow_succ 2 (k + 3)
    calc (r + 4096) * 2 ^ (k + 3) ≤ 8192 * 2 ^ (k + 3) := Nat.mul_le_mul_right _ (by omega)
      _ = 4096 * (2 ^ (k + 3) * 2) := by rw [Nat.mul_comm (2 ^ (k + 3)) 2, ← Nat.mul_assoc]
      _ = 4096 * 2 ^ (k + 1 + 3) := by rw [h2]
      _ ≤ (s + 4096) * 2 ^ (j + 3) := Nat.mul_le_mul (by omega) h1
  · exact Nat.mul_le_mul_right _ (by omega)
theorem delay_le {x : Nat} (hx : 32768 ≤ x) (hb : x < 65536) : (x % 4096 + 4096) * 2 ^ (x / 4096 % 8 + 3) ≤ 8387584 := by
  obtain ⟨k, r, hk, hr, _, e⟩ := delay_cases hx hb
  rw [e]; exact (pow_le hk hr).1
theorem delay_ge {x : Nat} (hx : 32768 ≤ x) (hb : x < 65536) : 32768 ≤ (x % 4096 + 4096) * 2 ^ (x / 4096 % 8 + 3) := by
  obtain ⟨k, r, hk, hr, _, e⟩ := delay_cases hx hb
  rw [e]; exact (pow_le hk hr).2
theorem delay_mono {a b : Nat} (ha : 32768 ≤ a) (hab : a ≤ b) (hb : b < 65536) : (a % 4096 + 4096) * 2 ^ (a / 4096 % 8 + 3) ≤ (b % 4096 + 4096) * 2 ^ (b / 4096 % 8 + 3) := by
  obtain ⟨k, r, hk, hr, hae, e⟩ := delay_cases ha (Nat.lt_of_le_of_lt hab hb)
  obtain ⟨j, s, hj, hs, hbe, f⟩ := delay_cases (Nat.le_trans ha hab) hb
  rw [e, f]
  clear e f
  exact pow_mono hr (by omega)

theorem groupsDelay_walk {v0 v1 : Value} (h0 : CellIs (.int .u16) v0) (h1 : CellIs (.int .u16) v1) (w : World) (hL : laidMetH Tryd.prog laidL w) : Calls Tryd.prog 4 #[v0, v1] w fun e w' => e = .returned (.bool true) ∧ Below w.heap.size w w' := by
  obtain ⟨n0, rfl, l0, g0⟩ := h0
  obtain ⟨n1, rfl, l1, g1⟩ := h1
  have l0 : 0 ≤ n0 := l0
  have g0 : n0 ≤ 65535 := g0
  have l1 : 0 ≤ n1 := l1
  have g1 : n1 ≤ 65535 := g1
  obtain ⟨x0, rfl⟩ := Int.eq_ofNat_of_zero_le l0
  obtain ⟨x1, rfl⟩ := Int.eq_ofNat_of_zero_le l1
  have b0 : x0 < 65536 := by omega
  have b1 : x1 < 65536 := by omega
  have bM : max x0 x1 < 65536 := by omega
  have bm : min x0 x1 < 65536 := by omega
  rcases Nat.lt_or_ge (max x0 x1) 32768 with hM | hM
  · exact path1 x0 x1 b0 b1 (by omega) hM (by omega) (by omega) (by omega) (by omega) rfl w hL
  have cM := delay_le hM bM
  have eM := delay_ge hM bM
  rcases Nat.lt_or_ge (min x0 x1) 32768 with hm | hm
  · rcases Nat.lt_or_ge x0 32768 with h | h
    · exact path0 x0 x1 b0 b1 hm (by omega) (Nat.lt_of_le_of_lt cM (by decide)) (Nat.le_trans (by omega) eM) h (by omega) (by omega) rfl w hL
    · have c0 := delay_le h b0
      exact path2 x0 x1 b0 b1 hm (by omega) (Nat.lt_of_le_of_lt cM (by decide)) (Nat.le_trans (by omega) eM) (by omega) (Nat.lt_of_le_of_lt c0 (by decide)) c0 h w hL
  · have h : 32768 ≤ x0 := by omega
    have c0 := delay_le h b0
    have cm := delay_le hm bm
    exact path3 x0 x1 b0 b1 (by omega) (Nat.lt_of_le_of_lt cm (by decide)) (by omega) (Nat.lt_of_le_of_lt cM (by decide)) (delay_mono hm (by omega) bM) (by omega) (Nat.lt_of_le_of_lt c0 (by decide)) c0 h w hL
end Go.Proofs.YthbkjhacnnoolaaDoor.groupsDelay
