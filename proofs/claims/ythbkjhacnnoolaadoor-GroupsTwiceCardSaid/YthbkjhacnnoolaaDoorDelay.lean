/- A delay off its code: bounds. Plain numbers alone. -/
import Derived.Test.YthbkjhacnnoolaaDoorZevN
namespace Go.Proofs.YthbkjhacnnoolaaDoor.delay
theorem delay_cases {x : Nat} (hx : 32768 ≤ x) (hb : x < 65536) : ∃ k r, k < 8 ∧ r < 4096 ∧ x = 32768 + 4096 * k + r ∧ (x % 4096 + 4096) * 2 ^ (x / 4096 % 8 + 3) = (r + 4096) * 2 ^ (k + 3) := by
  refine ⟨x / 4096 % 8, x % 4096, by omega, by omega, by omega, rfl⟩
theorem pow_le {r k : Nat} (hk : k < 8) (hr : r < 4096) : (r + 4096) * 2 ^ (k + 3) ≤ 8387584 ∧ 32768 ≤ (r + 4096) * 2 ^ (k + 3) := by
  have h1 : 2 ^ (k + 3) ≤ 2 ^ 10 := Nat.pow_le_pow_right (by decide) (by omega)
  have h2 : 2 ^ 3 ≤ 2 ^ (k + 3) := Nat.pow_le_pow_right (by decide) (by omega)
  exact ⟨Nat.le_trans (Nat.mul_le_mul (Nat.le_of_lt_succ (by omega : r + 4096 < 8192)) h1) (by decide), Nat.le_trans (by decide) (Nat.mul_le_mul (by omega : 4096 ≤ r + 4096) h2)⟩
theorem pow_mono {r s k j : Nat} (hr : r < 4096) (h : k < j ∨ k = j ∧ r ≤ s) : (r + 4096) * 2 ^ (k + 3) ≤ (s + 4096) * 2 ^ (j + 3) := by
  rcases h with h | ⟨rfl, h⟩
  · have h1 : 2 ^ (k + 1 + 3) ≤ 2 ^ (j + 3) := Nat.pow_le_pow_right (by decide) (by omega)
    have h2 : 2 ^ (k + 1 + 3) = 2 ^ (k + 3) * 2 := Nat.pow_succ 2 (k + 3)
    calc (r + 4096) * 2 ^ (k + 3) ≤ 8192 * 2 ^ (k + 3) := Nat.mul_le_mul_right _ (by omega)
      _ = 4096 * (2 ^ (k + 3) * 2) := by rw [Nat.mul_comm (2 ^ (k + 3)) 2, ← Nat.mul_assoc]
      _ = 4096 * 2 ^ (k + 1 + 3) := by rw [h2]
      _ ≤ (s + 4096) * 2 ^ (j + 3) := Nat.mul_le_mul (by omega) h1
  · exact Nat.mul_le_mul_right _ (by omega)
theorem delay_le {x : Nat} (hx : 32768 ≤ x) (hb : x < 65536) : (x % 4096 + 4096) * 2 ^ (x / 4096 % 8 + 3) ≤ 8387584 := by
  obtain ⟨k, r, hk, hr, _, e⟩ := delay_cases hx hb
  rw [e]; exact (pow_le hk hr).1
theorem delay_ge {x : Nat} (hx : 32768 ≤ x) (hb : x < 65536) : 32768 ≤ (x % 4096 + 4096) * 2 ^ (x / 4096 % 8 + 3) := by
  obtain ⟨k, r, hk, hr, _, e⟩ := delay_cases hx hb
  rw [e]; exact (pow_le hk hr).2
theorem delay_mono {a b : Nat} (ha : 32768 ≤ a) (hab : a ≤ b) (hb : b < 65536) : (a % 4096 + 4096) * 2 ^ (a / 4096 % 8 + 3) ≤ (b % 4096 + 4096) * 2 ^ (b / 4096 % 8 + 3) := by
  obtain ⟨k, r, hk, hr, hae, e⟩ := delay_cases ha (Nat.lt_of_le_of_lt hab hb)
  obtain ⟨j, s, hj, hs, hbe, f⟩ := delay_cases (Nat.le_trans ha hab) hb
  rw [e, f]
  clear e f
  exact pow_mono hr (by omega)

end Go.Proofs.YthbkjhacnnoolaaDoor.delay
