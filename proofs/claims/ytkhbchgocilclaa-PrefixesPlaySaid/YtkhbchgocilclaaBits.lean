/- Plain laws on bytes: the first so many bits of a byte, of an address of 16 bytes; what two addresses have in common. No condition. -/
import Derived.Laws.BitsAllLaws
import Derived.Laws.BitsLemmas
import Derived.Lib.Mul64
namespace Go.Proofs.Ytkhbchgocilclaa
set_option linter.unusedVariables false

/-- the first o bits of a byte -/
def top (b o : Nat) : Nat := b / 2 ^ (8 - o) * 2 ^ (8 - o)
/-- how many bits of byte i belong to the first n ones -/
def own (n i : Nat) : Nat := min 8 (n - 8 * i)
theorem own_le (n i : Nat) : own n i ≤ 8 := by unfold own; omega

theorem top_lt {b : Nat} (h : b < 256) (o : Nat) : top b o < 256 := Nat.lt_of_le_of_lt (Nat.div_mul_le_self _ _) h
theorem top_top (b o : Nat) : top (top b o) o = top b o := by
  unfold top
  rw [Nat.mul_div_cancel _ (Nat.two_pow_pos _)]
theorem top_eq_iff (a b o : Nat) : top a o = top b o ↔ a / 2 ^ (8 - o) = b / 2 ^ (8 - o) := by
  unfold top
  constructor
  · intro h
    exact Nat.eq_of_mul_eq_mul_right (Nat.two_pow_pos _) h
  · intro h; rw [h]

/-- the walk's own word for 'a[i] & ^byte(0xff >> own)' -/
theorem top_bits : ∀ b : Fin 256, ∀ o : Fin 9, bits .and .u8 (b.val : Int) (bits .xor .u8 (if IntKind.u8.signed = true then -1 else IntKind.u8.max) (255 / 2 ^ o.val)) = (top b.val o.val : Int) := by decide +kernel
theorem topI {b o : Nat} (hb : b < 256) (ho : o ≤ 8) : bits .and .u8 (b : Int) (bits .xor .u8 (if IntKind.u8.signed = true then -1 else IntKind.u8.max) (255 / 2 ^ o)) = (top b o : Int) := top_bits ⟨b, hb⟩ ⟨o, by omega⟩

theorem xor_lt_iff (a b k : Nat) : a ^^^ b < 2 ^ k ↔ a / 2 ^ k = b / 2 ^ k := by
  have h : (a ^^^ b) >>> k = (a >>> k) ^^^ (b >>> k) := Nat.shiftRight_xor_distrib
  simp only [Nat.shiftRight_eq_div_pow] at h
  constructor
  · intro hlt
    rw [Nat.div_eq_of_lt hlt] at h
    have e : (a / 2 ^ k) ^^^ ((a / 2 ^ k) ^^^ (b / 2 ^ k)) = b / 2 ^ k := by rw [← Nat.xor_assoc, Nat.xor_self, Nat.zero_xor]
    rw [← h, Nat.xor_zero] at e
    exact e
  · intro he
    rw [he, Nat.xor_self] at h
    rcases Nat.lt_or_ge (a ^^^ b) (2 ^ k) with h1 | h1
    · exact h1
    · have := Nat.div_pos h1 (Nat.two_pow_pos k); omega

/-- an address with its first n bits alone -/
def masked (a : Nat → Nat) (n : Nat) : Nat → Nat := fun i => top (a i) (own n i)
/-- do two have the first n bits in common? -/
def agree (a b : Nat → Nat) (n : Nat) : Prop := ∀ i, i < 16 → top (a i) (own n i) = top (b i) (own n i)

theorem top_own_full {b : Nat} (h : b < 256) {n i : Nat} (hi : 8 * i + 8 ≤ n) : top b (own n i) = b := by
  have e : own n i = 8 := by unfold own; omega
  rw [e]; unfold top; simp
theorem top_own_none {b : Nat} (h : b < 256) {n i : Nat} (hi : n ≤ 8 * i) : top b (own n i) = 0 := by
  have e : own n i = 0 := by unfold own; omega
  rw [e]; unfold top; simp; omega

/-- the first byte at which they part, and by how many bits: z = 8 less the bit length of the two bytes' difference -/
theorem agree_at {a b : Nat → Nat} {n k l : Nat} (ha : ∀ i, i < 16 → a i < 256) (hb : ∀ i, i < 16 → b i < 256) (hk : k < 16) (hsame : ∀ i, i < k → a i = b i)
    (hlo : 2 ^ l ≤ a k ^^^ b k) (hhi : a k ^^^ b k < 2 ^ (l + 1)) (hl : l < 8) : (n ≤ 8 * k + (7 - l)) ↔ agree a b n := by
  constructor
  · intro hn i hi
    rcases Nat.lt_trichotomy i k with h | h | h
    · rw [hsame i h]
    · subst h
      rw [top_eq_iff]
      have e : own n i ≤ 7 - l := by unfold own; omega
      have h1 : a i / 2 ^ (l + 1) = b i / 2 ^ (l + 1) := (xor_lt_iff _ _ _).mp hhi
      have h2 : 8 - own n i = (l + 1) + (7 - l - own n i) := by omega
      rw [h2, Nat.pow_add, ← Nat.div_div_eq_div_mul, ← Nat.div_div_eq_div_mul, h1]
    · rw [top_own_none (ha i hi) (by omega), top_own_none (hb i hi) (by omega)]
  · intro h
    rcases Nat.lt_or_ge (8 * k + (7 - l)) n with hlt | hge
    · exfalso
      have h1 := h k hk
      rw [top_eq_iff] at h1
      have h2 : l = (8 - own n k) + (l - (8 - own n k)) := by unfold own; omega
      have h3 : a k / 2 ^ l = b k / 2 ^ l := by rw [h2, Nat.pow_add, ← Nat.div_div_eq_div_mul, ← Nat.div_div_eq_div_mul, h1]
      have := (xor_lt_iff _ _ _).mpr h3
      omega
    · exact hge

theorem agree_all {a b : Nat → Nat} {n : Nat} (hsame : ∀ i, i < 16 → a i = b i) : agree a b n := fun i hi => by rw [hsame i hi]
theorem agree_iff_masked (a b : Nat → Nat) (n : Nat) : agree a b n ↔ ∀ i, i < 16 → masked a n i = masked b n i := Iff.rfl
theorem agree_min (a b : Nat → Nat) (n : Nat) : agree a b (min n 128) ↔ agree a b n := by
  have e : ∀ i, i < 16 → own (min n 128) i = own n i := fun i hi => by unfold own; omega
  constructor
  · intro h i hi; have := h i hi; rwa [e i hi] at this
  · intro h i hi; rw [e i hi]; exact h i hi
theorem agree_masked (a b : Nat → Nat) (n : Nat) : agree a (masked b n) n ↔ agree a b n := by
  unfold agree masked
  simp only [top_top]
theorem masked_masked (a : Nat → Nat) (n : Nat) : masked (masked a n) n = masked a n := by
  funext i; exact top_top _ _
end Go.Proofs.Ytkhbchgocilclaa
