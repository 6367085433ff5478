/- One bit of an address set to another's. Plain numbers. -/
import Derived.Test.YtkhbchgocilclaaHoldNo
namespace Go.Proofs.Ytkhbchgocilclaa
open Go.RowKit
set_option linter.unusedVariables false

theorem agree_zero {a p : Nat → Nat} (ha : ∀ j, j < 16 → a j < 256) (hp : ∀ j, j < 16 → p j < 256) : agree a p 0 := fun i hi => by
  rw [top_own_none (ha i hi) (Nat.zero_le _), top_own_none (hp i hi) (Nat.zero_le _)]
/-- the byte with bit j (from the front) of another -/
def bitOf (x p j : Nat) : Nat := x / 2 ^ (8 - j) * 2 ^ (8 - j) + x % 2 ^ (7 - j) + p / 2 ^ (7 - j) % 2 * 2 ^ (7 - j)
theorem bit1 : ∀ x : Fin 256, ∀ j : Fin 8, bits .andNot .u8 (x.val : Int) (2 ^ (7 - j.val) % 256) = (x.val / 2 ^ (8 - j.val) * 2 ^ (8 - j.val) + x.val % 2 ^ (7 - j.val) : Nat) := by decide +kernel
theorem bit2 : ∀ x : Fin 256, ∀ j : Fin 8, bits .and .u8 (x.val : Int) (2 ^ (7 - j.val) % 256) = (x.val / 2 ^ (7 - j.val) % 2 * 2 ^ (7 - j.val) : Nat) := by decide +kernel
theorem bit3 : ∀ c : Fin 256, ∀ j : Fin 8, ∀ t : Fin 2, c.val / 2 ^ (7 - j.val) % 2 = 0 → bits .or .u8 (c.val : Int) ((t.val * 2 ^ (7 - j.val) : Nat) : Int) = (c.val + t.val * 2 ^ (7 - j.val) : Nat) := by decide +kernel
theorem bitOf_facts {x p j : Nat} (hx : x < 256) (hp : p < 256) (hj : j < 8) :
    x / 2 ^ (8 - j) * 2 ^ (8 - j) + x % 2 ^ (7 - j) < 256 ∧ (x / 2 ^ (8 - j) * 2 ^ (8 - j) + x % 2 ^ (7 - j)) / 2 ^ (7 - j) % 2 = 0 ∧ bitOf x p j < 256 ∧ (x / 2 ^ (8 - j) = p / 2 ^ (8 - j) → bitOf x p j / 2 ^ (7 - j) = p / 2 ^ (7 - j)) := by
  unfold bitOf
  obtain rfl | rfl | rfl | rfl | rfl | rfl | rfl | rfl : j = 0 ∨ j = 1 ∨ j = 2 ∨ j = 3 ∨ j = 4 ∨ j = 5 ∨ j = 6 ∨ j = 7 := by omega
  all_goals simp only [Nat.reduceSub, Nat.reducePow]
  all_goals omega
theorem bitOf_bits {x p j : Nat} (hx : x < 256) (hp : p < 256) (hj : j < 8) :
    bits .or .u8 (bits .andNot .u8 (x : Int) (2 ^ (7 - j) % 256)) (bits .and .u8 (p : Int) (2 ^ (7 - j) % 256)) = (bitOf x p j : Int) := by
  have f := bitOf_facts hx hp hj
  rw [bit1 ⟨x, hx⟩ ⟨j, hj⟩, bit2 ⟨p, hp⟩ ⟨j, hj⟩]
  exact bit3 ⟨_, f.1⟩ ⟨j, hj⟩ ⟨p / 2 ^ (7 - j) % 2, Nat.mod_lt _ (by decide)⟩ f.2.1
theorem bitOf_top {x p j : Nat} (hx : x < 256) (hp : p < 256) (hj : j < 8) (h : top x j = top p j) : top (bitOf x p j) (j + 1) = top p (j + 1) := by
  rw [top_eq_iff] at h ⊢
  rw [show 8 - (j + 1) = 7 - j from by omega]
  exact (bitOf_facts hx hp hj).2.2.2 h
theorem agree_bit {x p : Nat → Nat} {k j : Nat} (hx : ∀ i, i < 16 → x i < 256) (hp : ∀ i, i < 16 → p i < 256) (hk : k < 16) (hj : j < 8) (h : agree x p (8 * k + j)) :
    agree (fun i => if i = k then bitOf (x k) (p k) j else x i) p (8 * k + j + 1) := by
  intro i hi
  have hh := h i hi
  by_cases e : i = k
  · subst e
    simp only [if_true]
    have e1 : own (8 * i + j) i = j := by unfold own; omega
    have e2 : own (8 * i + j + 1) i = j + 1 := by unfold own; omega
    rw [e1] at hh
    rw [e2]
    exact bitOf_top (hx i hi) (hp i hi) hj hh
  · simp only [if_neg e]
    have e1 : own (8 * k + j + 1) i = own (8 * k + j) i := by unfold own; omega
    rw [e1, hh]
theorem agree_bit_lt {x p : Nat → Nat} {k j : Nat} (hx : ∀ i, i < 16 → x i < 256) (hp : ∀ i, i < 16 → p i < 256) (hk : k < 16) (hj : j < 8) :
    ∀ i, i < 16 → (fun i => if i = k then bitOf (x k) (p k) j else x i) i < 256 := by
  intro i hi
  show (if i = k then _ else _) < 256
  split
  · exact (bitOf_facts (hx k hk) (hp k hk) hj).2.2.1
  · exact hx i hi
/-- an address that agrees with a prefix is in it, whatever stands behind the prefix -/
theorem within_of_agree {x p : Nat → Nat} {n : Nat} (hx : ∀ i, i < 16 → x i < 256) (hp : ∀ i, i < 16 → p i < 256) (hn : n ≤ 128) (h : agree x p n) : withinB x (masked p n) n = true := by
  unfold withinB
  rw [decide_eq_true_eq, Nat.min_eq_left hn, common_agree (b := masked p n) hx (fun i hi => top_lt (hp i hi) _) hn, agree_masked]
  exact h
theorem has_of_agree {x : Nat → Nat} {i : Info} {D : PD} (hx : ∀ j, j < 16 → x j < 256) (ok : i.Ok) (hn : i.n ≤ 128) (hD : LOk D) (hk : Maps.has D i.key = true) (h : agree x i.a i.n) : hasB x D = true := by
  unfold hasB
  rw [(hasMap_iff hD).2 ⟨i.key, hk, ?_⟩, Bool.or_true]
  unfold Info.key
  rw [litWithin_key (p := masked i.a i.n) (fun j hj => top_lt (ok.a j hj) _) ok.n]
  exact within_of_agree hx ok.a hn h
/-- what others' news does not touch stays -/
theorem learn_other {i o : Info} {now : Nat} {D : PD} (hk : Maps.has D i.key = true) (hne : o.key ≠ i.key) : Maps.has (learnD o now D) i.key = true := by
  unfold learnD
  split
  · split
    · rw [Maps.has_del_other (Ne.symm hne)]; exact hk
    · split
      · rw [Maps.has_put_other (Ne.symm hne)]; exact hk
      · exact hk
  · exact hk
theorem first_has {i : Info} (h : learnOk i (.map []) = true) (hv : i.v ≠ 0) : Maps.has (learnD i 0 (.map [])) i.key = true := by
  unfold learnOk at h
  have ht : tellB i = true := by cases e : tellB i <;> rw [e] at h <;> simp_all
  unfold learnD
  have e0 : Maps.has (.map [] : PD) i.key = false := rfl
  have e1 : Maps.size (.map [] : PD) = 0 := rfl
  rw [ht, e0, e1]
  simp only [if_true]
  have hv' : 0 < i.v := by omega
  simp [hv']
  exact Maps.has_put_same ⟨[], rfl⟩ (key_isKey _ _) _
end Go.Proofs.Ytkhbchgocilclaa
