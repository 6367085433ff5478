/- How the forms of a text grow, round by round: in plain words. -/
import Derived.Test.YtepoaapadalnoaaDoorFormsP
namespace Go.Proofs.YtepoaapadalnoaaDoor
set_option linter.unusedVariables false
set_option linter.unusedSimpArgs false
theorem join_snocC (L : List (List UInt8)) (p : List UInt8) : Lib.join (L ++ [p]) [58] = (if L = [] then [] else Lib.join L [58] ++ [58]) ++ p := by
  cases L with
  | nil => rw [List.nil_append, Lib.join_one, if_pos rfl, List.nil_append]
  | cons x r => rw [List.cons_append, Lib.join_cons, Lib.join_cons, if_neg (by simp)]; simp [Lib.joinTail]
section
variable {a : Nat → Nat} {big : Nat → Bool} {tail : Bool}
theorem pcsC_succ (f n : Nat) : pcsC a big tail f (n + 1) = pcsC a big tail f n ++ [pieceC a big tail (f + n)] := by
  unfold pcsC
  rw [List.range'_1_concat, List.map_append]; rfl
theorem pcsC_nil (f n : Nat) : pcsC a big tail f n = [] ↔ n = 0 := by unfold pcsC; simp
theorem allC_zero : allC a big tail 0 = [] := rfl
theorem allC_succ (k : Nat) : allC a big tail (k + 1) = (if k = 0 then [] else allC a big tail k ++ [58]) ++ pieceC a big tail k := by
  unfold allC
  rw [pcsC_succ, join_snocC, Nat.zero_add]
  by_cases h : k = 0
  · rw [if_pos ((pcsC_nil 0 k).2 h), if_pos h]
  · rw [if_neg (fun e => h ((pcsC_nil 0 k).1 e)), if_neg h]
theorem piece_len (ha : ∀ i, i < 16 → a i < 256) (i : Nat) : (pieceC a big tail i).length ≤ 15 := by
  unfold pieceC
  split
  · unfold tailC
    have h1 := (decC_get (ha 12 (by decide))).2.2.2.2
    have h2 := (decC_get (ha 13 (by decide))).2.2.2.2
    have h3 := (decC_get (ha 14 (by decide))).2.2.2.2
    have h4 := (decC_get (ha 15 (by decide))).2.2.2.2
    simp only [List.length_append, List.length_cons]; omega
  · simp [fourC]
theorem joinC_len (ha : ∀ i, i < 16 → a i < 256) (f : Nat) : ∀ n, (Lib.join (pcsC a big tail f n) [58]).length ≤ 16 * n
  | 0 => by rw [(pcsC_nil f 0).2 rfl, Lib.join_nil]; simp
  | n + 1 => by
    have h1 := joinC_len ha f n
    have h2 := piece_len (big := big) (tail := tail) ha (f + n)
    rw [pcsC_succ, join_snocC]
    split
    · rw [List.nil_append]; omega
    · simp only [List.length_append, List.length_cons, List.length_nil]; omega
theorem allC_len (ha : ∀ i, i < 16 → a i < 256) (k : Nat) : (allC a big tail k).length ≤ 16 * k := joinC_len ha 0 k
theorem cutC_len (ha : ∀ i, i < 16 → a i < 256) (f t : Nat) {k : Nat} (hk : k ≤ 8) : (cutC a big tail f t k).length ≤ 300 := by
  unfold cutC
  have h1 := joinC_len (big := big) (tail := tail) ha 0 (min f k)
  have h2 := joinC_len (big := big) (tail := tail) ha t (k - t)
  simp only [List.length_append]
  split <;> simp <;> omega
theorem cutC_zero (f t : Nat) : cutC a big tail f t 0 = [] := by
  unfold cutC
  rw [Nat.min_zero, if_neg (by omega), Nat.zero_sub]; rfl
theorem cutC_head {f t k : Nat} (h : k < f) (ht : f < t) : cutC a big tail f t (k + 1) = (if k = 0 then [] else cutC a big tail f t k ++ [58]) ++ pieceC a big tail k := by
  have e : ∀ j, j ≤ f → cutC a big tail f t j = allC a big tail j := fun j hj => by
    unfold cutC allC
    rw [Nat.min_eq_right hj, if_neg (by omega), show j - t = 0 by omega, (pcsC_nil t 0).2 rfl, Lib.join_nil]
    simp
  rw [e _ (by omega), e _ (by omega), allC_succ]
theorem cutC_colons {f t : Nat} (ht : f < t) : cutC a big tail f t (f + 1) = cutC a big tail f t f ++ [58, 58] := by
  unfold cutC
  rw [Nat.min_eq_left (by omega), Nat.min_self, if_pos (by omega), if_neg (by omega), show f + 1 - t = 0 by omega, show f - t = 0 by omega, (pcsC_nil t 0).2 rfl, Lib.join_nil]
  simp
theorem cutC_mid {f t k : Nat} (h : f < k) (ht : k < t) : cutC a big tail f t (k + 1) = cutC a big tail f t k := by
  unfold cutC
  rw [Nat.min_eq_left (by omega), Nat.min_eq_left (by omega), if_pos (by omega), if_pos (by omega), show k + 1 - t = 0 by omega, show k - t = 0 by omega]
theorem cutC_tail {f t k : Nat} (h : f < t) (ht : t ≤ k) : cutC a big tail f t (k + 1) = (if k = t then cutC a big tail f t k else cutC a big tail f t k ++ [58]) ++ pieceC a big tail k := by
  unfold cutC
  rw [Nat.min_eq_left (by omega), Nat.min_eq_left (by omega), if_pos (show f < k + 1 by omega), if_pos (show f < k by omega), show k + 1 - t = (k - t) + 1 by omega, pcsC_succ, join_snocC, show t + (k - t) = k by omega]
  by_cases hk : k = t
  · subst hk
    rw [if_pos ((pcsC_nil k _).2 (Nat.sub_self k)), if_pos rfl, Nat.sub_self, (pcsC_nil k 0).2 rfl, Lib.join_nil]
    simp
  · rw [if_neg (fun e => hk (by have := (pcsC_nil _ _).1 e; omega)), if_neg hk]
    simp
theorem zeroC_zero (f t : Nat) : zeroC a f t 0 = a := by
  funext i
  unfold zeroC
  rw [if_neg (by omega)]
theorem zeroC_in {f t k : Nat} (h : f ≤ k) (ht : k < t) : zeroC a f t (k + 1) = fun j => if j = 2 * k + 1 then 0 else if j = 2 * k then 0 else zeroC a f t k j := by
  funext i
  unfold zeroC
  by_cases h1 : i = 2 * k + 1
  · rw [if_pos (by omega), if_pos h1]
  · by_cases h2 : i = 2 * k
    · rw [if_pos (by omega), if_neg h1, if_pos h2]
    · rw [if_neg h1, if_neg h2]
      by_cases h3 : f ≤ i / 2 ∧ i / 2 < t ∧ i / 2 < k
      · rw [if_pos h3, if_pos (by omega)]
      · rw [if_neg h3, if_neg (by omega)]
theorem zeroC_out {f t k : Nat} (h : ¬ (f ≤ k ∧ k < t)) : zeroC a f t (k + 1) = zeroC a f t k := by
  funext i
  unfold zeroC
  by_cases h3 : f ≤ i / 2 ∧ i / 2 < t ∧ i / 2 < k
  · rw [if_pos h3, if_pos (by omega)]
  · rw [if_neg h3, if_neg (by omega)]
theorem zeroC_lt (ha : ∀ i, i < 16 → a i < 256) (f t k : Nat) : ∀ i, i < 16 → zeroC a f t k i < 256 := fun i hi => by
  unfold zeroC
  split
  · decide
  · exact ha i hi
end
end Go.Proofs.YtepoaapadalnoaaDoor
