/- An address whose groups are all written out: what its texts read as. In plain words. -/
import Derived.Test.YtepoaapadalnoaaDoorWrongP
namespace Go.Proofs.YtepoaapadalnoaaDoor
set_option linter.unusedVariables false
set_option linter.unusedSimpArgs false
/-- a digit, small or capital -/
def digC (big : Bool) (d : Nat) : UInt8 := if d < 10 then UInt8.ofNat (48 + d) else if big then UInt8.ofNat (55 + d) else UInt8.ofNat (87 + d)
theorem digCF : ∀ (b : Bool) (d : Fin 16), dig (digC b d.1) = some d.1 ∧ digC b d.1 ≠ 58 ∧ digC b d.1 ≠ 46 := by decide +kernel
theorem digC_dig (b : Bool) {d : Nat} (h : d < 16) : dig (digC b d) = some d := (digCF b ⟨d, h⟩).1
/-- four digits -/
def fourC (big : Bool) (n : Nat) : List UInt8 := [digC big (n / 4096 % 16), digC big (n / 256 % 16), digC big (n / 16 % 16), digC big (n % 16)]
theorem num_four (b : Bool) {n : Nat} (h : n < 65536) : num 16 4 (fourC b n) = some n := by
  unfold num fourC
  rw [if_neg (by simp)]
  simp only [numG]
  repeat rw [digC_dig b (by omega)]
  simp only []
  repeat rw [if_pos (by omega)]
  congr 1
  omega
theorem four_colon (b : Bool) (n : Nat) : (58 : UInt8) ∉ fourC b n := by
  unfold fourC
  intro h
  simp only [List.mem_cons, List.not_mem_nil, or_false] at h
  rcases h with h | h | h | h <;> exact (digCF b ⟨_, Nat.mod_lt _ (by decide)⟩).2.1 h.symm
/-- a decimal -/
def decC (n : Nat) : List UInt8 :=
  if n < 10 then [UInt8.ofNat (48 + n)] else if n < 100 then [UInt8.ofNat (48 + n / 10 % 10), UInt8.ofNat (48 + n % 10)]
  else [UInt8.ofNat (48 + n / 100), UInt8.ofNat (48 + n / 10 % 10), UInt8.ofNat (48 + n % 10)]
theorem decCF : ∀ n : Fin 256, decN (decC n.1) = some n.1 ∧ (58 : UInt8) ∉ decC n.1 ∧ (46 : UInt8) ∉ decC n.1 ∧ decC n.1 ≠ [] ∧ (decC n.1).length ≤ 3 := by decide +kernel
theorem decC_get {n : Nat} (h : n < 256) : decN (decC n) = some n ∧ (58 : UInt8) ∉ decC n ∧ (46 : UInt8) ∉ decC n ∧ decC n ≠ [] ∧ (decC n).length ≤ 3 := decCF ⟨n, h⟩
/-- four decimals -/
def tailC (a b c d : Nat) : List UInt8 := decC a ++ 46 :: (decC b ++ 46 :: (decC c ++ 46 :: decC d))
theorem tail_get {a b c d : Nat} (ha : a < 256) (hb : b < 256) (hc : c < 256) (hd : d < 256) : dec4 (tailC a b c d) = some [256 * a + b, 256 * c + d] := by
  unfold dec4 tailC
  rw [spl_cut (decC_get ha).2.2.1, spl_cut (decC_get hb).2.2.1, spl_cut (decC_get hc).2.2.1, spl_clean (decC_get hd).2.2.1]
  simp only [decs, (decC_get ha).1, (decC_get hb).1, (decC_get hc).1, (decC_get hd).1]
theorem tail_num (a b c d : Nat) : num 16 4 (tailC a b c d) = none := num_none (c := 46) (by unfold tailC; simp) (by decide)
theorem tail_colon {a b c d : Nat} (ha : a < 256) (hb : b < 256) (hc : c < 256) (hd : d < 256) : (58 : UInt8) ∉ tailC a b c d := by
  unfold tailC
  have h1 := (decC_get ha).2.1; have h2 := (decC_get hb).2.1; have h3 := (decC_get hc).2.1; have h4 := (decC_get hd).2.1
  simp only [List.mem_append, List.mem_cons, not_or]
  exact ⟨h1, by decide, h2, by decide, h3, by decide, h4⟩
/-- the pieces of an address: all groups, or six and decimals -/
def pieceC (a : Nat → Nat) (big : Nat → Bool) (tail : Bool) (i : Nat) : List UInt8 :=
  if tail ∧ i = 6 then tailC (a 12) (a 13) (a 14) (a 15) else fourC (big i) (grp a i)
def manyC (tail : Bool) : Nat := if tail then 7 else 8
theorem many_le (tail : Bool) : 7 ≤ manyC tail ∧ manyC tail ≤ 8 := by cases tail <;> decide
def pcsC (a : Nat → Nat) (big : Nat → Bool) (tail : Bool) (f n : Nat) : List (List UInt8) := (List.range' f n).map (pieceC a big tail)
section
variable {a : Nat → Nat} {big : Nat → Bool} {tail : Bool} (ha : ∀ i, i < 16 → a i < 256)
include ha
theorem pieceC_ok (i : Nat) : pieceC a big tail i ≠ [] ∧ (58 : UInt8) ∉ pieceC a big tail i := by
  unfold pieceC
  split
  · refine ⟨by unfold tailC; simp, tail_colon (ha _ (by decide)) (ha _ (by decide)) (ha _ (by decide)) (ha _ (by decide))⟩
  · exact ⟨by unfold fourC; simp, four_colon _ _⟩
theorem pcsC_pcs (f n : Nat) : Pcs (pcsC a big tail f n) := fun p hp => by
  obtain ⟨i, _, rfl⟩ := List.mem_map.1 hp
  exact pieceC_ok ha i
omit ha in
/-- pieces that are groups -/
theorem side_four (hg : ∀ i, i < 8 → grp a i < 65536) (last : Bool) : ∀ n f, f + n ≤ 8 → (tail = true → f + n ≤ 6) → sideG last (pcsC a big tail f n) = some ((List.range' f n).map (grp a))
  | 0, f, _, _ => rfl
  | n + 1, f, h, ht => by
    have e : pcsC a big tail f (n + 1) = pieceC a big tail f :: pcsC a big tail (f + 1) n := by unfold pcsC; rw [List.range'_succ, List.map_cons]
    have e2 : pieceC a big tail f = fourC (big f) (grp a f) := by unfold pieceC; rw [if_neg]; rintro ⟨h1, h2⟩; have := ht h1; omega
    rw [e, sideG, e2, num_four _ (hg f (by omega)), side_four hg last n (f + 1) (by omega) (fun h => by have := ht h; omega), List.range'_succ, List.map_cons]
    rfl
/-- and decimals at the end -/
theorem side_tail (htail : tail = true) : ∀ n f, f + n = 7 → n ≠ 0 → sideG true (pcsC a big tail f n) = some ((List.range' f (n + 1)).map (grp a))
  | 0, f, _, h => absurd rfl h
  | n + 1, f, h, _ => by
    have e : pcsC a big tail f (n + 1) = pieceC a big tail f :: pcsC a big tail (f + 1) n := by unfold pcsC; rw [List.range'_succ, List.map_cons]
    by_cases h6 : f = 6
    · have hn : n = 0 := by omega
      subst h6; subst hn
      have e2 : pieceC a big tail 6 = tailC (a 12) (a 13) (a 14) (a 15) := by unfold pieceC; rw [if_pos ⟨htail, rfl⟩]
      rw [e, sideG, e2, tail_num, tail_get (ha _ (by decide)) (ha _ (by decide)) (ha _ (by decide)) (ha _ (by decide))]
      rfl
    · have e2 : pieceC a big tail f = fourC (big f) (grp a f) := by unfold pieceC; rw [if_neg]; rintro ⟨h1, h2⟩; exact h6 h2
      rw [e, sideG, e2, num_four _ (grp_lt ha f (by omega)), side_tail htail n (f + 1) (by omega) (by omega), List.range'_succ, List.map_cons]
      rfl
omit ha in
theorem tail_mid (htail : tail = true) {f n : Nat} (h : f ≤ 6) (hn : 7 ≤ f + n) : sideG false (pcsC a big tail f n) = none := by
  have e : ∀ n f, f ≤ 6 → 7 ≤ f + n → sideG false (pcsC a big tail f n) = none := by
    intro n
    induction n with
    | zero => intro f h1 h2; omega
    | succ n ih =>
      intro f h1 h2
      have e : pcsC a big tail f (n + 1) = pieceC a big tail f :: pcsC a big tail (f + 1) n := by unfold pcsC; rw [List.range'_succ, List.map_cons]
      rw [e, sideG]
      by_cases h6 : f = 6
      · subst h6
        have e2 : pieceC a big tail 6 = tailC (a 12) (a 13) (a 14) (a 15) := by unfold pieceC; rw [if_pos ⟨htail, rfl⟩]
        rw [e2, tail_num]; rfl
      · rw [ih (f + 1) (by omega) (by omega)]
        cases num 16 4 (pieceC a big tail f) <;> rfl
  exact e n f h hn
/-- all groups written out -/
def allC (a : Nat → Nat) (big : Nat → Bool) (tail : Bool) (k : Nat) : List UInt8 := Lib.join (pcsC a big tail 0 k) [58]
theorem side_all : sideG true (pcsC a big tail 0 (manyC tail)) = some ((List.range' 0 8).map (grp a)) := by
  cases htail : tail with
  | true => exact side_tail ha rfl 7 0 (by decide) (by decide)
  | false => exact side_four (grp_lt ha) true 8 0 (by decide) (by simp)
theorem all_get : getL (allC a big tail (manyC tail)) = some ((List.range' 0 8).map (grp a)) := by
  unfold allC
  rw [getL_plain (pcsC_pcs ha 0 _), side_all ha]
  rfl
theorem all_is : isL (allC a big tail (manyC tail)) a = true := by
  unfold isL
  rw [all_get ha]
  exact (adrEq_iff ha (adrG_lt (getL_lt (all_get (big := big) (tail := tail) ha)).2)).2 fun i hi => (adrG_grp ha i hi).symm
omit ha in
theorem pcsC_ne {f n : Nat} (h : n ≠ 0) : pcsC a big tail f n ≠ [] := by
  unfold pcsC
  cases n with
  | zero => exact absurd rfl h
  | succ n => rw [List.range'_succ]; simp
/-- a colon more at the end -/
theorem all_colon : getL (allC a big tail (manyC tail) ++ [58]) = none := by
  have hp := pcsC_pcs (big := big) (tail := tail) ha 0 (manyC tail)
  have h0 : pcsC a big tail 0 (manyC tail) ≠ [] := pcsC_ne (by have := many_le tail; omega)
  have hl : 0 < (Lib.join (pcsC a big tail 0 (manyC tail)) [58]).length := List.length_pos_iff.2 (join_ne hp h0)
  unfold allC
  refine getL_no (fun _ l h => ?_) (fun j h _ l m hl2 hm => ?_)
  · exfalso
    unfold sideL at h
    rw [if_neg (by simp), spl_append, pcs_spl hp h0] at h
    rw [sideG_none true _ [] (by simp [spl]) (by decide) (by decide)] at h
    cases h
  · exfalso
    have h1 : j + 1 < (Lib.join (pcsC a big tail 0 (manyC tail)) [58] ++ [58]).length := by
      rcases Nat.lt_or_ge (j + 1) (Lib.join (pcsC a big tail 0 (manyC tail)) [58] ++ [58]).length with h1 | h1
      · exact h1
      · have := h.2; rw [List.getElem?_eq_none h1] at this; cases this
    rw [List.length_append, List.length_singleton] at h1
    by_cases h2 : j + 1 < (Lib.join (pcsC a big tail 0 (manyC tail)) [58]).length
    · exact pcs_nocc hp j ⟨by rw [← append_at (by omega : j < _)]; exact h.1, by rw [← append_at h2]; exact h.2⟩
    · exact pcs_last hp j (by omega) (by rw [← append_at (by omega : j < _)]; exact h.1)
/-- a colon more ahead -/
theorem colon_all : getL (58 :: allC a big tail (manyC tail)) = none := by
  have hp := pcsC_pcs (big := big) (tail := tail) ha 0 (manyC tail)
  have h0 : pcsC a big tail 0 (manyC tail) ≠ [] := pcsC_ne (by have := many_le tail; omega)
  unfold allC
  have e : spl 58 (58 :: Lib.join (pcsC a big tail 0 (manyC tail)) [58]) = [] :: pcsC a big tail 0 (manyC tail) := by rw [spl, if_pos rfl, pcs_spl hp h0]
  refine getL_no (fun _ l h => ?_) (fun j h _ l m hl2 hm => ?_)
  · exfalso
    unfold sideL at h
    rw [if_neg (by simp), e, sideG, show num 16 4 [] = none by decide] at h
    rw [if_neg (by simp [h0])] at h
    cases h
  · exfalso
    have := cc_nil _ j h
    rw [e] at this
    exact (hp [] this).1 rfl
/-- two colons more -/
theorem all_more : getL (allC a big tail (manyC tail) ++ [58, 58, 49]) = none := by
  have hp := pcsC_pcs (big := big) (tail := tail) ha 0 (manyC tail)
  have h49 : Pcs [[49]] := by unfold Pcs; decide
  have e := getL_cut hp h49
  rw [show Lib.join [[(49 : UInt8)]] [58] = [49] by decide] at e
  unfold allC
  rw [e]
  cases htail : tail with
  | true => rw [tail_mid (a := a) (big := big) (tail := true) rfl (f := 0) (n := manyC true) (by decide) (by decide)]; rfl
  | false => rw [side_four (grp_lt ha) false (manyC false) 0 (by decide) (by simp)]; rfl
omit ha in
/-- a strange byte at the end -/
theorem all_space : getL (allC a big tail (manyC tail) ++ [32]) = none := getL_strange (c := 32) (by simp) (by decide) (by decide) (by decide)
/-- noughts as two colons -/
def cutC (a : Nat → Nat) (big : Nat → Bool) (tail : Bool) (f t k : Nat) : List UInt8 :=
  Lib.join (pcsC a big tail 0 (min f k)) [58] ++ ((if f < k then [58, 58] else []) ++ Lib.join (pcsC a big tail t (k - t)) [58])
def zeroC (a : Nat → Nat) (f t k : Nat) (i : Nat) : Nat := if f ≤ i / 2 ∧ i / 2 < t ∧ i / 2 < k then 0 else a i
theorem cut_get {f t : Nat} (hft : f < t) (ht : t ≤ manyC tail) (ht6 : tail = true → t ≤ 6) : getL (cutC a big tail f t (manyC tail)) = some ((List.range' 0 f).map (grp a) ++ List.replicate (t - f) 0 ++ (List.range' t (8 - t)).map (grp a)) := by
  have hm := many_le tail
  unfold cutC
  rw [show min f (manyC tail) = f by omega, if_pos (by omega)]
  rw [show [58, 58] ++ Lib.join (pcsC a big tail t (manyC tail - t)) [58] = 58 :: 58 :: Lib.join (pcsC a big tail t (manyC tail - t)) [58] from rfl]
  rw [getL_cut (pcsC_pcs ha 0 f) (pcsC_pcs ha t _), side_four (grp_lt ha) false f 0 (by omega) (fun h => by have := ht6 h; omega)]
  have e : sideG true (pcsC a big tail t (manyC tail - t)) = some ((List.range' t (8 - t)).map (grp a)) := by
    cases htail : tail with
    | true =>
      have h6 := ht6 htail
      have := side_tail (big := big) ha (tail := true) rfl (7 - t) t (by omega) (by omega)
      rw [show 7 - t + 1 = 8 - t by omega] at this
      exact this
    | false =>
      rw [htail] at ht
      exact side_four (grp_lt ha) true (8 - t) t (by have : manyC false = 8 := rfl; omega) (by simp)
  rw [e]
  simp only [fewer, List.length_map, List.length_range']
  rw [if_pos (by omega), show 8 - (f + (8 - t)) = t - f by omega]
theorem cut_is {f t : Nat} (hft : f < t) (ht : t ≤ manyC tail) (ht6 : tail = true → t ≤ 6) : isL (cutC a big tail f t (manyC tail)) (zeroC a f t (manyC tail)) = true := by
  have hm := many_le tail
  have hz : ∀ i, i < 16 → zeroC a f t (manyC tail) i < 256 := fun i hi => by
    unfold zeroC; split
    · decide
    · exact ha i hi
  have hg := cut_get (big := big) ha hft ht ht6
  unfold isL
  rw [hg]
  refine (adrEq_iff hz (adrG_lt (getL_lt hg).2)).2 fun i hi => ?_
  have e : ((List.range' 0 f).map (grp a) ++ List.replicate (t - f) 0 ++ (List.range' t (8 - t)).map (grp a)).getD (i / 2) 0 = if f ≤ i / 2 ∧ i / 2 < t then 0 else grp a (i / 2) := by
    rw [List.getD_eq_getElem?_getD]
    by_cases h1 : i / 2 < f
    · rw [List.getElem?_append_left (by simp; omega), List.getElem?_append_left (by simp; omega), List.getElem?_map, List.getElem?_range' h1, if_neg (by omega)]
      simp
    · by_cases h2 : i / 2 < t
      · rw [List.getElem?_append_left (by simp; omega), List.getElem?_append_right (by simp; omega), List.getElem?_replicate, if_pos (by simp; omega), if_pos (by omega)]
        rfl
      · rw [List.getElem?_append_right (by simp; omega), List.getElem?_map, List.getElem?_range' (by simp; omega), if_neg (by omega)]
        simp only [List.length_append, List.length_map, List.length_range', List.length_replicate, Option.map_some, Option.getD_some, Nat.one_mul]
        rw [show t + (i / 2 - (f + (t - f))) = i / 2 by omega]
  unfold adrG zeroC
  rw [e]
  by_cases h1 : f ≤ i / 2 ∧ i / 2 < t
  · rw [if_pos h1, if_pos ⟨h1.1, h1.2, by omega⟩]; split <;> rfl
  · rw [if_neg h1, if_neg (fun h => h1 ⟨h.1, h.2.1⟩)]
    unfold grp
    split
    · rw [show 2 * (i / 2) = i by omega]
      have := ha (i + 1) (by omega)
      omega
    · rw [show 2 * (i / 2) + 1 = i by omega]
      have := ha i hi
      omega
end
end Go.Proofs.YtepoaapadalnoaaDoor
