/- The order of entries is that of numbers. Plain. -/
import Derived.Test.YtkhbchgocilclaaOrder
import Derived.Shelf.SlSortCmp.Insertion
namespace Go.Proofs.Ytkhbchgocilclaa
open Go.RowKit Go.Sort Go.Shelf Go.Lib
set_option linter.unusedVariables false

def numB (l : List UInt8) : Nat := l.foldl (fun n b => n * 256 + b.toNat) 0
theorem foldl_num (l : List UInt8) (n : Nat) : l.foldl (fun n b => n * 256 + b.toNat) n = n * 256 ^ l.length + numB l := by
  induction l generalizing n with
  | nil => simp [numB]
  | cons b l ih =>
    unfold numB
    rw [List.foldl_cons, List.foldl_cons, ih, ih, List.length_cons, Nat.pow_succ]
    generalize numB l = z
    generalize 256 ^ l.length = p
    rw [Nat.add_mul, Nat.zero_mul, Nat.zero_add, Nat.mul_assoc, Nat.mul_comm 256 p, Nat.add_assoc]
theorem numB_cons (b : UInt8) (l : List UInt8) : numB (b :: l) = b.toNat * 256 ^ l.length + numB l := by
  show (b :: l).foldl _ 0 = _
  rw [List.foldl_cons, foldl_num]; simp
theorem numB_lt (l : List UInt8) : numB l < 256 ^ l.length := by
  induction l with
  | nil => decide
  | cons b l ih =>
    rw [numB_cons, List.length_cons, Nat.pow_succ]
    have hb := b.toNat_lt
    have : b.toNat * 256 ^ l.length ≤ 255 * 256 ^ l.length := Nat.mul_le_mul_right _ (by omega)
    omega
theorem numB_append (l m : List UInt8) : numB (l ++ m) = numB l * 256 ^ m.length + numB m := by
  show (l ++ m).foldl _ 0 = _
  rw [List.foldl_append, foldl_num]; rfl
/-- which of two heads decides -/
theorem lex_lt {x y p a b : Nat} (ha : a < p) (hb : b < p) : (x * p + a < y * p + b) ↔ (x < y ∨ x = y ∧ a < b) := by
  rcases Nat.lt_trichotomy x y with h | h | h
  · have : (x + 1) * p ≤ y * p := Nat.mul_le_mul_right _ h
    rw [Nat.add_mul, Nat.one_mul] at this
    constructor
    · intro _; exact .inl h
    · intro _; omega
  · subst h
    constructor
    · intro h; exact .inr ⟨rfl, by omega⟩
    · rintro (h | ⟨_, h⟩) <;> omega
  · have : (y + 1) * p ≤ x * p := Nat.mul_le_mul_right _ h
    rw [Nat.add_mul, Nat.one_mul] at this
    constructor
    · intro h; omega
    · rintro (h | ⟨h, _⟩) <;> omega
theorem numB_inj : ∀ (l m : List UInt8), l.length = m.length → numB l = numB m → l = m
  | [], [], _, _ => rfl
  | x :: l, y :: m, hl, h => by
    have hl' : l.length = m.length := by simpa using hl
    rw [numB_cons, numB_cons, ← hl'] at h
    have h1 := numB_lt l
    have h2 := numB_lt m
    rw [← hl'] at h2
    have e : x.toNat = y.toNat := by
      have a1 := (lex_lt (x := x.toNat) (y := y.toNat) h1 h2)
      have a2 := (lex_lt (x := y.toNat) (y := x.toNat) h2 h1)
      rcases Nat.lt_trichotomy x.toNat y.toNat with q | q | q
      · have := a1.2 (.inl q); omega
      · exact q
      · have := a2.2 (.inl q); omega
    have e2 : x = y := UInt8.toNat_inj.1 e
    subst e2
    rw [numB_inj l m hl' (by omega)]
  | [], _ :: _, h, _ => by simp at h
  | _ :: _, [], h, _ => by simp at h
def cmpN (a b : Nat) : Int := if a < b then -1 else if b < a then 1 else 0
theorem cmp_cons (x y : UInt8) (xs ys : List UInt8) : cmpB (x :: xs) (y :: ys) = if x = y then cmpB xs ys else if x < y then -1 else 1 := by
  unfold cmpB Extern.BytealgCompare.cmp
  have e : min (ByteArray.mk (x :: xs).toArray).size (ByteArray.mk (y :: ys).toArray).size = min (ByteArray.mk xs.toArray).size (ByteArray.mk ys.toArray).size + 1 := by
    show min (x :: xs).toArray.size (y :: ys).toArray.size = min xs.toArray.size ys.toArray.size + 1
    simp
  rw [e, List.range_succ_eq_map, List.find?_cons]
  have g0 : (ByteArray.mk (x :: xs).toArray)[0]! = x := rfl
  have g1 : (ByteArray.mk (y :: ys).toArray)[0]! = y := rfl
  have gs : ∀ (z : UInt8) (zs : List UInt8) (i : Nat), (ByteArray.mk (z :: zs).toArray)[i + 1]! = (ByteArray.mk zs.toArray)[i]! := fun z zs i => by
    have sz : ∀ l : List UInt8, (ByteArray.mk l.toArray).size = l.length := fun l => by show l.toArray.size = _; simp
    by_cases hi : i < zs.length
    · rw [getElem!_pos (ByteArray.mk (z :: zs).toArray) (i + 1) (show i + 1 < (ByteArray.mk (z :: zs).toArray).size by rw [sz]; simp; omega), getElem!_pos (ByteArray.mk zs.toArray) i (show i < (ByteArray.mk zs.toArray).size by rw [sz]; exact hi)]
      rfl
    · rw [getElem!_neg (ByteArray.mk (z :: zs).toArray) (i + 1) (show ¬ i + 1 < (ByteArray.mk (z :: zs).toArray).size by rw [sz]; simp; omega), getElem!_neg (ByteArray.mk zs.toArray) i (show ¬ i < (ByteArray.mk zs.toArray).size by rw [sz]; exact hi)]
  rw [g0, g1]
  by_cases h : x = y
  · subst h
    simp only [bne_self_eq_false, if_true]
    rw [List.find?_map]
    have ep : ((fun i => (ByteArray.mk (x :: xs).toArray)[i]! != (ByteArray.mk (x :: ys).toArray)[i]!) ∘ Nat.succ) = fun i => (ByteArray.mk xs.toArray)[i]! != (ByteArray.mk ys.toArray)[i]! := by
      funext i
      show ((ByteArray.mk (x :: xs).toArray)[i + 1]! != (ByteArray.mk (x :: ys).toArray)[i + 1]!) = _
      rw [gs, gs]
    rw [ep]
    cases hf : (List.range (min (ByteArray.mk xs.toArray).size (ByteArray.mk ys.toArray).size)).find? fun i => (ByteArray.mk xs.toArray)[i]! != (ByteArray.mk ys.toArray)[i]! with
    | some i => simp only [Option.map_some]; show (if (ByteArray.mk (x :: xs).toArray)[i + 1]! < (ByteArray.mk (x :: ys).toArray)[i + 1]! then (-1 : Int) else 1) = _; rw [gs, gs]
    | none =>
      simp only [Option.map_none]
      show (if (x :: xs).toArray.size < (x :: ys).toArray.size then (-1 : Int) else if (x :: xs).toArray.size > (x :: ys).toArray.size then 1 else 0) = (if xs.toArray.size < ys.toArray.size then (-1 : Int) else if xs.toArray.size > ys.toArray.size then 1 else 0)
      simp
  · have hb : (x != y) = true := by simp [h]
    simp only [hb, if_neg h]
    rw [g0, g1]
theorem cmpB_num : ∀ (xs ys : List UInt8), xs.length = ys.length → cmpB xs ys = cmpN (numB xs) (numB ys)
  | [], [], _ => rfl
  | x :: xs, y :: ys, h => by
    have h' : xs.length = ys.length := by simpa using h
    rw [cmp_cons, cmpB_num xs ys h', numB_cons, numB_cons, ← h']
    have h1 := numB_lt xs
    have h2 := numB_lt ys
    rw [← h'] at h2
    unfold cmpN
    by_cases e : x = y
    · subst e
      rw [if_pos rfl]
      have a : (x.toNat * 256 ^ xs.length + numB xs < x.toNat * 256 ^ xs.length + numB ys) ↔ numB xs < numB ys := by omega
      have b : (x.toNat * 256 ^ xs.length + numB ys < x.toNat * 256 ^ xs.length + numB xs) ↔ numB ys < numB xs := by omega
      simp only [a, b]
    · rw [if_neg e]
      have ne : x.toNat ≠ y.toNat := fun q => e (UInt8.toNat_inj.1 q)
      by_cases l : x < y
      · rw [if_pos l, if_pos ((lex_lt h1 h2).2 (.inl (UInt8.lt_iff_toNat_lt.1 l)))]
      · have l2 : ¬ x.toNat < y.toNat := fun q => l (UInt8.lt_iff_toNat_lt.2 q)
        have l3 : y.toNat < x.toNat := by omega
        have := (lex_lt (x := y.toNat) (y := x.toNat) h2 h1).2 (.inl l3)
        rw [if_neg l, if_neg (by omega), if_pos this]
  | [], _ :: _, h => by simp at h
  | _ :: _, [], h => by simp at h
def numK (x : PKey) : Nat := numB x.1
theorem split17 (x : PKey) : x.1 = x.1.take 16 ++ [x.1.getD 16 0] := by
  apply List.ext_getElem?
  intro i
  have hl := x.2
  rcases Nat.lt_or_ge i 16 with h | h
  · rw [List.getElem?_append_left (by simp; omega), List.getElem?_take_of_lt h]
  · rw [List.getElem?_append_right (by simp; omega)]
    rcases Nat.lt_or_ge 16 i with h2 | h2
    · rw [List.getElem?_eq_none (by omega), List.getElem?_eq_none (by simp; omega)]
    · obtain rfl : i = 16 := by omega
      rw [List.length_take, hl, List.getD_eq_getElem?_getD, List.getElem?_eq_getElem (by omega)]; rfl
theorem numK_eq (x : PKey) : numK x = numB (x.1.take 16) * 256 + (x.1.getD 16 0).toNat := by
  show numB x.1 = _
  conv => lhs; rw [split17 x]
  rw [numB_append]
  show _ * 256 ^ 1 + numB [_] = _
  rw [numB_cons]; simp [numB]
theorem cfK_num (x y : PKey) : cfK x y = cmpN (numK x) (numK y) := by
  unfold cfK
  rw [cmpB_num _ _ (by rw [List.length_take, List.length_take, x.2, y.2]), numK_eq, numK_eq]
  have h1 := (x.1.getD 16 0).toNat_lt
  have h2 := (y.1.getD 16 0).toNat_lt
  generalize numB (x.1.take 16) = a
  generalize numB (y.1.take 16) = b
  generalize (x.1.getD 16 0).toNat = c at *
  generalize (y.1.getD 16 0).toNat = d at *
  rcases Nat.lt_trichotomy a b with h | h | h
  · have ea : cmpN a b = -1 := by unfold cmpN; rw [if_pos h]
    rw [ea]; unfold orI; rw [if_pos (by decide)]; unfold cmpN; rw [if_pos (by omega)]
  · subst h
    have ea : cmpN a a = 0 := by unfold cmpN; rw [if_neg (by omega), if_neg (by omega)]
    rw [ea]; unfold orI; rw [if_neg (by decide)]; unfold cmpU cmpN
    by_cases h1 : c < d
    · rw [if_pos h1, if_pos (by omega)]
    · by_cases h2 : d < c
      · rw [if_neg h1, if_pos h2, if_neg (by omega), if_pos (by omega)]
      · rw [if_neg h1, if_neg h2, if_neg (by omega), if_neg (by omega)]
  · have ea : cmpN a b = 1 := by unfold cmpN; rw [if_neg (by omega), if_pos h]
    rw [ea]; unfold orI; rw [if_pos (by decide)]; unfold cmpN; rw [if_neg (by omega), if_pos (by omega)]
theorem ltK (x y : PKey) : ltOf cfK x y = decide (numK x < numK y) := by
  unfold ltOf
  rw [cfK_num]
  unfold cmpN
  by_cases h : numK x < numK y
  · simp [h]
  · by_cases h2 : numK y < numK x <;> simp [h, h2]
theorem swoK : SWO (ltOf cfK) where
  irrefl x := by rw [ltK]; simp
  trans x y z h1 h2 := by rw [ltK] at *; simp at *; omega
  ntrans x y z h1 h2 := by rw [ltK] at *; simp at *; omega
theorem numK_inj {x y : PKey} (h : numK x = numK y) : x = y := Subtype.ext (numB_inj _ _ (x.2.trans y.2.symm) h)
end Go.Proofs.Ytkhbchgocilclaa
