/- Texts of addresses, in plain words. No program in sight. -/
import Derived.Lib.CutLaws
import Derived.Lib.Split
import Derived.Lib.Join
import Derived.Lib.IndexMore
namespace Go.Proofs.YtepoaapadalnoaaDoor
/-- a digit of 16 -/
def hexD (d : Nat) : UInt8 := if d < 10 then UInt8.ofNat (48 + d) else UInt8.ofNat (87 + d)
/-- a group's digits -/
def hexS (n : Nat) : List UInt8 :=
  if n < 16 then [hexD n] else if n < 256 then [hexD (n / 16), hexD (n % 16)]
  else if n < 4096 then [hexD (n / 256), hexD (n / 16 % 16), hexD (n % 16)]
  else [hexD (n / 4096), hexD (n / 256 % 16), hexD (n / 16 % 16), hexD (n % 16)]
/-- the groups of an address -/
def grp (a : Nat → Nat) (i : Nat) : Nat := 256 * a (2 * i) + a (2 * i + 1)
/-- groups from one to another, a colon between -/
def joinG (g : Nat → Nat) (f t : Nat) : List UInt8 := Lib.join ((List.range' f (t - f)).map fun i => hexS (g i)) [58]
/-- where a run that begins at e ends -/
def endFrom (z : Nat → Bool) (e : Nat) : Nat → Nat
  | 0 => e
  | f + 1 => if z e then endFrom z (e + 1) f else e
def longStep (z : Nat → Bool) (p : Nat × Nat) (i : Nat) : Nat × Nat :=
  if z i then (if max 1 (p.2 - p.1) < endFrom z i (8 - i) - i then (i, endFrom z i (8 - i)) else p) else p
def longTo (z : Nat → Bool) : Nat → Nat × Nat
  | 0 => (0, 0)
  | n + 1 => longStep z (longTo z n) n
/-- the longest run -/
def longP (z : Nat → Bool) : Nat × Nat := longTo z 8
def putG (g : Nat → Nat) : List UInt8 :=
  let p := longP fun i => g i == 0
  if p.1 = p.2 then joinG g 0 8 else joinG g 0 p.1 ++ [58, 58] ++ joinG g p.2 8
/-- the text of an address -/
def putL (a : Nat → Nat) : List UInt8 := putG (grp a)

/-- the document's search -/
def allZ (z : Nat → Bool) (f t : Nat) : Bool := (List.range' f (t - f)).all z
def refRun (z : Nat → Bool) : Option (Nat × Nat) :=
  [8, 7, 6, 5, 4, 3, 2].findSome? fun l => ((List.range (9 - l)).find? fun f => allZ z f (f + l)).map fun f => (f, f + l)
def bitsZ (b0 b1 b2 b3 b4 b5 b6 b7 : Bool) (i : Nat) : Bool :=
  match i with | 0 => b0 | 1 => b1 | 2 => b2 | 3 => b3 | 4 => b4 | 5 => b5 | 6 => b6 | _ => b7
theorem run_bits : ∀ b0 b1 b2 b3 b4 b5 b6 b7 : Bool, refRun (bitsZ b0 b1 b2 b3 b4 b5 b6 b7) = (if (longP (bitsZ b0 b1 b2 b3 b4 b5 b6 b7)).1 = (longP (bitsZ b0 b1 b2 b3 b4 b5 b6 b7)).2 then none else some (longP (bitsZ b0 b1 b2 b3 b4 b5 b6 b7))) := by decide +kernel
theorem endFrom_congr {z y : Nat → Bool} (h : ∀ i, i < 8 → z i = y i) : ∀ f e, e + f ≤ 8 → endFrom z e f = endFrom y e f
  | 0, e, _ => rfl
  | f + 1, e, he => by
    unfold endFrom
    rw [h e (by omega), endFrom_congr h f (e + 1) (by omega)]
theorem longTo_congr {z y : Nat → Bool} (h : ∀ i, i < 8 → z i = y i) : ∀ n, n ≤ 8 → longTo z n = longTo y n
  | 0, _ => rfl
  | n + 1, hn => by
    unfold longTo
    rw [longTo_congr h n (by omega)]
    unfold longStep
    rw [h n (by omega), endFrom_congr h (8 - n) n (by omega)]
theorem bits_z (z : Nat → Bool) : ∀ i, i < 8 → z i = bitsZ (z 0) (z 1) (z 2) (z 3) (z 4) (z 5) (z 6) (z 7) i := fun i hi => by
  unfold bitsZ
  match i, hi with
  | 0, _ => rfl | 1, _ => rfl | 2, _ => rfl | 3, _ => rfl | 4, _ => rfl | 5, _ => rfl | 6, _ => rfl | 7, _ => rfl
theorem allZ_congr {z y : Nat → Bool} (h : ∀ i, i < 8 → z i = y i) {f t : Nat} (ht : t ≤ 8) : allZ z f t = allZ y f t := by
  unfold allZ
  rw [Bool.eq_iff_iff, List.all_eq_true, List.all_eq_true]
  constructor <;> intro h1 x hx <;> have h2 := List.mem_range'_1.1 hx
  · rw [← h x (by omega)]; exact h1 x hx
  · rw [h x (by omega)]; exact h1 x hx
theorem find_congr {p q : Nat → Bool} : ∀ L : List Nat, (∀ f ∈ L, p f = q f) → L.find? p = L.find? q
  | [], _ => rfl
  | x :: L, h => by
    rw [List.find?_cons, List.find?_cons, h x (List.mem_cons_self ..), find_congr L (fun f hf => h f (List.mem_cons_of_mem _ hf))]
theorem refRun_congr {z y : Nat → Bool} (h : ∀ i, i < 8 → z i = y i) : refRun z = refRun y := by
  unfold refRun
  have e : ∀ l ∈ [8, 7, 6, 5, 4, 3, 2], ((List.range (9 - l)).find? fun f => allZ z f (f + l)) = ((List.range (9 - l)).find? fun f => allZ y f (f + l)) := fun l hl => by
    have hl2 : 2 ≤ l ∧ l ≤ 8 := by revert l; decide
    refine find_congr _ (fun f hf => ?_)
    have := List.mem_range.1 hf
    exact allZ_congr h (by omega)
  simp only [List.findSome?_cons, List.findSome?_nil]
  rw [e 8 (by decide), e 7 (by decide), e 6 (by decide), e 5 (by decide), e 4 (by decide), e 3 (by decide), e 2 (by decide)]
theorem run_is (z : Nat → Bool) : refRun z = if (longP z).1 = (longP z).2 then none else some (longP z) := by
  rw [refRun_congr (bits_z z), show longP z = longP (bitsZ (z 0) (z 1) (z 2) (z 3) (z 4) (z 5) (z 6) (z 7)) from longTo_congr (bits_z z) 8 (by decide)]
  exact run_bits _ _ _ _ _ _ _ _
theorem long_bits : ∀ b0 b1 b2 b3 b4 b5 b6 b7 : Bool, (longP (bitsZ b0 b1 b2 b3 b4 b5 b6 b7)).1 ≤ (longP (bitsZ b0 b1 b2 b3 b4 b5 b6 b7)).2 ∧ (longP (bitsZ b0 b1 b2 b3 b4 b5 b6 b7)).2 ≤ 8 ∧ (List.range 8).all (fun i => !(decide ((longP (bitsZ b0 b1 b2 b3 b4 b5 b6 b7)).1 ≤ i) && decide (i < (longP (bitsZ b0 b1 b2 b3 b4 b5 b6 b7)).2)) || bitsZ b0 b1 b2 b3 b4 b5 b6 b7 i) = true := by decide +kernel
theorem long_is (z : Nat → Bool) : (longP z).1 ≤ (longP z).2 ∧ (longP z).2 ≤ 8 ∧ ∀ i, (longP z).1 ≤ i → i < (longP z).2 → z i = true := by
  rw [show longP z = longP (bitsZ (z 0) (z 1) (z 2) (z 3) (z 4) (z 5) (z 6) (z 7)) from longTo_congr (bits_z z) 8 (by decide)]
  obtain ⟨h1, h2, h3⟩ := long_bits (z 0) (z 1) (z 2) (z 3) (z 4) (z 5) (z 6) (z 7)
  refine ⟨h1, h2, fun i h4 h5 => ?_⟩
  have := List.all_eq_true.1 h3 i (List.mem_range.2 (by omega))
  rw [bits_z z i (by omega)]
  simpa [h4, h5] using this
end Go.Proofs.YtepoaapadalnoaaDoor
