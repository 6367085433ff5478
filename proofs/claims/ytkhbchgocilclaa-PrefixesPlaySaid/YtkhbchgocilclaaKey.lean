/- What a prefix reads as, as a map's key. No condition but that each byte is one. -/
import Derived.Test.YtkhbchgocilclaaWithin
import Derived.DeepKeys4
namespace Go.Proofs.Ytkhbchgocilclaa
open Go.RowKit
set_option linter.unusedVariables false

def keyBytesOf (a : Nat → Nat) (n : Nat) : List UInt8 := (List.range 16).map (fun i => UInt8.ofNat (a i)) ++ [UInt8.ofNat n]
def keyLit (a : Nat → Nat) (n : Nat) : Lit := .string (keyBytesOf a n)

theorem mapM_all {α β : Type} {f : α → Option β} {g : α → β} : ∀ l : List α, (∀ x, x ∈ l → f x = some (g x)) → l.mapM f = some (l.map g)
  | [], _ => rfl
  | x :: r, h => by
    have h1 := h x (by simp)
    have h2 := mapM_all r (fun y hy => h y (by simp [hy]))
    simp [List.mapM_cons, h1, h2]

theorem wf_u8 {x : Nat} (h : x < 256) : (Lit.int .u8 (x : Int)).wf = true := by
  simp [Lit.wf, IntKind.min, IntKind.max, IntKind.signed, IntKind.bits]; omega

theorem lits_u8 (d x : Nat) (h : x < 256) : Try.prog.keyLits (d + 1) 5 [.int .u8 (x : Int)] = some [.int .u8 (x : Int)] := by
  simp [Program.keyLits, Try.underlying5, wf_u8 h]
theorem cells23 : Try.prog.cellsOf 23 = 16 := by kernel_rfl
theorem cells5 : Try.prog.cellsOf 5 = 1 := by kernel_rfl
theorem cells25 : Try.prog.cellsOf 25 = 17 := by kernel_rfl

theorem lits_adr (d : Nat) (a : Nat → Nat) (ha : ∀ i, i < 16 → a i < 256) : Try.prog.keyLits (d + 2) 23 (adrL a) = some ((List.range 16).map fun i => .int .u8 (a i : Int)) := by
  unfold Program.keyLits
  rw [Try.underlying23]
  simp only [cells23, cells5, adrL_length, if_true]
  rw [mapM_all (g := fun i => [Lit.int .u8 (a i : Int)])]
  · simp only [Option.map_some, Option.some.injEq]
    have key : ∀ l : List Nat, (l.map fun i => [Lit.int .u8 (a i : Int)]).flatten = l.map fun i => Lit.int .u8 (a i : Int) := by
      intro l
      induction l with
      | nil => rfl
      | cons x r ih => simp [ih]
    exact key _
  · intro i hi
    have hi' : i < 16 := by simpa using hi
    have e : ((adrL a).drop (i * 1)).take 1 = [.int .u8 (a i : Int)] := by
      rw [Nat.mul_one, List.drop_eq_getElem_cons (by rw [adrL_length]; exact hi')]
      simp [adrL]
    rw [e]
    exact lits_u8 d (a i) (ha i hi')

theorem lits_pre (d : Nat) (a : Nat → Nat) (n : Nat) (ha : ∀ i, i < 16 → a i < 256) (hn : n < 256) :
    Try.prog.keyLits (d + 3) 25 (adrL a ++ [Value.int .u8 (n : Int)]) = some (((List.range 16).map fun i => .int .u8 (a i : Int)) ++ [.int .u8 (n : Int)]) := by
  have e1 : ((adrL a ++ [Value.int .u8 (n : Int)]).drop 0).take 16 = adrL a := by
    rw [List.drop_zero, List.take_append_of_le_length (by rw [adrL_length]; exact Nat.le_refl _), List.take_of_length_le (by rw [adrL_length]; exact Nat.le_refl _)]
  have e2 : ((adrL a ++ [Value.int .u8 (n : Int)]).drop 16).take 1 = [Value.int .u8 (n : Int)] := by
    rw [List.drop_append_of_le_length (by rw [adrL_length]; exact Nat.le_refl _), List.drop_of_length_le (by rw [adrL_length]; exact Nat.le_refl _)]; rfl
  unfold Program.keyLits
  rw [Try.underlying25]
  simp only [cells25, cells23, cells5, List.length_append, adrL_length, List.mapM_cons, List.mapM_nil]
  simp only [e1, e2, lits_adr d a ha, lits_u8 (d + 1) n hn]
  simp
theorem bytes_u8 {x : Nat} (h : x < 256) : (Lit.int .u8 (x : Int)).keyBytes = [UInt8.ofNat x] := by
  simp only [Lit.keyBytes, IntKind.bits]
  show bytesBE 1 ((x : Int) % 256).toNat = _
  have e : ((x : Int) % 256).toNat = x := by omega
  rw [e]
  simp [bytesBE, bytesLE, Nat.mod_eq_of_lt h]

theorem keyOf_pre (a : Nat → Nat) (n : Nat) (ha : ∀ i, i < 16 → a i < 256) (hn : n < 256) : keyOf Try.prog 25 (.agg (preCells a n)) = some (keyLit a n) := by
  have hk : Try.prog.keyType 25 = true := by kernel_rfl
  have hs : 2 ≤ Try.prog.types.size := of_decide_eq_true (by kernel_rfl)
  obtain ⟨d, hd⟩ : ∃ d, Try.prog.types.size + 1 = d + 3 := ⟨Try.prog.types.size - 2, by omega⟩
  have hf : (Value.agg (preCells a n)).formed Try.prog 25 = true := by
    simp [Value.formed, Try.underlying25, cells25, preCells, adrL_length]
  have hl : (Value.agg (preCells a n)).cells.toList = adrL a ++ [Value.int .u8 (n : Int)] := rfl
  unfold keyOf
  rw [Try.underlying25]
  simp only [hk, hd, hf, hl, lits_pre d a n ha hn, Bool.and_self, if_true, Option.map_some, keyLit, Option.some.injEq, Lit.string.injEq]
  have key : ∀ l : List Nat, (∀ i, i ∈ l → a i < 256) → (l.map fun i => Lit.int .u8 (a i : Int)).flatMap Lit.keyBytes = l.map fun i => UInt8.ofNat (a i) := by
    intro l
    induction l with
    | nil => intro _; rfl
    | cons x r ih => intro h; rw [List.map_cons, List.flatMap_cons, ih (fun i hi => h i (by simp [hi])), bytes_u8 (h x (by simp))]; rfl
  unfold keyBytes keyBytesOf
  rw [List.flatMap_append, key _ (fun i hi => ha i (by simpa using hi)), List.flatMap_cons, bytes_u8 hn]
  rfl

theorem keyLit_inj {a b : Nat → Nat} {n m : Nat} (ha : ∀ i, i < 16 → a i < 256) (hb : ∀ i, i < 16 → b i < 256) (hn : n < 256) (hm : m < 256) (h : keyLit a n = keyLit b m) : n = m ∧ ∀ i, i < 16 → a i = b i := by
  simp only [keyLit, Lit.string.injEq, keyBytesOf] at h
  have h1 := List.append_inj h (by simp)
  have num : ∀ x y : Nat, x < 256 → y < 256 → UInt8.ofNat x = UInt8.ofNat y → x = y := by
    intro x y hx hy e
    have := congrArg UInt8.toNat e
    simp [Nat.mod_eq_of_lt hx, Nat.mod_eq_of_lt hy] at this
    exact this
  refine ⟨num _ _ hn hm (by simpa using h1.2), fun i hi => ?_⟩
  have e := congrArg (fun l => l[i]?) h1.1
  simp [hi] at e
  exact num _ _ (ha i hi) (hb i hi) e
end Go.Proofs.Ytkhbchgocilclaa
