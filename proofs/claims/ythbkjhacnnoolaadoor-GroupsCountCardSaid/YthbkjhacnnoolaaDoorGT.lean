/- The order of addresses: bytes.Compare and the comparator; addresses as numbers. No condition beyond those named. (Written out by exp.py.) -/
import Derived.Test.YthbkjhacnnoolaaDoorGS
import Derived.Lib.BytesEntry
import Derived.Laws.Externs
import Derived.Sort.Grow
import Derived.Shelf.SlSortCmp.Insertion
import GoSem.Extern.BytealgCompare
namespace Go.Proofs.YthbkjhacnnoolaaDoor
open Go.RowKit Go.Sort Go.Shelf
set_option linter.unusedVariables false
set_option linter.unusedSimpArgs false
def numA (l : List Nat) : Nat := l.foldl (fun n b => n * 256 + b) 0
theorem foldl_num (l : List Nat) (n : Nat) : l.foldl (fun n b => n * 256 + b) n = n * 256 ^ l.length + numA l := by
  induction l generalizing n with
  | nil => simp [numA]
  | cons b l ih =>
    unfold numA
    rw [List.foldl_cons, List.foldl_cons, ih, ih, List.length_cons, Nat.pow_succ]
    generalize numA l = z
    generalize 256 ^ l.length = p
    rw [Nat.add_mul, Nat.zero_mul, Nat.zero_add, Nat.mul_assoc, Nat.mul_comm 256 p, Nat.add_assoc]
theorem numA_cons (b : Nat) (l : List Nat) : numA (b :: l) = b * 256 ^ l.length + numA l := by
  show (b :: l).foldl _ 0 = _
  rw [List.foldl_cons, foldl_num]; simp
theorem numA_lt (l : List Nat) (h : ∀ y ∈ l, y < 256) : numA l < 256 ^ l.length := by
  induction l with
  | nil => decide
  | cons b l ih =>
    have := ih (fun y hy => h y (List.mem_cons_of_mem _ hy))
    rw [numA_cons, List.length_cons, Nat.pow_succ]
    have hb := h b List.mem_cons_self
    have : b * 256 ^ l.length ≤ 255 * 256 ^ l.length := Nat.mul_le_mul_right _ (by omega)
    omega
theorem lex_lt {x y p a b : Nat} (ha : a < p) (hb : b < p) : (x * p + a < y * p + b) ↔ (x < y ∨ x = y ∧ a < b) := by
  rcases Nat.lt_trichotomy x y with h | h | h
  · have : (x + 1) * p ≤ y * p := Nat.mul_le_mul_right _ h
    rw [Nat.add_mul, Nat.one_mul] at this
    constructor
    · intro _; exact .inl h
    · intro _; omega
  · subst h
    constructor
    · intro h; exact .inr ⟨rfl, by omega⟩
    · rintro (h | ⟨_, h⟩) <;> omega
  · have : (y + 1) * p ≤ x * p := Nat.mul_le_mul_right _ h
    rw [Nat.add_mul, Nat.one_mul] at this
    constructor
    · intro h; omega
    · rintro (h | ⟨h, _⟩) <;> omega
theorem numA_inj : ∀ (l m : List Nat), (∀ y ∈ l, y < 256) → (∀ y ∈ m, y < 256) → l.length = m.length → numA l = numA m → l = m
  | [], [], _, _, _, _ => rfl
  | x :: l, y :: m, bl, bm, hl, h => by
    have hl' : l.length = m.length := by simpa using hl
    have bl' : ∀ z ∈ l, z < 256 := fun z hz => bl z (List.mem_cons_of_mem _ hz)
    have bm' : ∀ z ∈ m, z < 256 := fun z hz => bm z (List.mem_cons_of_mem _ hz)
    rw [numA_cons, numA_cons, ← hl'] at h
    have h1 := numA_lt l bl'
    have h2 := numA_lt m bm'
    rw [← hl'] at h2
    have e : x = y := by
      have a1 := (lex_lt (x := x) (y := y) h1 h2)
      have a2 := (lex_lt (x := y) (y := x) h2 h1)
      rcases Nat.lt_trichotomy x y with q | q | q
      · have := a1.2 (.inl q); omega
      · exact q
      · have := a2.2 (.inl q); omega
    subst e
    rw [numA_inj l m bl' bm' hl' (by omega)]
  | [], _ :: _, _, _, h, _ => by simp at h
  | _ :: _, [], _, _, h, _ => by simp at h
def cmpN (a b : Nat) : Int := if a < b then -1 else if b < a then 1 else 0
theorem toU8 {x : Nat} (h : x < 256) : (UInt8.ofNat (x : Int).toNat).toNat = x := by simp; omega
theorem cmp_num : ∀ (xs ys : List Nat), (∀ y ∈ xs, y < 256) → (∀ y ∈ ys, y < 256) → xs.length = ys.length →
    Lib.compareBytes (Lib.bytesOf (xs.map fun (x : Nat) => (x : Int))) (Lib.bytesOf (ys.map fun (x : Nat) => (x : Int))) = cmpN (numA xs) (numA ys)
  | [], [], _, _, _ => rfl
  | x :: xs, y :: ys, bx, by', h => by
    have h' : xs.length = ys.length := by simpa using h
    have hx := bx x List.mem_cons_self
    have hy := by' y List.mem_cons_self
    have bx' : ∀ z ∈ xs, z < 256 := fun z hz => bx z (List.mem_cons_of_mem _ hz)
    have by'' : ∀ z ∈ ys, z < 256 := fun z hz => by' z (List.mem_cons_of_mem _ hz)
    have ih := cmp_num xs ys bx' by'' h'
    have h1 := numA_lt xs bx'
    have h2 := numA_lt ys by''
    rw [← h'] at h2
    have a1 := lex_lt (x := x) (y := y) h1 h2
    have a2 := lex_lt (x := y) (y := x) h2 h1
    have ux := toU8 hx
    have uy := toU8 hy
    rw [numA_cons, numA_cons, ← h']
    show (if UInt8.ofNat (x : Int).toNat < UInt8.ofNat (y : Int).toNat then (-1 : Int) else if UInt8.ofNat (y : Int).toNat < UInt8.ofNat (x : Int).toNat then 1 else Lib.compareBytes (Lib.bytesOf (xs.map fun (x : Nat) => (x : Int))) (Lib.bytesOf (ys.map fun (x : Nat) => (x : Int)))) = _
    have l1 : (UInt8.ofNat (x : Int).toNat < UInt8.ofNat (y : Int).toNat) ↔ x < y := by rw [UInt8.lt_iff_toNat_lt, ux, uy]
    have l2 : (UInt8.ofNat (y : Int).toNat < UInt8.ofNat (x : Int).toNat) ↔ y < x := by rw [UInt8.lt_iff_toNat_lt, ux, uy]
    rw [ih]
    simp only [l1, l2]
    unfold cmpN
    rcases Nat.lt_trichotomy x y with q | q | q
    · rw [if_pos q, if_pos (a1.2 (.inl q))]
    · subst q
      rw [if_neg (Nat.lt_irrefl _), if_neg (Nat.lt_irrefl _)]
      have a : (x * 256 ^ xs.length + numA xs < x * 256 ^ xs.length + numA ys) ↔ numA xs < numA ys := by omega
      have b : (x * 256 ^ xs.length + numA ys < x * 256 ^ xs.length + numA xs) ↔ numA ys < numA xs := by omega
      simp only [a, b]
    · have := a2.2 (.inl q)
      rw [if_neg (by omega), if_pos q, if_neg (by omega), if_pos this]
  | [], _ :: _, _, _, h => by simp at h
  | _ :: _, [], _, _, h => by simp at h
theorem run_bytes {W : World} {B o c : Nat} {xs : List Nat} (h : ∀ (j x : Nat), xs[j]? = some x → W.cell? ⟨B, o + j, none⟩ = some (.int .u8 (x : Int))) :
    (Extern.Bytes.bytesOf (.slice (some ⟨B, o, none⟩) xs.length c)).run Tryd.prog W = .ok ⟨(Lib.bytesOf (xs.map fun (x : Nat) => (x : Int))).toArray⟩ W := by
  show (Extern.Bytes.loadBytes _ _ _).run _ _ = _
  have := Lib.run_loadBytesX (P := Tryd.prog) W (xs.map fun (x : Nat) => (x : Int)) ⟨B, o, none⟩ .empty (fun j x hj => by
    rw [List.getElem?_map, Option.map_eq_some_iff] at hj
    obtain ⟨a, ha, rfl⟩ := hj
    rw [Addr.add_mid]; exact h j a ha)
  rw [List.length_map] at this
  rw [this]
  simp
theorem run_compare53 (a b : Value) (xs ys : List Nat) (W : World) (bx : ∀ y ∈ xs, y < 256) (by' : ∀ y ∈ ys, y < 256) (hl : xs.length = ys.length)
    (h1 : (Extern.Bytes.bytesOf a).run Tryd.prog W = .ok ⟨(Lib.bytesOf (xs.map fun (x : Nat) => (x : Int))).toArray⟩ W) (h2 : (Extern.Bytes.bytesOf b).run Tryd.prog W = .ok ⟨(Lib.bytesOf (ys.map fun (x : Nat) => (x : Int))).toArray⟩ W) :
    (callFunc 53 #[a, b]).run Tryd.prog W = .ok (.value (.int .i64 (cmpN (numA xs) (numA ys)))) W := by
  rw [run_callFunc_extern (e := Extern.BytealgCompare.compare) Tryd.func53 (by kernel_rfl) (by kernel_rfl) (by kernel_rfl) (by kernel_rfl)]
  show ((do pure (goInt (Extern.BytealgCompare.cmp (← Extern.Bytes.bytesOf a) (← Extern.Bytes.bytesOf b))) : Sem Value).run Tryd.prog W).andThen _ = _
  simp only [Sem.run_bind, h1, h2, Result.andThen_ok, Sem.run_pure]
  rw [Lib.cmp_eq]
  show Result.ok (Next.value (goInt (Lib.compareBytes (Lib.bytesOf _).toArray.toList (Lib.bytesOf _).toArray.toList))) W = _
  simp only [List.toList_toArray]
  rw [cmp_num xs ys bx by' hl]
  rfl
theorem compare40 (B1 c1 B2 c2 : Nat) (xs ys : List Nat) (hx : Adr xs) (hy : Adr ys) (W : World) (h1 : ∀ (j x : Nat), xs[j]? = some x → W.cell? ⟨B1, 0 + j, none⟩ = some (.int .u8 (x : Int))) (h2 : ∀ (j x : Nat), ys[j]? = some x → W.cell? ⟨B2, 0 + j, none⟩ = some (.int .u8 (x : Int))) :
    Calls Tryd.prog 40 #[.slice (some ⟨B1, 0, none⟩) 16 c1, .slice (some ⟨B2, 0, none⟩) 16 c2] W fun e w' => e = .returned (.int .i64 (cmpN (numA xs) (numA ys))) ∧ W = w' := by
  have r1 := run_bytes (c := c1) h1
  have r2 := run_bytes (c := c2) h2
  rw [hx.len] at r1
  rw [hy.len] at r2
  have hr := run_compare53 _ _ xs ys W hx.low hy.low (hx.len.trans hy.len.symm) r1 r2
  clear r1 r2 h1 h2 hx hy
  generalize cmpN (numA xs) (numA ys) = z at *
  go_enter Tryd.func40, Tryd.ntmps40
  go_wp2_with fail
  go_ret
  exact ⟨rfl, rfl⟩
end Go.Proofs.YthbkjhacnnoolaaDoor
