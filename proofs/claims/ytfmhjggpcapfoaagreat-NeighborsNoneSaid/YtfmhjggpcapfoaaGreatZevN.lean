/- Operations on whole numbers that are not below nought, as one reckons with natural numbers. No condition but the numbers' bounds. -/
import Derived.Test.YtfmhjggpcapfoaaGreatZev20
namespace Go.Proofs.YtfmhjggpcapfoaaGreatZev
open Go.RowKit
set_option linter.unusedVariables false
set_option linter.unusedSectionVars false

/-- how many numbers a kind without a sign has -/
def Wk : IntKind → Nat
  | .u8 => 256
  | .u16 => 65536
  | .u32 => 4294967296
  | _ => 18446744073709551616
def uns : IntKind → Bool
  | .u8 | .u16 | .u32 | .u64 => true
  | _ => false
theorem wrap_uns {k : IntKind} (h : uns k = true) (n : Nat) : k.wrap (n : Int) = ((n % Wk k : Nat) : Int) := by
  cases k <;> first
    | (simp [uns] at h; done)
    | (rw [show IntKind.wrap _ (n : Int) = (n : Int) % 256 from rfl]; simp only [Wk]; omega)
    | (rw [show IntKind.wrap _ (n : Int) = (n : Int) % 65536 from rfl]; simp only [Wk]; omega)
    | (rw [show IntKind.wrap _ (n : Int) = (n : Int) % 4294967296 from rfl]; simp only [Wk]; omega)
    | (rw [show IntKind.wrap _ (n : Int) = (n : Int) % 18446744073709551616 from rfl]; simp only [Wk]; omega)
theorem wrap_lt {k : IntKind} (h : uns k = true) {n : Nat} (hn : n < Wk k) : k.wrap (n : Int) = (n : Int) := by rw [wrap_uns h, Nat.mod_eq_of_lt hn]
theorem wrap_i64 {n : Nat} (hn : n < 9223372036854775808) : IntKind.wrap .i64 (n : Int) = (n : Int) := by
  rw [IntKind.wrap_i64]; omega
theorem ofInt_toNat (w : Nat) {n : Nat} (hn : n < 2 ^ w) : (BitVec.ofInt w (n : Int)).toNat = n := by
  rw [BitVec.toNat_ofInt]
  rw [← Int.natCast_emod, Int.toNat_natCast, Nat.mod_eq_of_lt hn]
theorem Wk_bits {k : IntKind} (h : uns k = true) : Wk k = 2 ^ k.bits := by cases k <;> first | (simp [uns] at h; done) | rfl

section
variable {t : TypeId} {k : IntKind} {a b c : Nat}
theorem nb_add (h : uns k = true) (hc : a + b < Wk k) : binOp .add t (.int k a) (.int k b) = pure (.int k ((a + b : Nat) : Int)) := by
  show (if k ≠ k then _ else Op.intArith .add k a b) = _
  rw [if_neg (fun h => h rfl)]
  show pure (Value.int k (k.wrap ((a : Int) + b))) = _
  rw [← Int.natCast_add, wrap_lt h hc]
theorem nb_addW (h : uns k = true) : binOp .add t (.int k a) (.int k b) = pure (.int k (((a + b) % Wk k : Nat) : Int)) := by
  show (if k ≠ k then _ else Op.intArith .add k a b) = _
  rw [if_neg (fun h => h rfl)]
  show pure (Value.int k (k.wrap ((a : Int) + b))) = _
  rw [← Int.natCast_add, wrap_uns h]
theorem nb_sub (h : uns k = true) (hc : b ≤ a) (hw : a < Wk k) : binOp .sub t (.int k a) (.int k b) = pure (.int k ((a - b : Nat) : Int)) := by
  show (if k ≠ k then _ else Op.intArith .sub k a b) = _
  rw [if_neg (fun h => h rfl)]
  show pure (Value.int k (k.wrap ((a : Int) - b))) = _
  rw [← Int.natCast_sub hc, wrap_lt h (by omega)]
theorem nb_mul (h : uns k = true) (hc : a * b < Wk k) : binOp .mul t (.int k a) (.int k b) = pure (.int k ((a * b : Nat) : Int)) := by
  show (if k ≠ k then _ else Op.intArith .mul k a b) = _
  rw [if_neg (fun h => h rfl)]
  show pure (Value.int k (k.wrap ((a : Int) * b))) = _
  rw [← Int.natCast_mul, wrap_lt h hc]
theorem nb_and (h : uns k = true) (ha : a < Wk k) (hb : b < Wk k) : binOp .and t (.int k a) (.int k b) = pure (.int k ((a &&& b : Nat) : Int)) := by
  show (if k ≠ k then _ else Op.intBits .and k a b) = _
  rw [if_neg (fun h => h rfl)]
  show pure (Value.int k (k.wrap ((BitVec.ofInt k.bits (a : Int) &&& BitVec.ofInt k.bits (b : Int)).toNat : Nat))) = _
  rw [BitVec.toNat_and, ofInt_toNat _ (by rw [← Wk_bits h]; exact ha), ofInt_toNat _ (by rw [← Wk_bits h]; exact hb), wrap_lt h (Nat.lt_of_le_of_lt Nat.and_le_left ha)]
theorem nb_mask (j : Nat) (h : uns k = true) (ha : a < Wk k) (hb : b < Wk k) (hj : b + 1 = 2 ^ j) : binOp .and t (.int k a) (.int k b) = pure (.int k ((a % 2 ^ j : Nat) : Int)) := by
  rw [nb_and h ha hb, show b = 2 ^ j - 1 from by omega, Nat.and_two_pow_sub_one_eq_mod]
theorem nb_or (h : uns k = true) (ha : a < Wk k) (hb : b < Wk k) : binOp .or t (.int k a) (.int k b) = pure (.int k ((a ||| b : Nat) : Int)) := by
  show (if k ≠ k then _ else Op.intBits .or k a b) = _
  rw [if_neg (fun h => h rfl)]
  show pure (Value.int k (k.wrap ((BitVec.ofInt k.bits (a : Int) ||| BitVec.ofInt k.bits (b : Int)).toNat : Nat))) = _
  rw [BitVec.toNat_or, ofInt_toNat _ (by rw [← Wk_bits h]; exact ha), ofInt_toNat _ (by rw [← Wk_bits h]; exact hb), wrap_lt h (by rw [Wk_bits h] at *; exact Nat.or_lt_two_pow ha hb)]
/-- a power of two above all the other's bits -/
theorem nb_orP (j : Nat) (h : uns k = true) (ha : a < 2 ^ j) (hj : b = 2 ^ j) (hb : a + b < Wk k) : binOp .or t (.int k a) (.int k b) = pure (.int k ((a + b : Nat) : Int)) := by
  have e : a ||| b = a + b := by
    have := Nat.two_pow_add_eq_or_of_lt ha 1
    rw [Nat.mul_one] at this
    rw [hj, Nat.or_comm, ← this, Nat.add_comm]
  rw [nb_or h (by omega) (by omega), e]
theorem nb_shl {k2 : IntKind} (h : uns k = true) (hb : b ≤ k.bits) (hc : a * 2 ^ b < Wk k) : binOp .shl t (.int k a) (.int k2 b) = pure (.int k ((a * 2 ^ b : Nat) : Int)) := by
  show Op.shift .shl k a k2 b = _
  unfold Op.shift
  rw [if_neg (by omega)]
  show pure (Value.int k (k.wrap ((a : Int) * 2 ^ (min (b : Int).toNat k.bits)))) = _
  rw [Int.toNat_natCast, Nat.min_eq_left hb, show (a : Int) * 2 ^ b = ((a * 2 ^ b : Nat) : Int) from by push_cast; rfl, wrap_lt h hc]
theorem nb_shr {k2 : IntKind} (hb : b ≤ k.bits) : binOp .shr t (.int k a) (.int k2 b) = pure (.int k ((a / 2 ^ b : Nat) : Int)) := by
  show Op.shift .shr k a k2 b = _
  unfold Op.shift
  rw [if_neg (by omega)]
  show pure (Value.int k ((a : Int).fdiv (2 ^ (min (b : Int).toNat k.bits)))) = _
  rw [Int.toNat_natCast, Nat.min_eq_left hb]
  congr 2
  rw [show (2 : Int) ^ b = ((2 ^ b : Nat) : Int) from by push_cast; rfl, Int.fdiv_eq_ediv_of_nonneg _ (Int.natCast_nonneg _)]
  exact (Int.natCast_ediv _ _).symm
theorem nb_quo (h : uns k = true) (h0 : b ≠ 0) (ha : a < Wk k) : binOp .quo t (.int k a) (.int k b) = pure (.int k ((a / b : Nat) : Int)) := by
  show (if k ≠ k then _ else Op.intDiv .quo k a b) = _
  rw [if_neg (fun h => h rfl)]
  unfold Op.intDiv
  rw [if_neg (by omega)]
  show pure (Value.int k (k.wrap ((a : Int).tdiv b))) = _
  rw [← Int.ofNat_tdiv, wrap_lt h (Nat.lt_of_le_of_lt (Nat.div_le_self _ _) ha)]
theorem nb_rem (h0 : b ≠ 0) : binOp .rem t (.int k a) (.int k b) = pure (.int k ((a % b : Nat) : Int)) := by
  show (if k ≠ k then _ else Op.intDiv .rem k a b) = _
  rw [if_neg (fun h => h rfl)]
  unfold Op.intDiv
  rw [if_neg (by omega)]
  show pure (Value.int k ((a : Int).tmod b)) = _
  rw [← Int.ofNat_tmod]
theorem nb_lss : binOp .lss t (.int k a) (.int k b) = pure (.bool (decide (a < b))) := by
  show (if k ≠ k then _ else Op.intCmp .lss a b) = _
  rw [if_neg (fun h => h rfl)]
  show pure (Value.bool (decide ((a : Int) < b))) = _
  congr 2; simp
theorem nb_leq : binOp .leq t (.int k a) (.int k b) = pure (.bool (decide (a ≤ b))) := by
  show (if k ≠ k then _ else Op.intCmp .leq a b) = _
  rw [if_neg (fun h => h rfl)]
  show pure (Value.bool (decide ((a : Int) ≤ b))) = _
  congr 2; simp
theorem nb_gtr : binOp .gtr t (.int k a) (.int k b) = pure (.bool (decide (b < a))) := by
  show (if k ≠ k then _ else Op.intCmp .gtr a b) = _
  rw [if_neg (fun h => h rfl)]
  show pure (Value.bool (decide ((a : Int) > b))) = _
  congr 2; simp
theorem nb_geq : binOp .geq t (.int k a) (.int k b) = pure (.bool (decide (b ≤ a))) := by
  show (if k ≠ k then _ else Op.intCmp .geq a b) = _
  rw [if_neg (fun h => h rfl)]
  show pure (Value.bool (decide ((a : Int) ≥ b))) = _
  congr 2; simp
theorem nb_eql : binOp .eql t (.int k a) (.int k b) = pure (.bool (decide (a = b))) := by
  show (if k ≠ k then _ else Op.intCmp .eql a b) = _
  rw [if_neg (fun h => h rfl)]
  show pure (Value.bool ((a : Int) == b)) = _
  congr 2
  rw [Bool.eq_iff_iff]; simp; omega
theorem nb_neq : binOp .neq t (.int k a) (.int k b) = pure (.bool (!decide (a = b))) := by
  show (if k ≠ k then _ else Op.intCmp .neq a b) = _
  rw [if_neg (fun h => h rfl)]
  show pure (Value.bool ((a : Int) != b)) = _
  congr 2
  rw [Bool.eq_iff_iff]; simp; omega
end

section
variable [Sym] {P : Program}
theorem hb_of {op : BinOp} {t : TypeId} {x y : Value} {i : Nat} {u v r : Value} (hx : realV x = u) (hy : realV y = v) (hi : Sym.val i = r) (p1 : plainV u = true) (p2 : plainV v = true) (p3 : r.oneCell' = true) (h : binOp op t u v = pure r) : Ob.Holds P (.bin op t x y i) := by
  subst hx; subst hy; subst hi
  exact holds_bin p1 p2 p3 h
theorem hc_of {s d : TypeId} {x : Value} {i : Nat} {k k0 : IntKind} {n m : Nat} {ds : TypeDesc} (hs : P.underlying s = some ds) (hd : P.underlying d = some (.int k)) (hx : realV x = .int k0 n) (hi : Sym.val i = .int k m) (hw : k.wrap (n : Int) = (m : Int)) : Ob.Holds P (.conv s d x i) :=
  holds_conv hs hd hx (by rw [hi, hw])
theorem hmin_of {ts : Array TypeId} {ty : TypeId} {fixed : Array Bool} {x y : Value} {i : Nat} {k : IntKind} {a b : Nat} (hx : realV x = .int k a) (hy : realV y = .int k b) (hi : Sym.val i = .int k ((min a b : Nat) : Int)) : Ob.Holds P (.built .min ts ty fixed [x, y] i) := by
  refine ⟨by rw [hi]; rfl, fun w => ?_⟩
  rw [hi]
  have hl : [x, y].map realV = [.int k a, .int k b] := by simp [hx, hy]
  rw [hl]
  have h1 := (minL_run (P := P) (β := []) (l := [.int k a, .int k b]) (v := .int k ((min a b : Nat) : Int)) (by simp [minL, minG]; split <;> omega) w ts ty #[.int k a, .int k b] rfl).1
  show (do pure (.value (← Builtin.min_ ts ty #[.int k a, .int k b])) : Sem Next).run P w = _
  simp [h1]
theorem hmax_of {ts : Array TypeId} {ty : TypeId} {fixed : Array Bool} {x y : Value} {i : Nat} {k : IntKind} {a b : Nat} (hx : realV x = .int k a) (hy : realV y = .int k b) (hi : Sym.val i = .int k ((max a b : Nat) : Int)) : Ob.Holds P (.built .max ts ty fixed [x, y] i) := by
  refine ⟨by rw [hi]; rfl, fun w => ?_⟩
  rw [hi]
  have hl : [x, y].map realV = [.int k a, .int k b] := by simp [hx, hy]
  rw [hl]
  have h1 := (maxL_run (P := P) (β := []) (l := [.int k a, .int k b]) (v := .int k ((max a b : Nat) : Int)) (by simp [minL, minG]; split <;> omega) w ts ty #[.int k a, .int k b] rfl).1
  show (do pure (.value (← Builtin.max_ ts ty #[.int k a, .int k b])) : Sem Next).run P w = _
  simp [h1]
theorem hnot_of {x : Value} {i : Nat} {p : Bool} (hx : realV x = .bool p) (hi : Sym.val i = .bool (!p)) : Ob.Holds P (.un .not x i) := by
  refine ⟨by rw [hi]; rfl, fun w => ?_⟩
  rw [hx, hi]; rfl
theorem his_of {i : Nat} {p b : Bool} (hi : Sym.val i = .bool p) (h : p = b) : Ob.Holds P (.is i b) := by
  subst h; exact hi
end
section
variable [Sym] [Kin] {β : Env}
theorem symOk_int {i : Nat} {k : IntKind} {z : Int} (h : Sym.val i = .int k z) (hk : Kin.kind i = some k) : SymOk i := ⟨by rw [h]; rfl, fun k' h' => by rw [hk] at h'; cases h'; exact ⟨z, h⟩⟩
theorem symOk_none {i : Nat} {v : Value} (h : Sym.val i = v) (h1 : v.oneCell' = true) (hk : Kin.kind i = none) : SymOk i := ⟨by rw [h]; exact h1, fun k' h' => by rw [hk] at h'; cases h'⟩
theorem vr_int {i : Nat} {k : IntKind} {z : Int} (h : Sym.val i = .int k z) (hk : Kin.kind i = some k) : VR β (.chan (some i)) (.int k z) := .sym i h.symm rfl (symOk_int h hk)
theorem vr_any {i : Nat} {v : Value} (h : Sym.val i = v) (h1 : v.oneCell' = true) (hk : Kin.kind i = none) : VR β (.chan (some i)) v := .sym i h.symm h1 (symOk_none h h1 hk)
end
end Go.Proofs.YtfmhjggpcapfoaaGreatZev
