/- The path of FragsMany, reckoned with symbols for what comes in. No condition. -/
import Derived.Test.YtjldcblklbikaaaLives
import Derived.Test.YtjldcblklbikaaaZev20
namespace Go.Proofs.Ytjldcblklbikaaa
open Go.RowKit Go.Proofs.YtjldcblklbikaaaZev
set_option linter.unusedVariables false
set_option maxRecDepth 20000
theorem linW {n m : Int} (h0 : 0 ≤ n) (h1 : n < 18446744073709551616) (e : n = m) : IntKind.wrap .u64 n = m := by
  have h2 : IntKind.wrap .u64 n = n % 18446744073709551616 := rfl
  rw [h2]; omega
theorem eqT {a b : Int} (h : a = b) : (a == b) = true := by simp [h]
theorem eqF {a b : Int} (h : a ≠ b) : (a == b) = false := by simp [h]
theorem neF {a b : Int} (h : a = b) : (a != b) = false := by simp [h]
theorem neT {a b : Int} (h : a ≠ b) : (a != b) = true := by simp [h]
theorem holds_min [Sym] {P : Program} {ts : Array TypeId} {ty : TypeId} {fixed : Array Bool} {l : List Value} {i : Nat} {k : IntKind} {a b c : Int} (hl : l.map realV = [.int k a, .int k b]) (hi : Sym.val i = .int k c) (hc : (if b < a then b else a) = c) :
    Ob.Holds P (.built .min ts ty fixed l i) := by
  refine ⟨by rw [hi]; rfl, fun w => ?_⟩
  rw [hl, hi]
  have h1 := (minL_run (P := P) (β := []) (l := [.int k a, .int k b]) (v := .int k c) (by simp [minL, minG, hc]) w ts ty #[.int k a, .int k b] rfl).1
  show (do pure (.value (← Builtin.min_ ts ty #[.int k a, .int k b])) : Sem Next).run P w = _
  simp [h1]
def hintsFragsMany : List Hint := [.dirty [], .dec false, .dec false, .dirty [2], .dirty [16], .dirty [], .dirty [], .dec false, .dec false, .dirty [18, 2], .dirty [40], .dirty [], .dirty [], .dirty [], .dec false, .dec false, .dirty [42, 2], .dirty [64], .dirty [], .dirty [], .dirty [], .dirty [], .dec false, .dec false, .dirty [66, 2], .dirty [88], .dirty [], .dirty [], .dirty [], .dirty [], .dirty [], .dec false, .dirty [], .dec false, .dirty [112], .dirty [], .dec false, .dirty [], .dec true, .dirty [], .dec true, .dirty [], .dirty [], .dec false, .dirty [], .dec false, .dirty [], .dec false, .dirty [], .dec false, .dirty [], .dec false, .dirty [], .dec false, .dirty [], .dec false, .dirty [], .dec false, .dirty [], .dirty [], .dirty [], .dec false, .dec false, .dirty [90, 2], .dirty [128], .dec true, .dirty [], .dirty [144], .dirty [156], .dirty [], .dirty [], .dirty [], .dirty [], .dirty [], .dirty [], .dirty [], .dirty [], .dirty [], .dirty [163, 156], .dirty [], .dirty [], .dirty [], .dirty [205], .dirty [], .dirty [], .dirty [], .dirty [], .dirty [], .dirty [], .dirty [], .dirty [], .dirty [], .dirty [], .dirty [], .dirty [], .dirty [], .dirty [158, 144], .dirty [229], .dirty [], .dirty [], .dirty [], .dirty [], .dirty [], .dirty [], .dirty [], .dirty [], .dirty []]
def obsFragsMany : List Ob := [.is 85 true, .bin .eql 34 (.chan (some 82)) (.chan (some 84)) 85, .bin .add 34 (.chan (some 83)) (.int .u64 60002) 84, .conv 37 34 (.chan (some 0)) 83, .built .min #[34, 34] 34 #[false, false] [(.chan (some 81)), (.chan (some 79))] 82, .built .min #[34, 34] 34 #[false, false] [(.chan (some 80)), (.chan (some 36))] 81, .built .min #[34, 34] 34 #[false, false] [(.int .u64 9223372036854775807), (.chan (some 29))] 80, .bin .add 34 (.chan (some 74)) (.int .u64 60000) 79, .is 77 false, .bin .gtr 34 (.chan (some 74)) (.int .u64 9223372036854715807) 77, .is 75 false, .bin .gtr 34 (.chan (some 74)) (.int .u64 9223372036854775807) 75, .bin .add 34 (.chan (some 73)) (.int .u64 5) 74, .conv 37 34 (.chan (some 0)) 73, .is 71 false, .bin .neq 5 (.chan (some 8)) (.chan (some 8)) 71, .is 69 false, .bin .neq 5 (.chan (some 7)) (.chan (some 7)) 69, .is 67 false, .bin .neq 5 (.chan (some 6)) (.chan (some 6)) 67, .is 65 false, .bin .neq 5 (.chan (some 5)) (.chan (some 5)) 65, .is 63 false, .bin .neq 5 (.chan (some 4)) (.chan (some 4)) 63, .is 61 false, .bin .neq 5 (.chan (some 3)) (.chan (some 3)) 61, .is 59 false, .bin .neq 5 (.chan (some 2)) (.chan (some 2)) 59, .is 57 false, .bin .neq 5 (.chan (some 1)) (.chan (some 1)) 57, .is 55 true, .bin .gtr 34 (.chan (some 36)) (.chan (some 48)) 55, .is 53 true, .bin .gtr 34 (.chan (some 29)) (.chan (some 48)) 53, .is 51 false, .bin .gtr 34 (.chan (some 22)) (.chan (some 48)) 51, .is 49 false, .bin .gtr 34 (.chan (some 15)) (.chan (some 48)) 49, .bin .add 34 (.chan (some 47)) (.int .u64 60001) 48, .conv 37 34 (.chan (some 0)) 47, .is 45 false, .bin .neq 34 (.chan (some 42)) (.chan (some 44)) 45, .bin .add 34 (.chan (some 43)) (.int .u64 60000) 44, .conv 37 34 (.chan (some 0)) 43, .built .min #[34, 34] 34 #[false, false] [(.chan (some 41)), (.chan (some 36))] 42, .built .min #[34, 34] 34 #[false, false] [(.chan (some 40)), (.chan (some 29))] 41, .built .min #[34, 34] 34 #[false, false] [(.chan (some 39)), (.chan (some 22))] 40, .built .min #[34, 34] 34 #[false, false] [(.int .u64 9223372036854775807), (.chan (some 15))] 39, .bin .add 34 (.chan (some 37)) (.int .u64 4) 38, .conv 37 34 (.chan (some 0)) 37, .bin .add 34 (.chan (some 31)) (.int .u64 60000) 36, .is 34 false, .bin .gtr 34 (.chan (some 31)) (.int .u64 9223372036854715807) 34, .is 32 false, .bin .gtr 34 (.chan (some 31)) (.int .u64 9223372036854775807) 32, .bin .add 34 (.chan (some 30)) (.int .u64 3) 31, .conv 37 34 (.chan (some 0)) 30, .bin .add 34 (.chan (some 24)) (.int .u64 60000) 29, .is 27 false, .bin .gtr 34 (.chan (some 24)) (.int .u64 9223372036854715807) 27, .is 25 false, .bin .gtr 34 (.chan (some 24)) (.int .u64 9223372036854775807) 25, .bin .add 34 (.chan (some 23)) (.int .u64 2) 24, .conv 37 34 (.chan (some 0)) 23, .bin .add 34 (.chan (some 17)) (.int .u64 60000) 22, .is 20 false, .bin .gtr 34 (.chan (some 17)) (.int .u64 9223372036854715807) 20, .is 18 false, .bin .gtr 34 (.chan (some 17)) (.int .u64 9223372036854775807) 18, .bin .add 34 (.chan (some 16)) (.int .u64 1) 17, .conv 37 34 (.chan (some 0)) 16, .bin .add 34 (.chan (some 10)) (.int .u64 60000) 15, .is 13 false, .bin .gtr 34 (.chan (some 10)) (.int .u64 9223372036854715807) 13, .is 11 false, .bin .gtr 34 (.chan (some 10)) (.int .u64 9223372036854775807) 11, .bin .add 34 (.chan (some 9)) (.int .u64 0) 10, .conv 37 34 (.chan (some 0)) 9, .test true true, .test true true, .test true true, .test true true, .test true true, .test true true, .test true true, .test true true, .test true true]
theorem runFragsMany : taken (ev Try.prog (some lives) (fun _ => false) 4000 (.call 7 [.chan (some 0), .agg #[.chan (some 1), .chan (some 2), .chan (some 3), .chan (some 4), .chan (some 5), .chan (some 6), .chan (some 7), .chan (some 8)]]) ⟨[], [none], hintsFragsMany, List.replicate 9 (.test true true)⟩) = some obsFragsMany := by kernel_rfl
def tabFragsMany (x0 : Int) (x1 : Int) (x2 : Int) (x3 : Int) (x4 : Int) (x5 : Int) (x6 : Int) (x7 : Int) (x8 : Int) : List Value := [.int .u32 x0, .int .u8 x1, .int .u8 x2, .int .u8 x3, .int .u8 x4, .int .u8 x5, .int .u8 x6, .int .u8 x7, .int .u8 x8, .int .u64 (x0 + 0), .int .u64 (x0 + 0), .bool (decide ((x0 + 0) > (9223372036854775807 : Int))), undef, .bool (decide ((x0 + 0) > (9223372036854715807 : Int))), undef, .int .u64 (x0 + 60000), .int .u64 (x0 + 0), .int .u64 (x0 + 1), .bool (decide ((x0 + 1) > (9223372036854775807 : Int))), undef, .bool (decide ((x0 + 1) > (9223372036854715807 : Int))), undef, .int .u64 (x0 + 60001), .int .u64 (x0 + 0), .int .u64 (x0 + 2), .bool (decide ((x0 + 2) > (9223372036854775807 : Int))), undef, .bool (decide ((x0 + 2) > (9223372036854715807 : Int))), undef, .int .u64 (x0 + 60002), .int .u64 (x0 + 0), .int .u64 (x0 + 3), .bool (decide ((x0 + 3) > (9223372036854775807 : Int))), undef, .bool (decide ((x0 + 3) > (9223372036854715807 : Int))), undef, .int .u64 (x0 + 60003), .int .u64 (x0 + 0), .int .u64 (x0 + 4), .int .u64 (x0 + 60000), .int .u64 (x0 + 60000), .int .u64 (x0 + 60000), .int .u64 (x0 + 60000), .int .u64 (x0 + 0), .int .u64 (x0 + 60000), .bool ((x0 + 60000) != (x0 + 60000)), undef, .int .u64 (x0 + 0), .int .u64 (x0 + 60001), .bool (decide ((x0 + 60000) > (x0 + 60001))), undef, .bool (decide ((x0 + 60001) > (x0 + 60001))), undef, .bool (decide ((x0 + 60002) > (x0 + 60001))), undef, .bool (decide ((x0 + 60003) > (x0 + 60001))), undef, .bool (x1 != x1), undef, .bool (x2 != x2), undef, .bool (x3 != x3), undef, .bool (x4 != x4), undef, .bool (x5 != x5), undef, .bool (x6 != x6), undef, .bool (x7 != x7), undef, .bool (x8 != x8), undef, .int .u64 (x0 + 0), .int .u64 (x0 + 5), .bool (decide ((x0 + 5) > (9223372036854775807 : Int))), undef, .bool (decide ((x0 + 5) > (9223372036854715807 : Int))), undef, .int .u64 (x0 + 60005), .int .u64 (x0 + 60002), .int .u64 (x0 + 60002), .int .u64 (x0 + 60002), .int .u64 (x0 + 0), .int .u64 (x0 + 60002), .bool ((x0 + 60002) == (x0 + 60002))]
theorem pathFragsMany (x0 : Int) (x1 : Int) (x2 : Int) (x3 : Int) (x4 : Int) (x5 : Int) (x6 : Int) (x7 : Int) (x8 : Int) (hlo : 0 ≤ x0) (hhi : x0 < 4294967296) (w : World) : Calls Try.prog 7 #[.int .u32 x0, .agg #[.int .u8 x1, .int .u8 x2, .int .u8 x3, .int .u8 x4, .int .u8 x5, .int .u8 x6, .int .u8 x7, .int .u8 x8]] w fun e w' => e = .returned (.bool true) ∧ Below w.heap.size w w' := by
  letI : Sym := ⟨fun i => (tabFragsMany x0 x1 x2 x3 x4 x5 x6 x7 x8).getD i undef⟩
  refine calls_of_taken knows noNum mixed runFragsMany ?_ w (M.dead w _ 1) ?_
  · unfold obsFragsMany
    refine obsCons (show Sym.val 85 = _ from congrArg Value.bool (eqT (by omega))) ?_
    refine obsCons (holds_bin rfl rfl rfl rfl) ?_
    refine obsCons (holds_bin rfl rfl rfl (congrArg (fun z => (pure (Value.int .u64 z) : Sem Value)) (@linW ((x0 + 0) + (60002 : Int)) (x0 + 60002) (by omega) (by omega) (by omega)))) ?_
    refine obsCons (holds_conv Try.underlying37 Try.underlying34 rfl (congrArg (Value.int .u64) (@linW x0 (x0 + 0) (by omega) (by omega) (by omega)).symm)) ?_
    refine obsCons (holds_min (a := (x0 + 60002)) (b := (x0 + 60005)) (c := (x0 + 60002)) (k := .u64) rfl rfl (by split <;> omega)) ?_
    refine obsCons (holds_min (a := (x0 + 60002)) (b := (x0 + 60003)) (c := (x0 + 60002)) (k := .u64) rfl rfl (by split <;> omega)) ?_
    refine obsCons (holds_min (a := (9223372036854775807 : Int)) (b := (x0 + 60002)) (c := (x0 + 60002)) (k := .u64) rfl rfl (by split <;> omega)) ?_
    refine obsCons (holds_bin rfl rfl rfl (congrArg (fun z => (pure (Value.int .u64 z) : Sem Value)) (@linW ((x0 + 5) + (60000 : Int)) (x0 + 60005) (by omega) (by omega) (by omega)))) ?_
    refine obsCons (show Sym.val 77 = _ from congrArg Value.bool (decide_eq_false (by omega))) ?_
    refine obsCons (holds_bin rfl rfl rfl rfl) ?_
    refine obsCons (show Sym.val 75 = _ from congrArg Value.bool (decide_eq_false (by omega))) ?_
    refine obsCons (holds_bin rfl rfl rfl rfl) ?_
    refine obsCons (holds_bin rfl rfl rfl (congrArg (fun z => (pure (Value.int .u64 z) : Sem Value)) (@linW ((x0 + 0) + (5 : Int)) (x0 + 5) (by omega) (by omega) (by omega)))) ?_
    refine obsCons (holds_conv Try.underlying37 Try.underlying34 rfl (congrArg (Value.int .u64) (@linW x0 (x0 + 0) (by omega) (by omega) (by omega)).symm)) ?_
    refine obsCons (show Sym.val 71 = _ from congrArg Value.bool (neF (by omega))) ?_
    refine obsCons (holds_bin rfl rfl rfl rfl) ?_
    refine obsCons (show Sym.val 69 = _ from congrArg Value.bool (neF (by omega))) ?_
    refine obsCons (holds_bin rfl rfl rfl rfl) ?_
    refine obsCons (show Sym.val 67 = _ from congrArg Value.bool (neF (by omega))) ?_
    refine obsCons (holds_bin rfl rfl rfl rfl) ?_
    refine obsCons (show Sym.val 65 = _ from congrArg Value.bool (neF (by omega))) ?_
    refine obsCons (holds_bin rfl rfl rfl rfl) ?_
    refine obsCons (show Sym.val 63 = _ from congrArg Value.bool (neF (by omega))) ?_
    refine obsCons (holds_bin rfl rfl rfl rfl) ?_
    refine obsCons (show Sym.val 61 = _ from congrArg Value.bool (neF (by omega))) ?_
    refine obsCons (holds_bin rfl rfl rfl rfl) ?_
    refine obsCons (show Sym.val 59 = _ from congrArg Value.bool (neF (by omega))) ?_
    refine obsCons (holds_bin rfl rfl rfl rfl) ?_
    refine obsCons (show Sym.val 57 = _ from congrArg Value.bool (neF (by omega))) ?_
    refine obsCons (holds_bin rfl rfl rfl rfl) ?_
    refine obsCons (show Sym.val 55 = _ from congrArg Value.bool (decide_eq_true (by omega))) ?_
    refine obsCons (holds_bin rfl rfl rfl rfl) ?_
    refine obsCons (show Sym.val 53 = _ from congrArg Value.bool (decide_eq_true (by omega))) ?_
    refine obsCons (holds_bin rfl rfl rfl rfl) ?_
    refine obsCons (show Sym.val 51 = _ from congrArg Value.bool (decide_eq_false (by omega))) ?_
    refine obsCons (holds_bin rfl rfl rfl rfl) ?_
    refine obsCons (show Sym.val 49 = _ from congrArg Value.bool (decide_eq_false (by omega))) ?_
    refine obsCons (holds_bin rfl rfl rfl rfl) ?_
    refine obsCons (holds_bin rfl rfl rfl (congrArg (fun z => (pure (Value.int .u64 z) : Sem Value)) (@linW ((x0 + 0) + (60001 : Int)) (x0 + 60001) (by omega) (by omega) (by omega)))) ?_
    refine obsCons (holds_conv Try.underlying37 Try.underlying34 rfl (congrArg (Value.int .u64) (@linW x0 (x0 + 0) (by omega) (by omega) (by omega)).symm)) ?_
    refine obsCons (show Sym.val 45 = _ from congrArg Value.bool (neF (by omega))) ?_
    refine obsCons (holds_bin rfl rfl rfl rfl) ?_
    refine obsCons (holds_bin rfl rfl rfl (congrArg (fun z => (pure (Value.int .u64 z) : Sem Value)) (@linW ((x0 + 0) + (60000 : Int)) (x0 + 60000) (by omega) (by omega) (by omega)))) ?_
    refine obsCons (holds_conv Try.underlying37 Try.underlying34 rfl (congrArg (Value.int .u64) (@linW x0 (x0 + 0) (by omega) (by omega) (by omega)).symm)) ?_
    refine obsCons (holds_min (a := (x0 + 60000)) (b := (x0 + 60003)) (c := (x0 + 60000)) (k := .u64) rfl rfl (by split <;> omega)) ?_
    refine obsCons (holds_min (a := (x0 + 60000)) (b := (x0 + 60002)) (c := (x0 + 60000)) (k := .u64) rfl rfl (by split <;> omega)) ?_
    refine obsCons (holds_min (a := (x0 + 60000)) (b := (x0 + 60001)) (c := (x0 + 60000)) (k := .u64) rfl rfl (by split <;> omega)) ?_
    refine obsCons (holds_min (a := (9223372036854775807 : Int)) (b := (x0 + 60000)) (c := (x0 + 60000)) (k := .u64) rfl rfl (by split <;> omega)) ?_
    refine obsCons (holds_bin rfl rfl rfl (congrArg (fun z => (pure (Value.int .u64 z) : Sem Value)) (@linW ((x0 + 0) + (4 : Int)) (x0 + 4) (by omega) (by omega) (by omega)))) ?_
    refine obsCons (holds_conv Try.underlying37 Try.underlying34 rfl (congrArg (Value.int .u64) (@linW x0 (x0 + 0) (by omega) (by omega) (by omega)).symm)) ?_
    refine obsCons (holds_bin rfl rfl rfl (congrArg (fun z => (pure (Value.int .u64 z) : Sem Value)) (@linW ((x0 + 3) + (60000 : Int)) (x0 + 60003) (by omega) (by omega) (by omega)))) ?_
    refine obsCons (show Sym.val 34 = _ from congrArg Value.bool (decide_eq_false (by omega))) ?_
    refine obsCons (holds_bin rfl rfl rfl rfl) ?_
    refine obsCons (show Sym.val 32 = _ from congrArg Value.bool (decide_eq_false (by omega))) ?_
    refine obsCons (holds_bin rfl rfl rfl rfl) ?_
    refine obsCons (holds_bin rfl rfl rfl (congrArg (fun z => (pure (Value.int .u64 z) : Sem Value)) (@linW ((x0 + 0) + (3 : Int)) (x0 + 3) (by omega) (by omega) (by omega)))) ?_
    refine obsCons (holds_conv Try.underlying37 Try.underlying34 rfl (congrArg (Value.int .u64) (@linW x0 (x0 + 0) (by omega) (by omega) (by omega)).symm)) ?_
    refine obsCons (holds_bin rfl rfl rfl (congrArg (fun z => (pure (Value.int .u64 z) : Sem Value)) (@linW ((x0 + 2) + (60000 : Int)) (x0 + 60002) (by omega) (by omega) (by omega)))) ?_
    refine obsCons (show Sym.val 27 = _ from congrArg Value.bool (decide_eq_false (by omega))) ?_
    refine obsCons (holds_bin rfl rfl rfl rfl) ?_
    refine obsCons (show Sym.val 25 = _ from congrArg Value.bool (decide_eq_false (by omega))) ?_
    refine obsCons (holds_bin rfl rfl rfl rfl) ?_
    refine obsCons (holds_bin rfl rfl rfl (congrArg (fun z => (pure (Value.int .u64 z) : Sem Value)) (@linW ((x0 + 0) + (2 : Int)) (x0 + 2) (by omega) (by omega) (by omega)))) ?_
    refine obsCons (holds_conv Try.underlying37 Try.underlying34 rfl (congrArg (Value.int .u64) (@linW x0 (x0 + 0) (by omega) (by omega) (by omega)).symm)) ?_
    refine obsCons (holds_bin rfl rfl rfl (congrArg (fun z => (pure (Value.int .u64 z) : Sem Value)) (@linW ((x0 + 1) + (60000 : Int)) (x0 + 60001) (by omega) (by omega) (by omega)))) ?_
    refine obsCons (show Sym.val 20 = _ from congrArg Value.bool (decide_eq_false (by omega))) ?_
    refine obsCons (holds_bin rfl rfl rfl rfl) ?_
    refine obsCons (show Sym.val 18 = _ from congrArg Value.bool (decide_eq_false (by omega))) ?_
    refine obsCons (holds_bin rfl rfl rfl rfl) ?_
    refine obsCons (holds_bin rfl rfl rfl (congrArg (fun z => (pure (Value.int .u64 z) : Sem Value)) (@linW ((x0 + 0) + (1 : Int)) (x0 + 1) (by omega) (by omega) (by omega)))) ?_
    refine obsCons (holds_conv Try.underlying37 Try.underlying34 rfl (congrArg (Value.int .u64) (@linW x0 (x0 + 0) (by omega) (by omega) (by omega)).symm)) ?_
    refine obsCons (holds_bin rfl rfl rfl (congrArg (fun z => (pure (Value.int .u64 z) : Sem Value)) (@linW ((x0 + 0) + (60000 : Int)) (x0 + 60000) (by omega) (by omega) (by omega)))) ?_
    refine obsCons (show Sym.val 13 = _ from congrArg Value.bool (decide_eq_false (by omega))) ?_
    refine obsCons (holds_bin rfl rfl rfl rfl) ?_
    refine obsCons (show Sym.val 11 = _ from congrArg Value.bool (decide_eq_false (by omega))) ?_
    refine obsCons (holds_bin rfl rfl rfl rfl) ?_
    refine obsCons (holds_bin rfl rfl rfl (congrArg (fun z => (pure (Value.int .u64 z) : Sem Value)) (@linW ((x0 + 0) + (0 : Int)) (x0 + 0) (by omega) (by omega) (by omega)))) ?_
    refine obsCons (holds_conv Try.underlying37 Try.underlying34 rfl (congrArg (Value.int .u64) (@linW x0 (x0 + 0) (by omega) (by omega) (by omega)).symm)) ?_
    refine obsCons (show true = true from rfl) ?_
    refine obsCons (show true = true from rfl) ?_
    refine obsCons (show true = true from rfl) ?_
    refine obsCons (show true = true from rfl) ?_
    refine obsCons (show true = true from rfl) ?_
    refine obsCons (show true = true from rfl) ?_
    refine obsCons (show true = true from rfl) ?_
    refine obsCons (show true = true from rfl) ?_
    refine obsCons (show true = true from rfl) ?_
    exact obsNil
  · exact (LsR.cons' (.sym 0 rfl rfl) (LsR.cons' (vr_agg_list (LsR.cons' (.sym 1 rfl rfl) (LsR.cons' (.sym 2 rfl rfl) (LsR.cons' (.sym 3 rfl rfl) (LsR.cons' (.sym 4 rfl rfl) (LsR.cons' (.sym 5 rfl rfl) (LsR.cons' (.sym 6 rfl rfl) (LsR.cons' (.sym 7 rfl rfl) (LsR.cons' (.sym 8 rfl rfl) (LsR.nil _)))))))))) (LsR.nil _)))
def leavesFragsMany1 : List Lf := [.int .u8, .int .u8, .int .u8, .int .u8, .int .u8, .int .u8, .int .u8, .int .u8]
theorem fragsMany_walk {v0 : Value} (hc0 : CellIs (.int .u32) v0) {cs1 : List Value} (hc1 : CellsAre leavesFragsMany1 cs1) (w : World) : Calls Try.prog 7 #[v0, .agg cs1.toArray] w fun e w' => e = .returned (.bool true) ∧ Below w.heap.size w w' := by
  have h0 := hc0
  obtain ⟨x0, rfl, w0⟩ := h0
  unfold leavesFragsMany1 at hc1
  obtain ⟨y1, r1, rfl, h1, hc1⟩ := hc1
  obtain ⟨x1, rfl, w1⟩ := h1
  obtain ⟨y2, r2, rfl, h2, hc1⟩ := hc1
  obtain ⟨x2, rfl, w2⟩ := h2
  obtain ⟨y3, r3, rfl, h3, hc1⟩ := hc1
  obtain ⟨x3, rfl, w3⟩ := h3
  obtain ⟨y4, r4, rfl, h4, hc1⟩ := hc1
  obtain ⟨x4, rfl, w4⟩ := h4
  obtain ⟨y5, r5, rfl, h5, hc1⟩ := hc1
  obtain ⟨x5, rfl, w5⟩ := h5
  obtain ⟨y6, r6, rfl, h6, hc1⟩ := hc1
  obtain ⟨x6, rfl, w6⟩ := h6
  obtain ⟨y7, r7, rfl, h7, hc1⟩ := hc1
  obtain ⟨x7, rfl, w7⟩ := h7
  obtain ⟨y8, r8, rfl, h8, hc1⟩ := hc1
  obtain ⟨x8, rfl, w8⟩ := h8
  obtain rfl := hc1
  have m1 : IntKind.u32.min = 0 := rfl
  have m2 : IntKind.u32.max = 4294967295 := rfl
  obtain ⟨b1, b2⟩ := w0
  rw [m1] at b1; rw [m2] at b2
  exact pathFragsMany x0 x1 x2 x3 x4 x5 x6 x7 x8 b1 (by omega) w
end Go.Proofs.Ytjldcblklbikaaa
