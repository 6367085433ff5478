/- The paths of TcbsReset, reckoned with symbols for what comes in. No condition. -/
import Derived.Test.YtbkijlffaigpiaaLives
import Derived.Test.YtbkijlffaigpiaaZev20
namespace Go.Proofs.Ytbkijlffaigpiaa
open Go.RowKit Go.Proofs.YtbkijlffaigpiaaZev
set_option linter.unusedVariables false
set_option maxRecDepth 20000
theorem andT {a b : Bool} (h : (a && b) = true) : a = true ∧ b = true := by simpa using h
theorem beqT {a b : Bool} (h : (a == b) = true) : a = b := eq_of_beq h
def hintsTcbsReset0 : List Hint := [.dec true, .dirty [], .dirty [3], .dirty [], .dirty [3], .dirty [13], .dirty [], .dirty [2], .dirty [], .dirty [], .dirty [], .dirty [], .dirty [], .dirty [], .dirty [21], .dirty [], .dirty [3], .dirty [], .dirty [], .dirty [], .dirty [], .dirty [], .dirty [], .dirty [], .dirty [], .dirty [], .dirty [], .dirty [], .dirty [], .dirty [32], .dirty [], .dirty [3], .dirty [], .dirty [], .dirty [], .dirty [], .dirty [], .dirty []]
def obsTcbsReset0 : List Ob := [.is 9 true, .bin .gtr 3 (.chan (some 8)) (.int .i64 5000) 9, .built .len #[24] 3 #[false] [(.chan (some 7))] 8, .test true true, .test true true, .test true true, .test true true, .test true true, .test true true, .test true true, .test true true]
theorem runTcbsReset0 : taken (ev Try.prog (fun _ => false) 3000 (.call 3 [.agg #[.chan (some 0), .chan (some 1), .chan (some 2), .chan (some 3), .chan (some 4), .chan (some 5), .chan (some 6), .chan (some 7)]]) ⟨[], [none], hintsTcbsReset0, List.replicate 8 (.test true true)⟩) = some obsTcbsReset0 := by kernel_rfl
def tabTcbsReset0 (x0 : Int) (x1 : Int) (x2 : Int) (x3 : Int) (x4 : Int) (x5 : Int) (x6 : Int) (o7 : Option Addr) (n7 c7 : Nat) : List Value := [.int .u16 (x0), .int .u16 (x1), .int .u32 (x2), .int .u32 (x3), .int .u8 (x4), .int .u16 (x5), .int .u16 (x6), .slice o7 n7 c7, .int .i64 ((n7 : Int)), .bool (decide (((n7 : Int)) > ((5000 : Int))))]
def DTcbsReset0 (x4 : Int) : Bool := true
theorem pathTcbsReset0 (x0 : Int) (x1 : Int) (x2 : Int) (x3 : Int) (x4 : Int) (x5 : Int) (x6 : Int) (o7 : Option Addr) (n7 c7 : Nat) (hD : DTcbsReset0 x4 = true) (g9 : (decide (((n7 : Int)) > ((5000 : Int)))) = true) (w : World) : Calls Try.prog 3 #[.agg #[.int .u16 (x0), .int .u16 (x1), .int .u32 (x2), .int .u32 (x3), .int .u8 (x4), .int .u16 (x5), .int .u16 (x6), .slice o7 n7 c7]] w fun e w' => e = .returned (.bool true) ∧ Below w.heap.size w w' := by
  letI : Sym := ⟨fun i => (tabTcbsReset0 x0 x1 x2 x3 x4 x5 x6 o7 n7 c7).getD i undef⟩
  refine calls_of_taken noNum mixed runTcbsReset0 ?_ w (M.dead w _ 1) ?_
  · unfold obsTcbsReset0
    refine obsCons (show Sym.val 9 = _ from congrArg Value.bool g9) ?_
    refine obsCons (holds_bin rfl rfl rfl rfl) ?_
    refine obsCons (holds_len Try.underlying24 rfl rfl) ?_
    refine obsCons (show true = true from rfl) ?_
    refine obsCons (show true = true from rfl) ?_
    refine obsCons (show true = true from rfl) ?_
    refine obsCons (show true = true from rfl) ?_
    refine obsCons (show true = true from rfl) ?_
    refine obsCons (show true = true from rfl) ?_
    refine obsCons (show true = true from rfl) ?_
    refine obsCons (show true = true from rfl) ?_
    exact obsNil
  · exact (LsR.cons' (vr_agg_list (LsR.cons' (.sym 0 rfl rfl) (LsR.cons' (.sym 1 rfl rfl) (LsR.cons' (.sym 2 rfl rfl) (LsR.cons' (.sym 3 rfl rfl) (LsR.cons' (.sym 4 rfl rfl) (LsR.cons' (.sym 5 rfl rfl) (LsR.cons' (.sym 6 rfl rfl) (LsR.cons' (.sym 7 rfl rfl) (LsR.nil _)))))))))) (LsR.nil _))
def hintsTcbsReset1 : List Hint := [.dec false, .dec true, .dec true, .dirty [], .dirty [14], .dirty [], .dirty [14], .dirty [24], .dirty [], .dirty [13], .dirty [], .dirty [], .dirty [], .dirty [], .dirty [], .dirty [], .dirty [32], .dirty [], .dirty [14], .dirty [], .dirty [], .dirty [], .dirty [], .dirty [], .dirty [], .dirty [], .dirty [], .dirty [], .dirty [], .dirty [], .dirty [], .dirty [43], .dirty [], .dirty [14], .dirty [], .dirty [], .dirty [], .dirty [], .dirty [], .dirty []]
def obsTcbsReset1 : List Ob := [.is 16 true, .bin .eql 5 (.chan (some 15)) (.int .u8 1) 16, .bin .rem 5 (.chan (some 14)) (.int .u8 2) 15, .bin .quo 5 (.chan (some 4)) (.int .u8 4) 14, .is 12 true, .bin .neq 5 (.chan (some 11)) (.int .u8 0) 12, .bin .and 5 (.chan (some 4)) (.int .u8 4) 11, .is 9 false, .bin .gtr 3 (.chan (some 8)) (.int .i64 5000) 9, .built .len #[24] 3 #[false] [(.chan (some 7))] 8, .test true true, .test true true, .test true true, .test true true, .test true true, .test true true, .test true true, .test true true]
theorem runTcbsReset1 : taken (ev Try.prog (fun _ => false) 3000 (.call 3 [.agg #[.chan (some 0), .chan (some 1), .chan (some 2), .chan (some 3), .chan (some 4), .chan (some 5), .chan (some 6), .chan (some 7)]]) ⟨[], [none], hintsTcbsReset1, List.replicate 8 (.test true true)⟩) = some obsTcbsReset1 := by kernel_rfl
def tabTcbsReset1 (x0 : Int) (x1 : Int) (x2 : Int) (x3 : Int) (x4 : Int) (x5 : Int) (x6 : Int) (o7 : Option Addr) (n7 c7 : Nat) : List Value := [.int .u16 (x0), .int .u16 (x1), .int .u32 (x2), .int .u32 (x3), .int .u8 (x4), .int .u16 (x5), .int .u16 (x6), .slice o7 n7 c7, .int .i64 ((n7 : Int)), .bool (decide (((n7 : Int)) > ((5000 : Int)))), undef, .int .u8 (IntKind.wrap .u8 ((BitVec.ofInt 8 (x4) &&& BitVec.ofInt 8 ((4 : Int))).toNat : Nat)), .bool ((IntKind.wrap .u8 ((BitVec.ofInt 8 (x4) &&& BitVec.ofInt 8 ((4 : Int))).toNat : Nat)) != ((0 : Int))), undef, .int .u8 (IntKind.wrap .u8 (Int.tdiv (x4) ((4 : Int)))), .int .u8 (Int.tmod (IntKind.wrap .u8 (Int.tdiv (x4) ((4 : Int)))) ((2 : Int))), .bool ((Int.tmod (IntKind.wrap .u8 (Int.tdiv (x4) ((4 : Int)))) ((2 : Int))) == ((1 : Int)))]
def DTcbsReset1 (x4 : Int) : Bool := (((IntKind.wrap .u8 ((BitVec.ofInt 8 (x4) &&& BitVec.ofInt 8 ((4 : Int))).toNat : Nat)) != ((0 : Int))) == true) && (((Int.tmod (IntKind.wrap .u8 (Int.tdiv (x4) ((4 : Int)))) ((2 : Int))) == ((1 : Int))) == true) && true
theorem pathTcbsReset1 (x0 : Int) (x1 : Int) (x2 : Int) (x3 : Int) (x4 : Int) (x5 : Int) (x6 : Int) (o7 : Option Addr) (n7 c7 : Nat) (hD : DTcbsReset1 x4 = true) (g9 : (decide (((n7 : Int)) > ((5000 : Int)))) = false) (w : World) : Calls Try.prog 3 #[.agg #[.int .u16 (x0), .int .u16 (x1), .int .u32 (x2), .int .u32 (x3), .int .u8 (x4), .int .u16 (x5), .int .u16 (x6), .slice o7 n7 c7]] w fun e w' => e = .returned (.bool true) ∧ Below w.heap.size w w' := by
  unfold DTcbsReset1 at hD
  obtain ⟨hD, _⟩ := andT hD
  obtain ⟨hD, d16⟩ := andT hD
  have d12 := hD
  replace d12 := beqT d12
  replace d16 := beqT d16
  letI : Sym := ⟨fun i => (tabTcbsReset1 x0 x1 x2 x3 x4 x5 x6 o7 n7 c7).getD i undef⟩
  refine calls_of_taken noNum mixed runTcbsReset1 ?_ w (M.dead w _ 1) ?_
  · unfold obsTcbsReset1
    refine obsCons (show Sym.val 16 = _ from congrArg Value.bool d16) ?_
    refine obsCons (holds_bin rfl rfl rfl rfl) ?_
    refine obsCons (holds_bin rfl rfl rfl rfl) ?_
    refine obsCons (holds_bin rfl rfl rfl rfl) ?_
    refine obsCons (show Sym.val 12 = _ from congrArg Value.bool d12) ?_
    refine obsCons (holds_bin rfl rfl rfl rfl) ?_
    refine obsCons (holds_bin rfl rfl rfl rfl) ?_
    refine obsCons (show Sym.val 9 = _ from congrArg Value.bool g9) ?_
    refine obsCons (holds_bin rfl rfl rfl rfl) ?_
    refine obsCons (holds_len Try.underlying24 rfl rfl) ?_
    refine obsCons (show true = true from rfl) ?_
    refine obsCons (show true = true from rfl) ?_
    refine obsCons (show true = true from rfl) ?_
    refine obsCons (show true = true from rfl) ?_
    refine obsCons (show true = true from rfl) ?_
    refine obsCons (show true = true from rfl) ?_
    refine obsCons (show true = true from rfl) ?_
    refine obsCons (show true = true from rfl) ?_
    exact obsNil
  · exact (LsR.cons' (vr_agg_list (LsR.cons' (.sym 0 rfl rfl) (LsR.cons' (.sym 1 rfl rfl) (LsR.cons' (.sym 2 rfl rfl) (LsR.cons' (.sym 3 rfl rfl) (LsR.cons' (.sym 4 rfl rfl) (LsR.cons' (.sym 5 rfl rfl) (LsR.cons' (.sym 6 rfl rfl) (LsR.cons' (.sym 7 rfl rfl) (LsR.nil _)))))))))) (LsR.nil _))
def hintsTcbsReset2 : List Hint := [.dec false, .dec false, .dec true, .dec false, .dec true, .dec false, .dirty [], .dirty [15], .dirty [], .dirty [15], .dirty [25], .dirty [], .dirty [14], .dirty [], .dirty [], .dirty [], .dirty [], .dirty [], .dirty [], .dirty [33], .dirty [], .dirty [15], .dirty [], .dirty [], .dirty [], .dirty [], .dirty [], .dirty [], .dirty [], .dirty [], .dirty [], .dirty [], .dirty [], .dirty [], .dirty [44], .dirty [], .dirty [15], .dirty [], .dirty [], .dirty [], .dirty [], .dirty [], .dirty []]
def obsTcbsReset2 : List Ob := [.is 25 false, .bin .neq 23 (.chan (some 3)) (.chan (some 3)) 25, .is 23 true, .bin .eql 5 (.chan (some 22)) (.int .u8 1) 23, .bin .rem 5 (.chan (some 21)) (.int .u8 2) 22, .bin .quo 5 (.chan (some 4)) (.int .u8 16) 21, .is 19 false, .bin .eql 5 (.chan (some 18)) (.int .u8 1) 19, .bin .rem 5 (.chan (some 17)) (.int .u8 2) 18, .bin .quo 5 (.chan (some 4)) (.int .u8 4) 17, .is 15 true, .bin .neq 5 (.chan (some 14)) (.int .u8 0) 15, .bin .and 5 (.chan (some 4)) (.int .u8 16) 14, .is 12 false, .bin .neq 5 (.chan (some 11)) (.int .u8 0) 12, .bin .and 5 (.chan (some 4)) (.int .u8 4) 11, .is 9 false, .bin .gtr 3 (.chan (some 8)) (.int .i64 5000) 9, .built .len #[24] 3 #[false] [(.chan (some 7))] 8, .test true true, .test true true, .test true true, .test true true, .test true true, .test true true, .test true true, .test true true]
theorem runTcbsReset2 : taken (ev Try.prog (fun _ => false) 3000 (.call 3 [.agg #[.chan (some 0), .chan (some 1), .chan (some 2), .chan (some 3), .chan (some 4), .chan (some 5), .chan (some 6), .chan (some 7)]]) ⟨[], [none], hintsTcbsReset2, List.replicate 8 (.test true true)⟩) = some obsTcbsReset2 := by kernel_rfl
def tabTcbsReset2 (x0 : Int) (x1 : Int) (x2 : Int) (x3 : Int) (x4 : Int) (x5 : Int) (x6 : Int) (o7 : Option Addr) (n7 c7 : Nat) : List Value := [.int .u16 (x0), .int .u16 (x1), .int .u32 (x2), .int .u32 (x3), .int .u8 (x4), .int .u16 (x5), .int .u16 (x6), .slice o7 n7 c7, .int .i64 ((n7 : Int)), .bool (decide (((n7 : Int)) > ((5000 : Int)))), undef, .int .u8 (IntKind.wrap .u8 ((BitVec.ofInt 8 (x4) &&& BitVec.ofInt 8 ((4 : Int))).toNat : Nat)), .bool ((IntKind.wrap .u8 ((BitVec.ofInt 8 (x4) &&& BitVec.ofInt 8 ((4 : Int))).toNat : Nat)) != ((0 : Int))), undef, .int .u8 (IntKind.wrap .u8 ((BitVec.ofInt 8 (x4) &&& BitVec.ofInt 8 ((16 : Int))).toNat : Nat)), .bool ((IntKind.wrap .u8 ((BitVec.ofInt 8 (x4) &&& BitVec.ofInt 8 ((16 : Int))).toNat : Nat)) != ((0 : Int))), undef, .int .u8 (IntKind.wrap .u8 (Int.tdiv (x4) ((4 : Int)))), .int .u8 (Int.tmod (IntKind.wrap .u8 (Int.tdiv (x4) ((4 : Int)))) ((2 : Int))), .bool ((Int.tmod (IntKind.wrap .u8 (Int.tdiv (x4) ((4 : Int)))) ((2 : Int))) == ((1 : Int))), undef, .int .u8 (IntKind.wrap .u8 (Int.tdiv (x4) ((16 : Int)))), .int .u8 (Int.tmod (IntKind.wrap .u8 (Int.tdiv (x4) ((16 : Int)))) ((2 : Int))), .bool ((Int.tmod (IntKind.wrap .u8 (Int.tdiv (x4) ((16 : Int)))) ((2 : Int))) == ((1 : Int))), undef, .bool ((x3) != (x3))]
def DTcbsReset2 (x4 : Int) : Bool := (((IntKind.wrap .u8 ((BitVec.ofInt 8 (x4) &&& BitVec.ofInt 8 ((4 : Int))).toNat : Nat)) != ((0 : Int))) == false) && (((IntKind.wrap .u8 ((BitVec.ofInt 8 (x4) &&& BitVec.ofInt 8 ((16 : Int))).toNat : Nat)) != ((0 : Int))) == true) && (((Int.tmod (IntKind.wrap .u8 (Int.tdiv (x4) ((4 : Int)))) ((2 : Int))) == ((1 : Int))) == false) && (((Int.tmod (IntKind.wrap .u8 (Int.tdiv (x4) ((16 : Int)))) ((2 : Int))) == ((1 : Int))) == true) && true
theorem pathTcbsReset2 (x0 : Int) (x1 : Int) (x2 : Int) (x3 : Int) (x4 : Int) (x5 : Int) (x6 : Int) (o7 : Option Addr) (n7 c7 : Nat) (hD : DTcbsReset2 x4 = true) (g9 : (decide (((n7 : Int)) > ((5000 : Int)))) = false) (w : World) : Calls Try.prog 3 #[.agg #[.int .u16 (x0), .int .u16 (x1), .int .u32 (x2), .int .u32 (x3), .int .u8 (x4), .int .u16 (x5), .int .u16 (x6), .slice o7 n7 c7]] w fun e w' => e = .returned (.bool true) ∧ Below w.heap.size w w' := by
  unfold DTcbsReset2 at hD
  obtain ⟨hD, _⟩ := andT hD
  obtain ⟨hD, d23⟩ := andT hD
  obtain ⟨hD, d19⟩ := andT hD
  obtain ⟨hD, d15⟩ := andT hD
  have d12 := hD
  replace d12 := beqT d12
  replace d15 := beqT d15
  replace d19 := beqT d19
  replace d23 := beqT d23
  letI : Sym := ⟨fun i => (tabTcbsReset2 x0 x1 x2 x3 x4 x5 x6 o7 n7 c7).getD i undef⟩
  refine calls_of_taken noNum mixed runTcbsReset2 ?_ w (M.dead w _ 1) ?_
  · unfold obsTcbsReset2
    refine obsCons (show Sym.val 25 = _ from congrArg Value.bool (by simp)) ?_
    refine obsCons (holds_bin rfl rfl rfl rfl) ?_
    refine obsCons (show Sym.val 23 = _ from congrArg Value.bool d23) ?_
    refine obsCons (holds_bin rfl rfl rfl rfl) ?_
    refine obsCons (holds_bin rfl rfl rfl rfl) ?_
    refine obsCons (holds_bin rfl rfl rfl rfl) ?_
    refine obsCons (show Sym.val 19 = _ from congrArg Value.bool d19) ?_
    refine obsCons (holds_bin rfl rfl rfl rfl) ?_
    refine obsCons (holds_bin rfl rfl rfl rfl) ?_
    refine obsCons (holds_bin rfl rfl rfl rfl) ?_
    refine obsCons (show Sym.val 15 = _ from congrArg Value.bool d15) ?_
    refine obsCons (holds_bin rfl rfl rfl rfl) ?_
    refine obsCons (holds_bin rfl rfl rfl rfl) ?_
    refine obsCons (show Sym.val 12 = _ from congrArg Value.bool d12) ?_
    refine obsCons (holds_bin rfl rfl rfl rfl) ?_
    refine obsCons (holds_bin rfl rfl rfl rfl) ?_
    refine obsCons (show Sym.val 9 = _ from congrArg Value.bool g9) ?_
    refine obsCons (holds_bin rfl rfl rfl rfl) ?_
    refine obsCons (holds_len Try.underlying24 rfl rfl) ?_
    refine obsCons (show true = true from rfl) ?_
    refine obsCons (show true = true from rfl) ?_
    refine obsCons (show true = true from rfl) ?_
    refine obsCons (show true = true from rfl) ?_
    refine obsCons (show true = true from rfl) ?_
    refine obsCons (show true = true from rfl) ?_
    refine obsCons (show true = true from rfl) ?_
    refine obsCons (show true = true from rfl) ?_
    exact obsNil
  · exact (LsR.cons' (vr_agg_list (LsR.cons' (.sym 0 rfl rfl) (LsR.cons' (.sym 1 rfl rfl) (LsR.cons' (.sym 2 rfl rfl) (LsR.cons' (.sym 3 rfl rfl) (LsR.cons' (.sym 4 rfl rfl) (LsR.cons' (.sym 5 rfl rfl) (LsR.cons' (.sym 6 rfl rfl) (LsR.cons' (.sym 7 rfl rfl) (LsR.nil _)))))))))) (LsR.nil _))
def hintsTcbsReset3 : List Hint := [.dec false, .dec false, .dec false, .dirty [3], .dec false, .dec false, .dec false, .dec false, .dirty [7], .dec false, .dec false, .dec false, .dirty [], .dirty [19], .dirty [], .dirty [19], .dirty [29], .dirty [], .dirty [18], .dirty [], .dirty [], .dirty [], .dirty [], .dirty [], .dirty [], .dirty [37], .dirty [], .dirty [19], .dirty [], .dirty [], .dirty [], .dirty [], .dirty [], .dirty [], .dirty [], .dirty [], .dirty [], .dirty [], .dirty [], .dirty [], .dirty [48], .dirty [], .dirty [19], .dirty [], .dirty [], .dirty [], .dirty [], .dirty [], .dirty []]
def obsTcbsReset3 : List Ob := [.is 45 false, .bin .neq 23 (.chan (some 25)) (.chan (some 44)) 45, .bin .add 23 (.chan (some 2)) (.chan (some 35)) 44, .is 42 false, .bin .eql 5 (.chan (some 41)) (.int .u8 1) 42, .bin .rem 5 (.chan (some 40)) (.int .u8 2) 41, .bin .quo 5 (.chan (some 4)) (.int .u8 1) 40, .is 38 false, .bin .eql 5 (.chan (some 37)) (.int .u8 1) 38, .bin .rem 5 (.chan (some 36)) (.int .u8 2) 37, .bin .quo 5 (.chan (some 4)) (.int .u8 2) 36, .conv 3 23 (.chan (some 34)) 35, .built .len #[24] 3 #[false] [(.chan (some 7))] 34, .is 32 false, .bin .eql 5 (.chan (some 31)) (.int .u8 1) 32, .bin .rem 5 (.chan (some 30)) (.int .u8 2) 31, .bin .quo 5 (.chan (some 4)) (.int .u8 16) 30, .is 28 false, .bin .eql 5 (.chan (some 27)) (.int .u8 1) 28, .bin .rem 5 (.chan (some 26)) (.int .u8 2) 27, .bin .quo 5 (.chan (some 4)) (.int .u8 4) 26, .bin .add 23 (.chan (some 2)) (.chan (some 18)) 25, .is 23 false, .bin .neq 5 (.chan (some 22)) (.int .u8 0) 23, .bin .and 5 (.chan (some 4)) (.int .u8 1) 22, .is 20 false, .bin .neq 5 (.chan (some 19)) (.int .u8 0) 20, .bin .and 5 (.chan (some 4)) (.int .u8 2) 19, .conv 3 23 (.chan (some 17)) 18, .built .len #[24] 3 #[false] [(.chan (some 7))] 17, .is 15 false, .bin .neq 5 (.chan (some 14)) (.int .u8 0) 15, .bin .and 5 (.chan (some 4)) (.int .u8 16) 14, .is 12 false, .bin .neq 5 (.chan (some 11)) (.int .u8 0) 12, .bin .and 5 (.chan (some 4)) (.int .u8 4) 11, .is 9 false, .bin .gtr 3 (.chan (some 8)) (.int .i64 5000) 9, .built .len #[24] 3 #[false] [(.chan (some 7))] 8, .test true true, .test true true, .test true true, .test true true, .test true true, .test true true, .test true true, .test true true]
theorem runTcbsReset3 : taken (ev Try.prog (fun _ => false) 3000 (.call 3 [.agg #[.chan (some 0), .chan (some 1), .chan (some 2), .chan (some 3), .chan (some 4), .chan (some 5), .chan (some 6), .chan (some 7)]]) ⟨[], [none], hintsTcbsReset3, List.replicate 8 (.test true true)⟩) = some obsTcbsReset3 := by kernel_rfl
def tabTcbsReset3 (x0 : Int) (x1 : Int) (x2 : Int) (x3 : Int) (x4 : Int) (x5 : Int) (x6 : Int) (o7 : Option Addr) (n7 c7 : Nat) : List Value := [.int .u16 (x0), .int .u16 (x1), .int .u32 (x2), .int .u32 (x3), .int .u8 (x4), .int .u16 (x5), .int .u16 (x6), .slice o7 n7 c7, .int .i64 ((n7 : Int)), .bool (decide (((n7 : Int)) > ((5000 : Int)))), undef, .int .u8 (IntKind.wrap .u8 ((BitVec.ofInt 8 (x4) &&& BitVec.ofInt 8 ((4 : Int))).toNat : Nat)), .bool ((IntKind.wrap .u8 ((BitVec.ofInt 8 (x4) &&& BitVec.ofInt 8 ((4 : Int))).toNat : Nat)) != ((0 : Int))), undef, .int .u8 (IntKind.wrap .u8 ((BitVec.ofInt 8 (x4) &&& BitVec.ofInt 8 ((16 : Int))).toNat : Nat)), .bool ((IntKind.wrap .u8 ((BitVec.ofInt 8 (x4) &&& BitVec.ofInt 8 ((16 : Int))).toNat : Nat)) != ((0 : Int))), undef, .int .i64 ((n7 : Int)), .int .u32 (IntKind.wrap .u32 ((n7 : Int))), .int .u8 (IntKind.wrap .u8 ((BitVec.ofInt 8 (x4) &&& BitVec.ofInt 8 ((2 : Int))).toNat : Nat)), .bool ((IntKind.wrap .u8 ((BitVec.ofInt 8 (x4) &&& BitVec.ofInt 8 ((2 : Int))).toNat : Nat)) != ((0 : Int))), undef, .int .u8 (IntKind.wrap .u8 ((BitVec.ofInt 8 (x4) &&& BitVec.ofInt 8 ((1 : Int))).toNat : Nat)), .bool ((IntKind.wrap .u8 ((BitVec.ofInt 8 (x4) &&& BitVec.ofInt 8 ((1 : Int))).toNat : Nat)) != ((0 : Int))), undef, .int .u32 (IntKind.wrap .u32 (x2 + IntKind.wrap .u32 ((n7 : Int)))), .int .u8 (IntKind.wrap .u8 (Int.tdiv (x4) ((4 : Int)))), .int .u8 (Int.tmod (IntKind.wrap .u8 (Int.tdiv (x4) ((4 : Int)))) ((2 : Int))), .bool ((Int.tmod (IntKind.wrap .u8 (Int.tdiv (x4) ((4 : Int)))) ((2 : Int))) == ((1 : Int))), undef, .int .u8 (IntKind.wrap .u8 (Int.tdiv (x4) ((16 : Int)))), .int .u8 (Int.tmod (IntKind.wrap .u8 (Int.tdiv (x4) ((16 : Int)))) ((2 : Int))), .bool ((Int.tmod (IntKind.wrap .u8 (Int.tdiv (x4) ((16 : Int)))) ((2 : Int))) == ((1 : Int))), undef, .int .i64 ((n7 : Int)), .int .u32 (IntKind.wrap .u32 ((n7 : Int))), .int .u8 (IntKind.wrap .u8 (Int.tdiv (x4) ((2 : Int)))), .int .u8 (Int.tmod (IntKind.wrap .u8 (Int.tdiv (x4) ((2 : Int)))) ((2 : Int))), .bool ((Int.tmod (IntKind.wrap .u8 (Int.tdiv (x4) ((2 : Int)))) ((2 : Int))) == ((1 : Int))), undef, .int .u8 (IntKind.wrap .u8 (Int.tdiv (x4) ((1 : Int)))), .int .u8 (Int.tmod (IntKind.wrap .u8 (Int.tdiv (x4) ((1 : Int)))) ((2 : Int))), .bool ((Int.tmod (IntKind.wrap .u8 (Int.tdiv (x4) ((1 : Int)))) ((2 : Int))) == ((1 : Int))), undef, .int .u32 (IntKind.wrap .u32 (x2 + IntKind.wrap .u32 ((n7 : Int)))), .bool ((IntKind.wrap .u32 (x2 + IntKind.wrap .u32 ((n7 : Int)))) != (IntKind.wrap .u32 (x2 + IntKind.wrap .u32 ((n7 : Int)))))]
def DTcbsReset3 (x4 : Int) : Bool := (((IntKind.wrap .u8 ((BitVec.ofInt 8 (x4) &&& BitVec.ofInt 8 ((4 : Int))).toNat : Nat)) != ((0 : Int))) == false) && (((IntKind.wrap .u8 ((BitVec.ofInt 8 (x4) &&& BitVec.ofInt 8 ((16 : Int))).toNat : Nat)) != ((0 : Int))) == false) && (((IntKind.wrap .u8 ((BitVec.ofInt 8 (x4) &&& BitVec.ofInt 8 ((2 : Int))).toNat : Nat)) != ((0 : Int))) == false) && (((IntKind.wrap .u8 ((BitVec.ofInt 8 (x4) &&& BitVec.ofInt 8 ((1 : Int))).toNat : Nat)) != ((0 : Int))) == false) && (((Int.tmod (IntKind.wrap .u8 (Int.tdiv (x4) ((4 : Int)))) ((2 : Int))) == ((1 : Int))) == false) && (((Int.tmod (IntKind.wrap .u8 (Int.tdiv (x4) ((16 : Int)))) ((2 : Int))) == ((1 : Int))) == false) && (((Int.tmod (IntKind.wrap .u8 (Int.tdiv (x4) ((2 : Int)))) ((2 : Int))) == ((1 : Int))) == false) && (((Int.tmod (IntKind.wrap .u8 (Int.tdiv (x4) ((1 : Int)))) ((2 : Int))) == ((1 : Int))) == false) && true
theorem pathTcbsReset3 (x0 : Int) (x1 : Int) (x2 : Int) (x3 : Int) (x4 : Int) (x5 : Int) (x6 : Int) (o7 : Option Addr) (n7 c7 : Nat) (hD : DTcbsReset3 x4 = true) (g9 : (decide (((n7 : Int)) > ((5000 : Int)))) = false) (w : World) : Calls Try.prog 3 #[.agg #[.int .u16 (x0), .int .u16 (x1), .int .u32 (x2), .int .u32 (x3), .int .u8 (x4), .int .u16 (x5), .int .u16 (x6), .slice o7 n7 c7]] w fun e w' => e = .returned (.bool true) ∧ Below w.heap.size w w' := by
  unfold DTcbsReset3 at hD
  obtain ⟨hD, _⟩ := andT hD
  obtain ⟨hD, d42⟩ := andT hD
  obtain ⟨hD, d38⟩ := andT hD
  obtain ⟨hD, d32⟩ := andT hD
  obtain ⟨hD, d28⟩ := andT hD
  obtain ⟨hD, d23⟩ := andT hD
  obtain ⟨hD, d20⟩ := andT hD
  obtain ⟨hD, d15⟩ := andT hD
  have d12 := hD
  replace d12 := beqT d12
  replace d15 := beqT d15
  replace d20 := beqT d20
  replace d23 := beqT d23
  replace d28 := beqT d28
  replace d32 := beqT d32
  replace d38 := beqT d38
  replace d42 := beqT d42
  letI : Sym := ⟨fun i => (tabTcbsReset3 x0 x1 x2 x3 x4 x5 x6 o7 n7 c7).getD i undef⟩
  refine calls_of_taken noNum mixed runTcbsReset3 ?_ w (M.dead w _ 1) ?_
  · unfold obsTcbsReset3
    refine obsCons (show Sym.val 45 = _ from congrArg Value.bool (by simp)) ?_
    refine obsCons (holds_bin rfl rfl rfl rfl) ?_
    refine obsCons (holds_bin rfl rfl rfl rfl) ?_
    refine obsCons (show Sym.val 42 = _ from congrArg Value.bool d42) ?_
    refine obsCons (holds_bin rfl rfl rfl rfl) ?_
    refine obsCons (holds_bin rfl rfl rfl rfl) ?_
    refine obsCons (holds_bin rfl rfl rfl rfl) ?_
    refine obsCons (show Sym.val 38 = _ from congrArg Value.bool d38) ?_
    refine obsCons (holds_bin rfl rfl rfl rfl) ?_
    refine obsCons (holds_bin rfl rfl rfl rfl) ?_
    refine obsCons (holds_bin rfl rfl rfl rfl) ?_
    refine obsCons (holds_conv Try.underlying3 Try.underlying23 rfl rfl) ?_
    refine obsCons (holds_len Try.underlying24 rfl rfl) ?_
    refine obsCons (show Sym.val 32 = _ from congrArg Value.bool d32) ?_
    refine obsCons (holds_bin rfl rfl rfl rfl) ?_
    refine obsCons (holds_bin rfl rfl rfl rfl) ?_
    refine obsCons (holds_bin rfl rfl rfl rfl) ?_
    refine obsCons (show Sym.val 28 = _ from congrArg Value.bool d28) ?_
    refine obsCons (holds_bin rfl rfl rfl rfl) ?_
    refine obsCons (holds_bin rfl rfl rfl rfl) ?_
    refine obsCons (holds_bin rfl rfl rfl rfl) ?_
    refine obsCons (holds_bin rfl rfl rfl rfl) ?_
    refine obsCons (show Sym.val 23 = _ from congrArg Value.bool d23) ?_
    refine obsCons (holds_bin rfl rfl rfl rfl) ?_
    refine obsCons (holds_bin rfl rfl rfl rfl) ?_
    refine obsCons (show Sym.val 20 = _ from congrArg Value.bool d20) ?_
    refine obsCons (holds_bin rfl rfl rfl rfl) ?_
    refine obsCons (holds_bin rfl rfl rfl rfl) ?_
    refine obsCons (holds_conv Try.underlying3 Try.underlying23 rfl rfl) ?_
    refine obsCons (holds_len Try.underlying24 rfl rfl) ?_
    refine obsCons (show Sym.val 15 = _ from congrArg Value.bool d15) ?_
    refine obsCons (holds_bin rfl rfl rfl rfl) ?_
    refine obsCons (holds_bin rfl rfl rfl rfl) ?_
    refine obsCons (show Sym.val 12 = _ from congrArg Value.bool d12) ?_
    refine obsCons (holds_bin rfl rfl rfl rfl) ?_
    refine obsCons (holds_bin rfl rfl rfl rfl) ?_
    refine obsCons (show Sym.val 9 = _ from congrArg Value.bool g9) ?_
    refine obsCons (holds_bin rfl rfl rfl rfl) ?_
    refine obsCons (holds_len Try.underlying24 rfl rfl) ?_
    refine obsCons (show true = true from rfl) ?_
    refine obsCons (show true = true from rfl) ?_
    refine obsCons (show true = true from rfl) ?_
    refine obsCons (show true = true from rfl) ?_
    refine obsCons (show true = true from rfl) ?_
    refine obsCons (show true = true from rfl) ?_
    refine obsCons (show true = true from rfl) ?_
    refine obsCons (show true = true from rfl) ?_
    exact obsNil
  · exact (LsR.cons' (vr_agg_list (LsR.cons' (.sym 0 rfl rfl) (LsR.cons' (.sym 1 rfl rfl) (LsR.cons' (.sym 2 rfl rfl) (LsR.cons' (.sym 3 rfl rfl) (LsR.cons' (.sym 4 rfl rfl) (LsR.cons' (.sym 5 rfl rfl) (LsR.cons' (.sym 6 rfl rfl) (LsR.cons' (.sym 7 rfl rfl) (LsR.nil _)))))))))) (LsR.nil _))
def hintsTcbsReset4 : List Hint := [.dec false, .dec false, .dec false, .dirty [3], .dec false, .dec true, .dec false, .dec false, .dirty [7], .dec false, .dec true, .dec false, .dirty [], .dirty [19], .dirty [], .dirty [19], .dirty [29], .dirty [], .dirty [18], .dirty [], .dirty [], .dirty [], .dirty [], .dirty [], .dirty [], .dirty [37], .dirty [], .dirty [19], .dirty [], .dirty [], .dirty [], .dirty [], .dirty [], .dirty [], .dirty [], .dirty [], .dirty [], .dirty [], .dirty [], .dirty [], .dirty [48], .dirty [], .dirty [19], .dirty [], .dirty [], .dirty [], .dirty [], .dirty [], .dirty []]
def obsTcbsReset4 : List Ob := [.is 47 false, .bin .neq 23 (.chan (some 26)) (.chan (some 46)) 47, .bin .add 23 (.chan (some 2)) (.chan (some 45)) 46, .bin .add 23 (.chan (some 36)) (.int .u32 1) 45, .is 43 true, .bin .eql 5 (.chan (some 42)) (.int .u8 1) 43, .bin .rem 5 (.chan (some 41)) (.int .u8 2) 42, .bin .quo 5 (.chan (some 4)) (.int .u8 1) 41, .is 39 false, .bin .eql 5 (.chan (some 38)) (.int .u8 1) 39, .bin .rem 5 (.chan (some 37)) (.int .u8 2) 38, .bin .quo 5 (.chan (some 4)) (.int .u8 2) 37, .conv 3 23 (.chan (some 35)) 36, .built .len #[24] 3 #[false] [(.chan (some 7))] 35, .is 33 false, .bin .eql 5 (.chan (some 32)) (.int .u8 1) 33, .bin .rem 5 (.chan (some 31)) (.int .u8 2) 32, .bin .quo 5 (.chan (some 4)) (.int .u8 16) 31, .is 29 false, .bin .eql 5 (.chan (some 28)) (.int .u8 1) 29, .bin .rem 5 (.chan (some 27)) (.int .u8 2) 28, .bin .quo 5 (.chan (some 4)) (.int .u8 4) 27, .bin .add 23 (.chan (some 2)) (.chan (some 25)) 26, .bin .add 23 (.chan (some 18)) (.int .u32 1) 25, .is 23 true, .bin .neq 5 (.chan (some 22)) (.int .u8 0) 23, .bin .and 5 (.chan (some 4)) (.int .u8 1) 22, .is 20 false, .bin .neq 5 (.chan (some 19)) (.int .u8 0) 20, .bin .and 5 (.chan (some 4)) (.int .u8 2) 19, .conv 3 23 (.chan (some 17)) 18, .built .len #[24] 3 #[false] [(.chan (some 7))] 17, .is 15 false, .bin .neq 5 (.chan (some 14)) (.int .u8 0) 15, .bin .and 5 (.chan (some 4)) (.int .u8 16) 14, .is 12 false, .bin .neq 5 (.chan (some 11)) (.int .u8 0) 12, .bin .and 5 (.chan (some 4)) (.int .u8 4) 11, .is 9 false, .bin .gtr 3 (.chan (some 8)) (.int .i64 5000) 9, .built .len #[24] 3 #[false] [(.chan (some 7))] 8, .test true true, .test true true, .test true true, .test true true, .test true true, .test true true, .test true true, .test true true]
theorem runTcbsReset4 : taken (ev Try.prog (fun _ => false) 3000 (.call 3 [.agg #[.chan (some 0), .chan (some 1), .chan (some 2), .chan (some 3), .chan (some 4), .chan (some 5), .chan (some 6), .chan (some 7)]]) ⟨[], [none], hintsTcbsReset4, List.replicate 8 (.test true true)⟩) = some obsTcbsReset4 := by kernel_rfl
def tabTcbsReset4 (x0 : Int) (x1 : Int) (x2 : Int) (x3 : Int) (x4 : Int) (x5 : Int) (x6 : Int) (o7 : Option Addr) (n7 c7 : Nat) : List Value := [.int .u16 (x0), .int .u16 (x1), .int .u32 (x2), .int .u32 (x3), .int .u8 (x4), .int .u16 (x5), .int .u16 (x6), .slice o7 n7 c7, .int .i64 ((n7 : Int)), .bool (decide (((n7 : Int)) > ((5000 : Int)))), undef, .int .u8 (IntKind.wrap .u8 ((BitVec.ofInt 8 (x4) &&& BitVec.ofInt 8 ((4 : Int))).toNat : Nat)), .bool ((IntKind.wrap .u8 ((BitVec.ofInt 8 (x4) &&& BitVec.ofInt 8 ((4 : Int))).toNat : Nat)) != ((0 : Int))), undef, .int .u8 (IntKind.wrap .u8 ((BitVec.ofInt 8 (x4) &&& BitVec.ofInt 8 ((16 : Int))).toNat : Nat)), .bool ((IntKind.wrap .u8 ((BitVec.ofInt 8 (x4) &&& BitVec.ofInt 8 ((16 : Int))).toNat : Nat)) != ((0 : Int))), undef, .int .i64 ((n7 : Int)), .int .u32 (IntKind.wrap .u32 ((n7 : Int))), .int .u8 (IntKind.wrap .u8 ((BitVec.ofInt 8 (x4) &&& BitVec.ofInt 8 ((2 : Int))).toNat : Nat)), .bool ((IntKind.wrap .u8 ((BitVec.ofInt 8 (x4) &&& BitVec.ofInt 8 ((2 : Int))).toNat : Nat)) != ((0 : Int))), undef, .int .u8 (IntKind.wrap .u8 ((BitVec.ofInt 8 (x4) &&& BitVec.ofInt 8 ((1 : Int))).toNat : Nat)), .bool ((IntKind.wrap .u8 ((BitVec.ofInt 8 (x4) &&& BitVec.ofInt 8 ((1 : Int))).toNat : Nat)) != ((0 : Int))), undef, .int .u32 (IntKind.wrap .u32 (IntKind.wrap .u32 ((n7 : Int)) + (1 : Int))), .int .u32 (IntKind.wrap .u32 (x2 + IntKind.wrap .u32 (IntKind.wrap .u32 ((n7 : Int)) + (1 : Int)))), .int .u8 (IntKind.wrap .u8 (Int.tdiv (x4) ((4 : Int)))), .int .u8 (Int.tmod (IntKind.wrap .u8 (Int.tdiv (x4) ((4 : Int)))) ((2 : Int))), .bool ((Int.tmod (IntKind.wrap .u8 (Int.tdiv (x4) ((4 : Int)))) ((2 : Int))) == ((1 : Int))), undef, .int .u8 (IntKind.wrap .u8 (Int.tdiv (x4) ((16 : Int)))), .int .u8 (Int.tmod (IntKind.wrap .u8 (Int.tdiv (x4) ((16 : Int)))) ((2 : Int))), .bool ((Int.tmod (IntKind.wrap .u8 (Int.tdiv (x4) ((16 : Int)))) ((2 : Int))) == ((1 : Int))), undef, .int .i64 ((n7 : Int)), .int .u32 (IntKind.wrap .u32 ((n7 : Int))), .int .u8 (IntKind.wrap .u8 (Int.tdiv (x4) ((2 : Int)))), .int .u8 (Int.tmod (IntKind.wrap .u8 (Int.tdiv (x4) ((2 : Int)))) ((2 : Int))), .bool ((Int.tmod (IntKind.wrap .u8 (Int.tdiv (x4) ((2 : Int)))) ((2 : Int))) == ((1 : Int))), undef, .int .u8 (IntKind.wrap .u8 (Int.tdiv (x4) ((1 : Int)))), .int .u8 (Int.tmod (IntKind.wrap .u8 (Int.tdiv (x4) ((1 : Int)))) ((2 : Int))), .bool ((Int.tmod (IntKind.wrap .u8 (Int.tdiv (x4) ((1 : Int)))) ((2 : Int))) == ((1 : Int))), undef, .int .u32 (IntKind.wrap .u32 (IntKind.wrap .u32 ((n7 : Int)) + (1 : Int))), .int .u32 (IntKind.wrap .u32 (x2 + IntKind.wrap .u32 (IntKind.wrap .u32 ((n7 : Int)) + (1 : Int)))), .bool ((IntKind.wrap .u32 (x2 + IntKind.wrap .u32 (IntKind.wrap .u32 ((n7 : Int)) + (1 : Int)))) != (IntKind.wrap .u32 (x2 + IntKind.wrap .u32 (IntKind.wrap .u32 ((n7 : Int)) + (1 : Int)))))]
def DTcbsReset4 (x4 : Int) : Bool := (((IntKind.wrap .u8 ((BitVec.ofInt 8 (x4) &&& BitVec.ofInt 8 ((4 : Int))).toNat : Nat)) != ((0 : Int))) == false) && (((IntKind.wrap .u8 ((BitVec.ofInt 8 (x4) &&& BitVec.ofInt 8 ((16 : Int))).toNat : Nat)) != ((0 : Int))) == false) && (((IntKind.wrap .u8 ((BitVec.ofInt 8 (x4) &&& BitVec.ofInt 8 ((2 : Int))).toNat : Nat)) != ((0 : Int))) == false) && (((IntKind.wrap .u8 ((BitVec.ofInt 8 (x4) &&& BitVec.ofInt 8 ((1 : Int))).toNat : Nat)) != ((0 : Int))) == true) && (((Int.tmod (IntKind.wrap .u8 (Int.tdiv (x4) ((4 : Int)))) ((2 : Int))) == ((1 : Int))) == false) && (((Int.tmod (IntKind.wrap .u8 (Int.tdiv (x4) ((16 : Int)))) ((2 : Int))) == ((1 : Int))) == false) && (((Int.tmod (IntKind.wrap .u8 (Int.tdiv (x4) ((2 : Int)))) ((2 : Int))) == ((1 : Int))) == false) && (((Int.tmod (IntKind.wrap .u8 (Int.tdiv (x4) ((1 : Int)))) ((2 : Int))) == ((1 : Int))) == true) && true
theorem pathTcbsReset4 (x0 : Int) (x1 : Int) (x2 : Int) (x3 : Int) (x4 : Int) (x5 : Int) (x6 : Int) (o7 : Option Addr) (n7 c7 : Nat) (hD : DTcbsReset4 x4 = true) (g9 : (decide (((n7 : Int)) > ((5000 : Int)))) = false) (w : World) : Calls Try.prog 3 #[.agg #[.int .u16 (x0), .int .u16 (x1), .int .u32 (x2), .int .u32 (x3), .int .u8 (x4), .int .u16 (x5), .int .u16 (x6), .slice o7 n7 c7]] w fun e w' => e = .returned (.bool true) ∧ Below w.heap.size w w' := by
  unfold DTcbsReset4 at hD
  obtain ⟨hD, _⟩ := andT hD
  obtain ⟨hD, d43⟩ := andT hD
  obtain ⟨hD, d39⟩ := andT hD
  obtain ⟨hD, d33⟩ := andT hD
  obtain ⟨hD, d29⟩ := andT hD
  obtain ⟨hD, d23⟩ := andT hD
  obtain ⟨hD, d20⟩ := andT hD
  obtain ⟨hD, d15⟩ := andT hD
  have d12 := hD
  replace d12 := beqT d12
  replace d15 := beqT d15
  replace d20 := beqT d20
  replace d23 := beqT d23
  replace d29 := beqT d29
  replace d33 := beqT d33
  replace d39 := beqT d39
  replace d43 := beqT d43
  letI : Sym := ⟨fun i => (tabTcbsReset4 x0 x1 x2 x3 x4 x5 x6 o7 n7 c7).getD i undef⟩
  refine calls_of_taken noNum mixed runTcbsReset4 ?_ w (M.dead w _ 1) ?_
  · unfold obsTcbsReset4
    refine obsCons (show Sym.val 47 = _ from congrArg Value.bool (by simp)) ?_
    refine obsCons (holds_bin rfl rfl rfl rfl) ?_
    refine obsCons (holds_bin rfl rfl rfl rfl) ?_
    refine obsCons (holds_bin rfl rfl rfl rfl) ?_
    refine obsCons (show Sym.val 43 = _ from congrArg Value.bool d43) ?_
    refine obsCons (holds_bin rfl rfl rfl rfl) ?_
    refine obsCons (holds_bin rfl rfl rfl rfl) ?_
    refine obsCons (holds_bin rfl rfl rfl rfl) ?_
    refine obsCons (show Sym.val 39 = _ from congrArg Value.bool d39) ?_
    refine obsCons (holds_bin rfl rfl rfl rfl) ?_
    refine obsCons (holds_bin rfl rfl rfl rfl) ?_
    refine obsCons (holds_bin rfl rfl rfl rfl) ?_
    refine obsCons (holds_conv Try.underlying3 Try.underlying23 rfl rfl) ?_
    refine obsCons (holds_len Try.underlying24 rfl rfl) ?_
    refine obsCons (show Sym.val 33 = _ from congrArg Value.bool d33) ?_
    refine obsCons (holds_bin rfl rfl rfl rfl) ?_
    refine obsCons (holds_bin rfl rfl rfl rfl) ?_
    refine obsCons (holds_bin rfl rfl rfl rfl) ?_
    refine obsCons (show Sym.val 29 = _ from congrArg Value.bool d29) ?_
    refine obsCons (holds_bin rfl rfl rfl rfl) ?_
    refine obsCons (holds_bin rfl rfl rfl rfl) ?_
    refine obsCons (holds_bin rfl rfl rfl rfl) ?_
    refine obsCons (holds_bin rfl rfl rfl rfl) ?_
    refine obsCons (holds_bin rfl rfl rfl rfl) ?_
    refine obsCons (show Sym.val 23 = _ from congrArg Value.bool d23) ?_
    refine obsCons (holds_bin rfl rfl rfl rfl) ?_
    refine obsCons (holds_bin rfl rfl rfl rfl) ?_
    refine obsCons (show Sym.val 20 = _ from congrArg Value.bool d20) ?_
    refine obsCons (holds_bin rfl rfl rfl rfl) ?_
    refine obsCons (holds_bin rfl rfl rfl rfl) ?_
    refine obsCons (holds_conv Try.underlying3 Try.underlying23 rfl rfl) ?_
    refine obsCons (holds_len Try.underlying24 rfl rfl) ?_
    refine obsCons (show Sym.val 15 = _ from congrArg Value.bool d15) ?_
    refine obsCons (holds_bin rfl rfl rfl rfl) ?_
    refine obsCons (holds_bin rfl rfl rfl rfl) ?_
    refine obsCons (show Sym.val 12 = _ from congrArg Value.bool d12) ?_
    refine obsCons (holds_bin rfl rfl rfl rfl) ?_
    refine obsCons (holds_bin rfl rfl rfl rfl) ?_
    refine obsCons (show Sym.val 9 = _ from congrArg Value.bool g9) ?_
    refine obsCons (holds_bin rfl rfl rfl rfl) ?_
    refine obsCons (holds_len Try.underlying24 rfl rfl) ?_
    refine obsCons (show true = true from rfl) ?_
    refine obsCons (show true = true from rfl) ?_
    refine obsCons (show true = true from rfl) ?_
    refine obsCons (show true = true from rfl) ?_
    refine obsCons (show true = true from rfl) ?_
    refine obsCons (show true = true from rfl) ?_
    refine obsCons (show true = true from rfl) ?_
    refine obsCons (show true = true from rfl) ?_
    exact obsNil
  · exact (LsR.cons' (vr_agg_list (LsR.cons' (.sym 0 rfl rfl) (LsR.cons' (.sym 1 rfl rfl) (LsR.cons' (.sym 2 rfl rfl) (LsR.cons' (.sym 3 rfl rfl) (LsR.cons' (.sym 4 rfl rfl) (LsR.cons' (.sym 5 rfl rfl) (LsR.cons' (.sym 6 rfl rfl) (LsR.cons' (.sym 7 rfl rfl) (LsR.nil _)))))))))) (LsR.nil _))
def hintsTcbsReset5 : List Hint := [.dec false, .dec false, .dec false, .dirty [3], .dec true, .dec false, .dec false, .dec false, .dirty [7], .dec true, .dec false, .dec false, .dirty [], .dirty [19], .dirty [], .dirty [19], .dirty [29], .dirty [], .dirty [18], .dirty [], .dirty [], .dirty [], .dirty [], .dirty [], .dirty [], .dirty [37], .dirty [], .dirty [19], .dirty [], .dirty [], .dirty [], .dirty [], .dirty [], .dirty [], .dirty [], .dirty [], .dirty [], .dirty [], .dirty [], .dirty [], .dirty [48], .dirty [], .dirty [19], .dirty [], .dirty [], .dirty [], .dirty [], .dirty [], .dirty []]
def obsTcbsReset5 : List Ob := [.is 47 false, .bin .neq 23 (.chan (some 26)) (.chan (some 46)) 47, .bin .add 23 (.chan (some 2)) (.chan (some 41)) 46, .is 44 false, .bin .eql 5 (.chan (some 43)) (.int .u8 1) 44, .bin .rem 5 (.chan (some 42)) (.int .u8 2) 43, .bin .quo 5 (.chan (some 4)) (.int .u8 1) 42, .bin .add 23 (.chan (some 36)) (.int .u32 1) 41, .is 39 true, .bin .eql 5 (.chan (some 38)) (.int .u8 1) 39, .bin .rem 5 (.chan (some 37)) (.int .u8 2) 38, .bin .quo 5 (.chan (some 4)) (.int .u8 2) 37, .conv 3 23 (.chan (some 35)) 36, .built .len #[24] 3 #[false] [(.chan (some 7))] 35, .is 33 false, .bin .eql 5 (.chan (some 32)) (.int .u8 1) 33, .bin .rem 5 (.chan (some 31)) (.int .u8 2) 32, .bin .quo 5 (.chan (some 4)) (.int .u8 16) 31, .is 29 false, .bin .eql 5 (.chan (some 28)) (.int .u8 1) 29, .bin .rem 5 (.chan (some 27)) (.int .u8 2) 28, .bin .quo 5 (.chan (some 4)) (.int .u8 4) 27, .bin .add 23 (.chan (some 2)) (.chan (some 22)) 26, .is 24 false, .bin .neq 5 (.chan (some 23)) (.int .u8 0) 24, .bin .and 5 (.chan (some 4)) (.int .u8 1) 23, .bin .add 23 (.chan (some 18)) (.int .u32 1) 22, .is 20 true, .bin .neq 5 (.chan (some 19)) (.int .u8 0) 20, .bin .and 5 (.chan (some 4)) (.int .u8 2) 19, .conv 3 23 (.chan (some 17)) 18, .built .len #[24] 3 #[false] [(.chan (some 7))] 17, .is 15 false, .bin .neq 5 (.chan (some 14)) (.int .u8 0) 15, .bin .and 5 (.chan (some 4)) (.int .u8 16) 14, .is 12 false, .bin .neq 5 (.chan (some 11)) (.int .u8 0) 12, .bin .and 5 (.chan (some 4)) (.int .u8 4) 11, .is 9 false, .bin .gtr 3 (.chan (some 8)) (.int .i64 5000) 9, .built .len #[24] 3 #[false] [(.chan (some 7))] 8, .test true true, .test true true, .test true true, .test true true, .test true true, .test true true, .test true true, .test true true]
theorem runTcbsReset5 : taken (ev Try.prog (fun _ => false) 3000 (.call 3 [.agg #[.chan (some 0), .chan (some 1), .chan (some 2), .chan (some 3), .chan (some 4), .chan (some 5), .chan (some 6), .chan (some 7)]]) ⟨[], [none], hintsTcbsReset5, List.replicate 8 (.test true true)⟩) = some obsTcbsReset5 := by kernel_rfl
def tabTcbsReset5 (x0 : Int) (x1 : Int) (x2 : Int) (x3 : Int) (x4 : Int) (x5 : Int) (x6 : Int) (o7 : Option Addr) (n7 c7 : Nat) : List Value := [.int .u16 (x0), .int .u16 (x1), .int .u32 (x2), .int .u32 (x3), .int .u8 (x4), .int .u16 (x5), .int .u16 (x6), .slice o7 n7 c7, .int .i64 ((n7 : Int)), .bool (decide (((n7 : Int)) > ((5000 : Int)))), undef, .int .u8 (IntKind.wrap .u8 ((BitVec.ofInt 8 (x4) &&& BitVec.ofInt 8 ((4 : Int))).toNat : Nat)), .bool ((IntKind.wrap .u8 ((BitVec.ofInt 8 (x4) &&& BitVec.ofInt 8 ((4 : Int))).toNat : Nat)) != ((0 : Int))), undef, .int .u8 (IntKind.wrap .u8 ((BitVec.ofInt 8 (x4) &&& BitVec.ofInt 8 ((16 : Int))).toNat : Nat)), .bool ((IntKind.wrap .u8 ((BitVec.ofInt 8 (x4) &&& BitVec.ofInt 8 ((16 : Int))).toNat : Nat)) != ((0 : Int))), undef, .int .i64 ((n7 : Int)), .int .u32 (IntKind.wrap .u32 ((n7 : Int))), .int .u8 (IntKind.wrap .u8 ((BitVec.ofInt 8 (x4) &&& BitVec.ofInt 8 ((2 : Int))).toNat : Nat)), .bool ((IntKind.wrap .u8 ((BitVec.ofInt 8 (x4) &&& BitVec.ofInt 8 ((2 : Int))).toNat : Nat)) != ((0 : Int))), undef, .int .u32 (IntKind.wrap .u32 (IntKind.wrap .u32 ((n7 : Int)) + (1 : Int))), .int .u8 (IntKind.wrap .u8 ((BitVec.ofInt 8 (x4) &&& BitVec.ofInt 8 ((1 : Int))).toNat : Nat)), .bool ((IntKind.wrap .u8 ((BitVec.ofInt 8 (x4) &&& BitVec.ofInt 8 ((1 : Int))).toNat : Nat)) != ((0 : Int))), undef, .int .u32 (IntKind.wrap .u32 (x2 + IntKind.wrap .u32 (IntKind.wrap .u32 ((n7 : Int)) + (1 : Int)))), .int .u8 (IntKind.wrap .u8 (Int.tdiv (x4) ((4 : Int)))), .int .u8 (Int.tmod (IntKind.wrap .u8 (Int.tdiv (x4) ((4 : Int)))) ((2 : Int))), .bool ((Int.tmod (IntKind.wrap .u8 (Int.tdiv (x4) ((4 : Int)))) ((2 : Int))) == ((1 : Int))), undef, .int .u8 (IntKind.wrap .u8 (Int.tdiv (x4) ((16 : Int)))), .int .u8 (Int.tmod (IntKind.wrap .u8 (Int.tdiv (x4) ((16 : Int)))) ((2 : Int))), .bool ((Int.tmod (IntKind.wrap .u8 (Int.tdiv (x4) ((16 : Int)))) ((2 : Int))) == ((1 : Int))), undef, .int .i64 ((n7 : Int)), .int .u32 (IntKind.wrap .u32 ((n7 : Int))), .int .u8 (IntKind.wrap .u8 (Int.tdiv (x4) ((2 : Int)))), .int .u8 (Int.tmod (IntKind.wrap .u8 (Int.tdiv (x4) ((2 : Int)))) ((2 : Int))), .bool ((Int.tmod (IntKind.wrap .u8 (Int.tdiv (x4) ((2 : Int)))) ((2 : Int))) == ((1 : Int))), undef, .int .u32 (IntKind.wrap .u32 (IntKind.wrap .u32 ((n7 : Int)) + (1 : Int))), .int .u8 (IntKind.wrap .u8 (Int.tdiv (x4) ((1 : Int)))), .int .u8 (Int.tmod (IntKind.wrap .u8 (Int.tdiv (x4) ((1 : Int)))) ((2 : Int))), .bool ((Int.tmod (IntKind.wrap .u8 (Int.tdiv (x4) ((1 : Int)))) ((2 : Int))) == ((1 : Int))), undef, .int .u32 (IntKind.wrap .u32 (x2 + IntKind.wrap .u32 (IntKind.wrap .u32 ((n7 : Int)) + (1 : Int)))), .bool ((IntKind.wrap .u32 (x2 + IntKind.wrap .u32 (IntKind.wrap .u32 ((n7 : Int)) + (1 : Int)))) != (IntKind.wrap .u32 (x2 + IntKind.wrap .u32 (IntKind.wrap .u32 ((n7 : Int)) + (1 : Int)))))]
def DTcbsReset5 (x4 : Int) : Bool := (((IntKind.wrap .u8 ((BitVec.ofInt 8 (x4) &&& BitVec.ofInt 8 ((4 : Int))).toNat : Nat)) != ((0 : Int))) == false) && (((IntKind.wrap .u8 ((BitVec.ofInt 8 (x4) &&& BitVec.ofInt 8 ((16 : Int))).toNat : Nat)) != ((0 : Int))) == false) && (((IntKind.wrap .u8 ((BitVec.ofInt 8 (x4) &&& BitVec.ofInt 8 ((2 : Int))).toNat : Nat)) != ((0 : Int))) == true) && (((IntKind.wrap .u8 ((BitVec.ofInt 8 (x4) &&& BitVec.ofInt 8 ((1 : Int))).toNat : Nat)) != ((0 : Int))) == false) && (((Int.tmod (IntKind.wrap .u8 (Int.tdiv (x4) ((4 : Int)))) ((2 : Int))) == ((1 : Int))) == false) && (((Int.tmod (IntKind.wrap .u8 (Int.tdiv (x4) ((16 : Int)))) ((2 : Int))) == ((1 : Int))) == false) && (((Int.tmod (IntKind.wrap .u8 (Int.tdiv (x4) ((2 : Int)))) ((2 : Int))) == ((1 : Int))) == true) && (((Int.tmod (IntKind.wrap .u8 (Int.tdiv (x4) ((1 : Int)))) ((2 : Int))) == ((1 : Int))) == false) && true
theorem pathTcbsReset5 (x0 : Int) (x1 : Int) (x2 : Int) (x3 : Int) (x4 : Int) (x5 : Int) (x6 : Int) (o7 : Option Addr) (n7 c7 : Nat) (hD : DTcbsReset5 x4 = true) (g9 : (decide (((n7 : Int)) > ((5000 : Int)))) = false) (w : World) : Calls Try.prog 3 #[.agg #[.int .u16 (x0), .int .u16 (x1), .int .u32 (x2), .int .u32 (x3), .int .u8 (x4), .int .u16 (x5), .int .u16 (x6), .slice o7 n7 c7]] w fun e w' => e = .returned (.bool true) ∧ Below w.heap.size w w' := by
  unfold DTcbsReset5 at hD
  obtain ⟨hD, _⟩ := andT hD
  obtain ⟨hD, d44⟩ := andT hD
  obtain ⟨hD, d39⟩ := andT hD
  obtain ⟨hD, d33⟩ := andT hD
  obtain ⟨hD, d29⟩ := andT hD
  obtain ⟨hD, d24⟩ := andT hD
  obtain ⟨hD, d20⟩ := andT hD
  obtain ⟨hD, d15⟩ := andT hD
  have d12 := hD
  replace d12 := beqT d12
  replace d15 := beqT d15
  replace d20 := beqT d20
  replace d24 := beqT d24
  replace d29 := beqT d29
  replace d33 := beqT d33
  replace d39 := beqT d39
  replace d44 := beqT d44
  letI : Sym := ⟨fun i => (tabTcbsReset5 x0 x1 x2 x3 x4 x5 x6 o7 n7 c7).getD i undef⟩
  refine calls_of_taken noNum mixed runTcbsReset5 ?_ w (M.dead w _ 1) ?_
  · unfold obsTcbsReset5
    refine obsCons (show Sym.val 47 = _ from congrArg Value.bool (by simp)) ?_
    refine obsCons (holds_bin rfl rfl rfl rfl) ?_
    refine obsCons (holds_bin rfl rfl rfl rfl) ?_
    refine obsCons (show Sym.val 44 = _ from congrArg Value.bool d44) ?_
    refine obsCons (holds_bin rfl rfl rfl rfl) ?_
    refine obsCons (holds_bin rfl rfl rfl rfl) ?_
    refine obsCons (holds_bin rfl rfl rfl rfl) ?_
    refine obsCons (holds_bin rfl rfl rfl rfl) ?_
    refine obsCons (show Sym.val 39 = _ from congrArg Value.bool d39) ?_
    refine obsCons (holds_bin rfl rfl rfl rfl) ?_
    refine obsCons (holds_bin rfl rfl rfl rfl) ?_
    refine obsCons (holds_bin rfl rfl rfl rfl) ?_
    refine obsCons (holds_conv Try.underlying3 Try.underlying23 rfl rfl) ?_
    refine obsCons (holds_len Try.underlying24 rfl rfl) ?_
    refine obsCons (show Sym.val 33 = _ from congrArg Value.bool d33) ?_
    refine obsCons (holds_bin rfl rfl rfl rfl) ?_
    refine obsCons (holds_bin rfl rfl rfl rfl) ?_
    refine obsCons (holds_bin rfl rfl rfl rfl) ?_
    refine obsCons (show Sym.val 29 = _ from congrArg Value.bool d29) ?_
    refine obsCons (holds_bin rfl rfl rfl rfl) ?_
    refine obsCons (holds_bin rfl rfl rfl rfl) ?_
    refine obsCons (holds_bin rfl rfl rfl rfl) ?_
    refine obsCons (holds_bin rfl rfl rfl rfl) ?_
    refine obsCons (show Sym.val 24 = _ from congrArg Value.bool d24) ?_
    refine obsCons (holds_bin rfl rfl rfl rfl) ?_
    refine obsCons (holds_bin rfl rfl rfl rfl) ?_
    refine obsCons (holds_bin rfl rfl rfl rfl) ?_
    refine obsCons (show Sym.val 20 = _ from congrArg Value.bool d20) ?_
    refine obsCons (holds_bin rfl rfl rfl rfl) ?_
    refine obsCons (holds_bin rfl rfl rfl rfl) ?_
    refine obsCons (holds_conv Try.underlying3 Try.underlying23 rfl rfl) ?_
    refine obsCons (holds_len Try.underlying24 rfl rfl) ?_
    refine obsCons (show Sym.val 15 = _ from congrArg Value.bool d15) ?_
    refine obsCons (holds_bin rfl rfl rfl rfl) ?_
    refine obsCons (holds_bin rfl rfl rfl rfl) ?_
    refine obsCons (show Sym.val 12 = _ from congrArg Value.bool d12) ?_
    refine obsCons (holds_bin rfl rfl rfl rfl) ?_
    refine obsCons (holds_bin rfl rfl rfl rfl) ?_
    refine obsCons (show Sym.val 9 = _ from congrArg Value.bool g9) ?_
    refine obsCons (holds_bin rfl rfl rfl rfl) ?_
    refine obsCons (holds_len Try.underlying24 rfl rfl) ?_
    refine obsCons (show true = true from rfl) ?_
    refine obsCons (show true = true from rfl) ?_
    refine obsCons (show true = true from rfl) ?_
    refine obsCons (show true = true from rfl) ?_
    refine obsCons (show true = true from rfl) ?_
    refine obsCons (show true = true from rfl) ?_
    refine obsCons (show true = true from rfl) ?_
    refine obsCons (show true = true from rfl) ?_
    exact obsNil
  · exact (LsR.cons' (vr_agg_list (LsR.cons' (.sym 0 rfl rfl) (LsR.cons' (.sym 1 rfl rfl) (LsR.cons' (.sym 2 rfl rfl) (LsR.cons' (.sym 3 rfl rfl) (LsR.cons' (.sym 4 rfl rfl) (LsR.cons' (.sym 5 rfl rfl) (LsR.cons' (.sym 6 rfl rfl) (LsR.cons' (.sym 7 rfl rfl) (LsR.nil _)))))))))) (LsR.nil _))
def hintsTcbsReset6 : List Hint := [.dec false, .dec false, .dec false, .dirty [3], .dec true, .dec true, .dec false, .dec false, .dirty [7], .dec true, .dec true, .dec false, .dirty [], .dirty [19], .dirty [], .dirty [19], .dirty [29], .dirty [], .dirty [18], .dirty [], .dirty [], .dirty [], .dirty [], .dirty [], .dirty [], .dirty [37], .dirty [], .dirty [19], .dirty [], .dirty [], .dirty [], .dirty [], .dirty [], .dirty [], .dirty [], .dirty [], .dirty [], .dirty [], .dirty [], .dirty [], .dirty [48], .dirty [], .dirty [19], .dirty [], .dirty [], .dirty [], .dirty [], .dirty [], .dirty []]
def obsTcbsReset6 : List Ob := [.is 49 false, .bin .neq 23 (.chan (some 27)) (.chan (some 48)) 49, .bin .add 23 (.chan (some 2)) (.chan (some 47)) 48, .bin .add 23 (.chan (some 42)) (.int .u32 1) 47, .is 45 true, .bin .eql 5 (.chan (some 44)) (.int .u8 1) 45, .bin .rem 5 (.chan (some 43)) (.int .u8 2) 44, .bin .quo 5 (.chan (some 4)) (.int .u8 1) 43, .bin .add 23 (.chan (some 37)) (.int .u32 1) 42, .is 40 true, .bin .eql 5 (.chan (some 39)) (.int .u8 1) 40, .bin .rem 5 (.chan (some 38)) (.int .u8 2) 39, .bin .quo 5 (.chan (some 4)) (.int .u8 2) 38, .conv 3 23 (.chan (some 36)) 37, .built .len #[24] 3 #[false] [(.chan (some 7))] 36, .is 34 false, .bin .eql 5 (.chan (some 33)) (.int .u8 1) 34, .bin .rem 5 (.chan (some 32)) (.int .u8 2) 33, .bin .quo 5 (.chan (some 4)) (.int .u8 16) 32, .is 30 false, .bin .eql 5 (.chan (some 29)) (.int .u8 1) 30, .bin .rem 5 (.chan (some 28)) (.int .u8 2) 29, .bin .quo 5 (.chan (some 4)) (.int .u8 4) 28, .bin .add 23 (.chan (some 2)) (.chan (some 26)) 27, .bin .add 23 (.chan (some 22)) (.int .u32 1) 26, .is 24 true, .bin .neq 5 (.chan (some 23)) (.int .u8 0) 24, .bin .and 5 (.chan (some 4)) (.int .u8 1) 23, .bin .add 23 (.chan (some 18)) (.int .u32 1) 22, .is 20 true, .bin .neq 5 (.chan (some 19)) (.int .u8 0) 20, .bin .and 5 (.chan (some 4)) (.int .u8 2) 19, .conv 3 23 (.chan (some 17)) 18, .built .len #[24] 3 #[false] [(.chan (some 7))] 17, .is 15 false, .bin .neq 5 (.chan (some 14)) (.int .u8 0) 15, .bin .and 5 (.chan (some 4)) (.int .u8 16) 14, .is 12 false, .bin .neq 5 (.chan (some 11)) (.int .u8 0) 12, .bin .and 5 (.chan (some 4)) (.int .u8 4) 11, .is 9 false, .bin .gtr 3 (.chan (some 8)) (.int .i64 5000) 9, .built .len #[24] 3 #[false] [(.chan (some 7))] 8, .test true true, .test true true, .test true true, .test true true, .test true true, .test true true, .test true true, .test true true]
theorem runTcbsReset6 : taken (ev Try.prog (fun _ => false) 3000 (.call 3 [.agg #[.chan (some 0), .chan (some 1), .chan (some 2), .chan (some 3), .chan (some 4), .chan (some 5), .chan (some 6), .chan (some 7)]]) ⟨[], [none], hintsTcbsReset6, List.replicate 8 (.test true true)⟩) = some obsTcbsReset6 := by kernel_rfl
def tabTcbsReset6 (x0 : Int) (x1 : Int) (x2 : Int) (x3 : Int) (x4 : Int) (x5 : Int) (x6 : Int) (o7 : Option Addr) (n7 c7 : Nat) : List Value := [.int .u16 (x0), .int .u16 (x1), .int .u32 (x2), .int .u32 (x3), .int .u8 (x4), .int .u16 (x5), .int .u16 (x6), .slice o7 n7 c7, .int .i64 ((n7 : Int)), .bool (decide (((n7 : Int)) > ((5000 : Int)))), undef, .int .u8 (IntKind.wrap .u8 ((BitVec.ofInt 8 (x4) &&& BitVec.ofInt 8 ((4 : Int))).toNat : Nat)), .bool ((IntKind.wrap .u8 ((BitVec.ofInt 8 (x4) &&& BitVec.ofInt 8 ((4 : Int))).toNat : Nat)) != ((0 : Int))), undef, .int .u8 (IntKind.wrap .u8 ((BitVec.ofInt 8 (x4) &&& BitVec.ofInt 8 ((16 : Int))).toNat : Nat)), .bool ((IntKind.wrap .u8 ((BitVec.ofInt 8 (x4) &&& BitVec.ofInt 8 ((16 : Int))).toNat : Nat)) != ((0 : Int))), undef, .int .i64 ((n7 : Int)), .int .u32 (IntKind.wrap .u32 ((n7 : Int))), .int .u8 (IntKind.wrap .u8 ((BitVec.ofInt 8 (x4) &&& BitVec.ofInt 8 ((2 : Int))).toNat : Nat)), .bool ((IntKind.wrap .u8 ((BitVec.ofInt 8 (x4) &&& BitVec.ofInt 8 ((2 : Int))).toNat : Nat)) != ((0 : Int))), undef, .int .u32 (IntKind.wrap .u32 (IntKind.wrap .u32 ((n7 : Int)) + (1 : Int))), .int .u8 (IntKind.wrap .u8 ((BitVec.ofInt 8 (x4) &&& BitVec.ofInt 8 ((1 : Int))).toNat : Nat)), .bool ((IntKind.wrap .u8 ((BitVec.ofInt 8 (x4) &&& BitVec.ofInt 8 ((1 : Int))).toNat : Nat)) != ((0 : Int))), undef, .int .u32 (IntKind.wrap .u32 (IntKind.wrap .u32 (IntKind.wrap .u32 ((n7 : Int)) + (1 : Int)) + (1 : Int))), .int .u32 (IntKind.wrap .u32 (x2 + IntKind.wrap .u32 (IntKind.wrap .u32 (IntKind.wrap .u32 ((n7 : Int)) + (1 : Int)) + (1 : Int)))), .int .u8 (IntKind.wrap .u8 (Int.tdiv (x4) ((4 : Int)))), .int .u8 (Int.tmod (IntKind.wrap .u8 (Int.tdiv (x4) ((4 : Int)))) ((2 : Int))), .bool ((Int.tmod (IntKind.wrap .u8 (Int.tdiv (x4) ((4 : Int)))) ((2 : Int))) == ((1 : Int))), undef, .int .u8 (IntKind.wrap .u8 (Int.tdiv (x4) ((16 : Int)))), .int .u8 (Int.tmod (IntKind.wrap .u8 (Int.tdiv (x4) ((16 : Int)))) ((2 : Int))), .bool ((Int.tmod (IntKind.wrap .u8 (Int.tdiv (x4) ((16 : Int)))) ((2 : Int))) == ((1 : Int))), undef, .int .i64 ((n7 : Int)), .int .u32 (IntKind.wrap .u32 ((n7 : Int))), .int .u8 (IntKind.wrap .u8 (Int.tdiv (x4) ((2 : Int)))), .int .u8 (Int.tmod (IntKind.wrap .u8 (Int.tdiv (x4) ((2 : Int)))) ((2 : Int))), .bool ((Int.tmod (IntKind.wrap .u8 (Int.tdiv (x4) ((2 : Int)))) ((2 : Int))) == ((1 : Int))), undef, .int .u32 (IntKind.wrap .u32 (IntKind.wrap .u32 ((n7 : Int)) + (1 : Int))), .int .u8 (IntKind.wrap .u8 (Int.tdiv (x4) ((1 : Int)))), .int .u8 (Int.tmod (IntKind.wrap .u8 (Int.tdiv (x4) ((1 : Int)))) ((2 : Int))), .bool ((Int.tmod (IntKind.wrap .u8 (Int.tdiv (x4) ((1 : Int)))) ((2 : Int))) == ((1 : Int))), undef, .int .u32 (IntKind.wrap .u32 (IntKind.wrap .u32 (IntKind.wrap .u32 ((n7 : Int)) + (1 : Int)) + (1 : Int))), .int .u32 (IntKind.wrap .u32 (x2 + IntKind.wrap .u32 (IntKind.wrap .u32 (IntKind.wrap .u32 ((n7 : Int)) + (1 : Int)) + (1 : Int)))), .bool ((IntKind.wrap .u32 (x2 + IntKind.wrap .u32 (IntKind.wrap .u32 (IntKind.wrap .u32 ((n7 : Int)) + (1 : Int)) + (1 : Int)))) != (IntKind.wrap .u32 (x2 + IntKind.wrap .u32 (IntKind.wrap .u32 (IntKind.wrap .u32 ((n7 : Int)) + (1 : Int)) + (1 : Int)))))]
def DTcbsReset6 (x4 : Int) : Bool := (((IntKind.wrap .u8 ((BitVec.ofInt 8 (x4) &&& BitVec.ofInt 8 ((4 : Int))).toNat : Nat)) != ((0 : Int))) == false) && (((IntKind.wrap .u8 ((BitVec.ofInt 8 (x4) &&& BitVec.ofInt 8 ((16 : Int))).toNat : Nat)) != ((0 : Int))) == false) && (((IntKind.wrap .u8 ((BitVec.ofInt 8 (x4) &&& BitVec.ofInt 8 ((2 : Int))).toNat : Nat)) != ((0 : Int))) == true) && (((IntKind.wrap .u8 ((BitVec.ofInt 8 (x4) &&& BitVec.ofInt 8 ((1 : Int))).toNat : Nat)) != ((0 : Int))) == true) && (((Int.tmod (IntKind.wrap .u8 (Int.tdiv (x4) ((4 : Int)))) ((2 : Int))) == ((1 : Int))) == false) && (((Int.tmod (IntKind.wrap .u8 (Int.tdiv (x4) ((16 : Int)))) ((2 : Int))) == ((1 : Int))) == false) && (((Int.tmod (IntKind.wrap .u8 (Int.tdiv (x4) ((2 : Int)))) ((2 : Int))) == ((1 : Int))) == true) && (((Int.tmod (IntKind.wrap .u8 (Int.tdiv (x4) ((1 : Int)))) ((2 : Int))) == ((1 : Int))) == true) && true
theorem pathTcbsReset6 (x0 : Int) (x1 : Int) (x2 : Int) (x3 : Int) (x4 : Int) (x5 : Int) (x6 : Int) (o7 : Option Addr) (n7 c7 : Nat) (hD : DTcbsReset6 x4 = true) (g9 : (decide (((n7 : Int)) > ((5000 : Int)))) = false) (w : World) : Calls Try.prog 3 #[.agg #[.int .u16 (x0), .int .u16 (x1), .int .u32 (x2), .int .u32 (x3), .int .u8 (x4), .int .u16 (x5), .int .u16 (x6), .slice o7 n7 c7]] w fun e w' => e = .returned (.bool true) ∧ Below w.heap.size w w' := by
  unfold DTcbsReset6 at hD
  obtain ⟨hD, _⟩ := andT hD
  obtain ⟨hD, d45⟩ := andT hD
  obtain ⟨hD, d40⟩ := andT hD
  obtain ⟨hD, d34⟩ := andT hD
  obtain ⟨hD, d30⟩ := andT hD
  obtain ⟨hD, d24⟩ := andT hD
  obtain ⟨hD, d20⟩ := andT hD
  obtain ⟨hD, d15⟩ := andT hD
  have d12 := hD
  replace d12 := beqT d12
  replace d15 := beqT d15
  replace d20 := beqT d20
  replace d24 := beqT d24
  replace d30 := beqT d30
  replace d34 := beqT d34
  replace d40 := beqT d40
  replace d45 := beqT d45
  letI : Sym := ⟨fun i => (tabTcbsReset6 x0 x1 x2 x3 x4 x5 x6 o7 n7 c7).getD i undef⟩
  refine calls_of_taken noNum mixed runTcbsReset6 ?_ w (M.dead w _ 1) ?_
  · unfold obsTcbsReset6
    refine obsCons (show Sym.val 49 = _ from congrArg Value.bool (by simp)) ?_
    refine obsCons (holds_bin rfl rfl rfl rfl) ?_
    refine obsCons (holds_bin rfl rfl rfl rfl) ?_
    refine obsCons (holds_bin rfl rfl rfl rfl) ?_
    refine obsCons (show Sym.val 45 = _ from congrArg Value.bool d45) ?_
    refine obsCons (holds_bin rfl rfl rfl rfl) ?_
    refine obsCons (holds_bin rfl rfl rfl rfl) ?_
    refine obsCons (holds_bin rfl rfl rfl rfl) ?_
    refine obsCons (holds_bin rfl rfl rfl rfl) ?_
    refine obsCons (show Sym.val 40 = _ from congrArg Value.bool d40) ?_
    refine obsCons (holds_bin rfl rfl rfl rfl) ?_
    refine obsCons (holds_bin rfl rfl rfl rfl) ?_
    refine obsCons (holds_bin rfl rfl rfl rfl) ?_
    refine obsCons (holds_conv Try.underlying3 Try.underlying23 rfl rfl) ?_
    refine obsCons (holds_len Try.underlying24 rfl rfl) ?_
    refine obsCons (show Sym.val 34 = _ from congrArg Value.bool d34) ?_
    refine obsCons (holds_bin rfl rfl rfl rfl) ?_
    refine obsCons (holds_bin rfl rfl rfl rfl) ?_
    refine obsCons (holds_bin rfl rfl rfl rfl) ?_
    refine obsCons (show Sym.val 30 = _ from congrArg Value.bool d30) ?_
    refine obsCons (holds_bin rfl rfl rfl rfl) ?_
    refine obsCons (holds_bin rfl rfl rfl rfl) ?_
    refine obsCons (holds_bin rfl rfl rfl rfl) ?_
    refine obsCons (holds_bin rfl rfl rfl rfl) ?_
    refine obsCons (holds_bin rfl rfl rfl rfl) ?_
    refine obsCons (show Sym.val 24 = _ from congrArg Value.bool d24) ?_
    refine obsCons (holds_bin rfl rfl rfl rfl) ?_
    refine obsCons (holds_bin rfl rfl rfl rfl) ?_
    refine obsCons (holds_bin rfl rfl rfl rfl) ?_
    refine obsCons (show Sym.val 20 = _ from congrArg Value.bool d20) ?_
    refine obsCons (holds_bin rfl rfl rfl rfl) ?_
    refine obsCons (holds_bin rfl rfl rfl rfl) ?_
    refine obsCons (holds_conv Try.underlying3 Try.underlying23 rfl rfl) ?_
    refine obsCons (holds_len Try.underlying24 rfl rfl) ?_
    refine obsCons (show Sym.val 15 = _ from congrArg Value.bool d15) ?_
    refine obsCons (holds_bin rfl rfl rfl rfl) ?_
    refine obsCons (holds_bin rfl rfl rfl rfl) ?_
    refine obsCons (show Sym.val 12 = _ from congrArg Value.bool d12) ?_
    refine obsCons (holds_bin rfl rfl rfl rfl) ?_
    refine obsCons (holds_bin rfl rfl rfl rfl) ?_
    refine obsCons (show Sym.val 9 = _ from congrArg Value.bool g9) ?_
    refine obsCons (holds_bin rfl rfl rfl rfl) ?_
    refine obsCons (holds_len Try.underlying24 rfl rfl) ?_
    refine obsCons (show true = true from rfl) ?_
    refine obsCons (show true = true from rfl) ?_
    refine obsCons (show true = true from rfl) ?_
    refine obsCons (show true = true from rfl) ?_
    refine obsCons (show true = true from rfl) ?_
    refine obsCons (show true = true from rfl) ?_
    refine obsCons (show true = true from rfl) ?_
    refine obsCons (show true = true from rfl) ?_
    exact obsNil
  · exact (LsR.cons' (vr_agg_list (LsR.cons' (.sym 0 rfl rfl) (LsR.cons' (.sym 1 rfl rfl) (LsR.cons' (.sym 2 rfl rfl) (LsR.cons' (.sym 3 rfl rfl) (LsR.cons' (.sym 4 rfl rfl) (LsR.cons' (.sym 5 rfl rfl) (LsR.cons' (.sym 6 rfl rfl) (LsR.cons' (.sym 7 rfl rfl) (LsR.nil _)))))))))) (LsR.nil _))
theorem cover : ∀ f : Fin 256, (DTcbsReset1 ((f.val : Nat) : Int) || DTcbsReset2 ((f.val : Nat) : Int) || DTcbsReset3 ((f.val : Nat) : Int) || DTcbsReset4 ((f.val : Nat) : Int) || DTcbsReset5 ((f.val : Nat) : Int) || DTcbsReset6 ((f.val : Nat) : Int)) = true := by decide +kernel
end Go.Proofs.Ytbkijlffaigpiaa
