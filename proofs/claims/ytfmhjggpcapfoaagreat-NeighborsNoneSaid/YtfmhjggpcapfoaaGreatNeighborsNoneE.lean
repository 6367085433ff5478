/- The paths of NeighborsNone, reckoned with symbols for what comes in. No condition but the numbers' bounds. -/
import Derived.Test.YtfmhjggpcapfoaaGreatCfg
import Derived.Test.YtfmhjggpcapfoaaGreatZevN
import Derived.Test.YtfmhjggpcapfoaaGreatLives
namespace Go.Proofs.YtfmhjggpcapfoaaGreat.neighborsNone.e
open Go.RowKit Go.Proofs.YtfmhjggpcapfoaaGreatZev
set_option linter.unusedVariables false
set_option maxRecDepth 20000
instance kin : Kin := ⟨fun i => ([some .u8, some .u8, some .u8, some .u8, some .u8, some .u8, some .u8, some .u8, some .u8, some .u8, some .u8, some .u8, some .u8, some .u8, some .u8, some .u8, some .u8, some .u8, some .u8, some .u8, some .u8, some .u8, some .u8, none, some .u8, none, some .u32, some .u64, some .u64] : List (Option IntKind)).getD i none⟩
def hints0 : List Hint := [.dirty [], .dirty [], .dirty [], .dirty []]
def obs0 : List Ob := [.test true true, .test true true, .test true true, .test true true, .test true true, .test true true, .test true true, .test true true, .test true true, .test true true, .test true true, .test true true, .test true true, .test true true, .test true true, .test true true, .test true true, .test true true, .test true true, .test true true, .test true true, .test true true, .test true true, .test true true, .test true true, .test true true, .test true true, .test true true, .test true true]
theorem run0 : taken (ev (cfgL Tryz.prog) ro false 20000 (.call 5 [.agg #[.chan (some 0), .chan (some 1), .chan (some 2), .chan (some 3), .chan (some 4), .chan (some 5), .chan (some 6), .chan (some 7), .chan (some 8), .chan (some 9), .chan (some 10), .chan (some 11), .chan (some 12), .chan (some 13), .chan (some 14), .chan (some 15), .chan (some 16), .chan (some 17), .chan (some 18), .chan (some 19), .chan (some 20), .chan (some 21), .chan (some 22), .chan (some 23), .chan (some 24), .slice none 0 0, .chan (some 26), .chan (some 27), .chan (some 28)]]) ⟨[], H0 1, hints0, List.replicate 29 (.test true true), []⟩) = some obs0 := by kernel_rfl
def tab0 (x0 : Nat) (x1 : Nat) (x2 : Nat) (x3 : Nat) (x4 : Nat) (x5 : Nat) (x6 : Nat) (x7 : Nat) (x8 : Nat) (x9 : Nat) (x10 : Nat) (x11 : Nat) (x12 : Nat) (x13 : Nat) (x14 : Nat) (x15 : Nat) (x16 : Nat) (x17 : Nat) (x18 : Nat) (x19 : Nat) (x20 : Nat) (x21 : Nat) (x22 : Nat) (x23 : Bool) (x24 : Nat) (x26 : Nat) (x27 : Nat) (x28 : Nat) : List Value := [.int .u8 ((x0 : Nat) : Int), .int .u8 ((x1 : Nat) : Int), .int .u8 ((x2 : Nat) : Int), .int .u8 ((x3 : Nat) : Int), .int .u8 ((x4 : Nat) : Int), .int .u8 ((x5 : Nat) : Int), .int .u8 ((x6 : Nat) : Int), .int .u8 ((x7 : Nat) : Int), .int .u8 ((x8 : Nat) : Int), .int .u8 ((x9 : Nat) : Int), .int .u8 ((x10 : Nat) : Int), .int .u8 ((x11 : Nat) : Int), .int .u8 ((x12 : Nat) : Int), .int .u8 ((x13 : Nat) : Int), .int .u8 ((x14 : Nat) : Int), .int .u8 ((x15 : Nat) : Int), .int .u8 ((x16 : Nat) : Int), .int .u8 ((x17 : Nat) : Int), .int .u8 ((x18 : Nat) : Int), .int .u8 ((x19 : Nat) : Int), .int .u8 ((x20 : Nat) : Int), .int .u8 ((x21 : Nat) : Int), .int .u8 ((x22 : Nat) : Int), .bool (x23), .int .u8 ((x24 : Nat) : Int), .slice none 0 0, .int .u32 ((x26 : Nat) : Int), .int .u64 ((x27 : Nat) : Int), .int .u64 ((x28 : Nat) : Int)]
theorem path0 (x0 : Nat) (x1 : Nat) (x2 : Nat) (x3 : Nat) (x4 : Nat) (x5 : Nat) (x6 : Nat) (x7 : Nat) (x8 : Nat) (x9 : Nat) (x10 : Nat) (x11 : Nat) (x12 : Nat) (x13 : Nat) (x14 : Nat) (x15 : Nat) (x16 : Nat) (x17 : Nat) (x18 : Nat) (x19 : Nat) (x20 : Nat) (x21 : Nat) (x22 : Nat) (x23 : Bool) (x24 : Nat) (x26 : Nat) (x27 : Nat) (x28 : Nat) (b0 : x0 < 256) (b1 : x1 < 256) (b2 : x2 < 256) (b3 : x3 < 256) (b4 : x4 < 256) (b5 : x5 < 256) (b6 : x6 < 256) (b7 : x7 < 256) (b8 : x8 < 256) (b9 : x9 < 256) (b10 : x10 < 256) (b11 : x11 < 256) (b12 : x12 < 256) (b13 : x13 < 256) (b14 : x14 < 256) (b15 : x15 < 256) (b16 : x16 < 256) (b17 : x17 < 256) (b18 : x18 < 256) (b19 : x19 < 256) (b20 : x20 < 256) (b21 : x21 < 256) (b22 : x22 < 256) (b24 : x24 < 256) (b26 : x26 < 4294967296) (b27 : x27 < 18446744073709551616) (b28 : x28 < 18446744073709551616)  (w : World) : Calls Tryz.prog 5 #[.agg #[.int .u8 ((x0 : Nat) : Int), .int .u8 ((x1 : Nat) : Int), .int .u8 ((x2 : Nat) : Int), .int .u8 ((x3 : Nat) : Int), .int .u8 ((x4 : Nat) : Int), .int .u8 ((x5 : Nat) : Int), .int .u8 ((x6 : Nat) : Int), .int .u8 ((x7 : Nat) : Int), .int .u8 ((x8 : Nat) : Int), .int .u8 ((x9 : Nat) : Int), .int .u8 ((x10 : Nat) : Int), .int .u8 ((x11 : Nat) : Int), .int .u8 ((x12 : Nat) : Int), .int .u8 ((x13 : Nat) : Int), .int .u8 ((x14 : Nat) : Int), .int .u8 ((x15 : Nat) : Int), .int .u8 ((x16 : Nat) : Int), .int .u8 ((x17 : Nat) : Int), .int .u8 ((x18 : Nat) : Int), .int .u8 ((x19 : Nat) : Int), .int .u8 ((x20 : Nat) : Int), .int .u8 ((x21 : Nat) : Int), .int .u8 ((x22 : Nat) : Int), .bool (x23), .int .u8 ((x24 : Nat) : Int), .slice none 0 0, .int .u32 ((x26 : Nat) : Int), .int .u64 ((x27 : Nat) : Int), .int .u64 ((x28 : Nat) : Int)]] w fun e w' => e = .returned (.bool true) ∧ Below w.heap.size w w' := by
  letI : Sym := ⟨fun i => (tab0 x0 x1 x2 x3 x4 x5 x6 x7 x8 x9 x10 x11 x12 x13 x14 x15 x16 x17 x18 x19 x20 x21 x22 x23 x24 x26 x27 x28).getD i undef, fun _ _ => False, fun _ => []⟩
  refine calls_of_taken cfgLOk run0 ?_ w (mWorld w 1) ?_
  · unfold obs0
    refine obsCons (show true = true from rfl) ?_
    refine obsCons (show true = true from rfl) ?_
    refine obsCons (show true = true from rfl) ?_
    refine obsCons (show true = true from rfl) ?_
    refine obsCons (show true = true from rfl) ?_
    refine obsCons (show true = true from rfl) ?_
    refine obsCons (show true = true from rfl) ?_
    refine obsCons (show true = true from rfl) ?_
    refine obsCons (show true = true from rfl) ?_
    refine obsCons (show true = true from rfl) ?_
    refine obsCons (show true = true from rfl) ?_
    refine obsCons (show true = true from rfl) ?_
    refine obsCons (show true = true from rfl) ?_
    refine obsCons (show true = true from rfl) ?_
    refine obsCons (show true = true from rfl) ?_
    refine obsCons (show true = true from rfl) ?_
    refine obsCons (show true = true from rfl) ?_
    refine obsCons (show true = true from rfl) ?_
    refine obsCons (show true = true from rfl) ?_
    refine obsCons (show true = true from rfl) ?_
    refine obsCons (show true = true from rfl) ?_
    refine obsCons (show true = true from rfl) ?_
    refine obsCons (show true = true from rfl) ?_
    refine obsCons (show true = true from rfl) ?_
    refine obsCons (show true = true from rfl) ?_
    refine obsCons (show true = true from rfl) ?_
    refine obsCons (show true = true from rfl) ?_
    refine obsCons (show true = true from rfl) ?_
    refine obsCons (show true = true from rfl) ?_
    exact obsNil
  · exact (LsR.cons' (vr_agg_list (LsR.cons' (vr_int rfl rfl) (LsR.cons' (vr_int rfl rfl) (LsR.cons' (vr_int rfl rfl) (LsR.cons' (vr_int rfl rfl) (LsR.cons' (vr_int rfl rfl) (LsR.cons' (vr_int rfl rfl) (LsR.cons' (vr_int rfl rfl) (LsR.cons' (vr_int rfl rfl) (LsR.cons' (vr_int rfl rfl) (LsR.cons' (vr_int rfl rfl) (LsR.cons' (vr_int rfl rfl) (LsR.cons' (vr_int rfl rfl) (LsR.cons' (vr_int rfl rfl) (LsR.cons' (vr_int rfl rfl) (LsR.cons' (vr_int rfl rfl) (LsR.cons' (vr_int rfl rfl) (LsR.cons' (vr_int rfl rfl) (LsR.cons' (vr_int rfl rfl) (LsR.cons' (vr_int rfl rfl) (LsR.cons' (vr_int rfl rfl) (LsR.cons' (vr_int rfl rfl) (LsR.cons' (vr_int rfl rfl) (LsR.cons' (vr_int rfl rfl) (LsR.cons' (vr_any rfl rfl rfl) (LsR.cons' (vr_int rfl rfl) (LsR.cons' (VR.nils 0 0) (LsR.cons' (vr_int rfl rfl) (LsR.cons' (vr_int rfl rfl) (LsR.cons' (vr_int rfl rfl) (LsR.nil _))))))))))))))))))))))))))))))) (LsR.nil _))
end Go.Proofs.YtfmhjggpcapfoaaGreat.neighborsNone.e
