/- The paths of NeighborsSilent, reckoned with symbols for what comes in. No condition but the numbers' bounds. -/
import Derived.Test.YtfmhjggpcapfoaaGreatCfg
import Derived.Test.YtfmhjggpcapfoaaGreatZevN
import Derived.Test.YtfmhjggpcapfoaaGreatLives
namespace Go.Proofs.YtfmhjggpcapfoaaGreat.neighborsSilent.g
open Go.RowKit Go.Proofs.YtfmhjggpcapfoaaGreatZev
set_option linter.unusedVariables false
set_option maxRecDepth 20000
instance kin : Kin := ⟨fun i => ([some .u8, some .u8, some .u8, some .u8, some .u8, some .u8, some .u8, some .u8, some .u8, some .u8, some .u8, some .u8, some .u8, some .u8, some .u8, some .u8, none, some .u32, some .u32] : List (Option IntKind)).getD i none⟩
def hints0 : List Hint := [.dec true]
def obs0 : List Ob := [.is 19 true, .bin .gtr 3 (.chan (some 16)) (.int .i64 200) 19, .test true true, .test true true, .test true true, .test true true, .test true true, .test true true, .test true true, .test true true, .test true true, .test true true, .test true true, .test true true, .test true true, .test true true, .test true true, .test true true, .test true true, .test true true, .test true true]
theorem run0 : taken (ev (cfgL Tryz.prog) (fun l => decide (l < 1)) false 20000 (.call 4 [.agg #[.chan (some 0), .chan (some 1), .chan (some 2), .chan (some 3), .chan (some 4), .chan (some 5), .chan (some 6), .chan (some 7), .chan (some 8), .chan (some 9), .chan (some 10), .chan (some 11), .chan (some 12), .chan (some 13), .chan (some 14), .chan (some 15)], .complex .f32 16 0, .agg #[.chan (some 17), .chan (some 18)]]) ⟨[], [some (.pending #[] 0), none], hints0, List.replicate 19 (.test true true), []⟩) = some obs0 := by kernel_rfl
def tab0 (x0 : Nat) (x1 : Nat) (x2 : Nat) (x3 : Nat) (x4 : Nat) (x5 : Nat) (x6 : Nat) (x7 : Nat) (x8 : Nat) (x9 : Nat) (x10 : Nat) (x11 : Nat) (x12 : Nat) (x13 : Nat) (x14 : Nat) (x15 : Nat) (cs : List Value) (x17 : Nat) (x18 : Nat) : List Value := [.int .u8 ((x0 : Nat) : Int), .int .u8 ((x1 : Nat) : Int), .int .u8 ((x2 : Nat) : Int), .int .u8 ((x3 : Nat) : Int), .int .u8 ((x4 : Nat) : Int), .int .u8 ((x5 : Nat) : Int), .int .u8 ((x6 : Nat) : Int), .int .u8 ((x7 : Nat) : Int), .int .u8 ((x8 : Nat) : Int), .int .u8 ((x9 : Nat) : Int), .int .u8 ((x10 : Nat) : Int), .int .u8 ((x11 : Nat) : Int), .int .u8 ((x12 : Nat) : Int), .int .u8 ((x13 : Nat) : Int), .int .u8 ((x14 : Nat) : Int), .int .u8 ((x15 : Nat) : Int), .int .i64 ((cs.length : Nat) : Int), .int .u32 ((x17 : Nat) : Int), .int .u32 ((x18 : Nat) : Int), .bool (decide ((200) < (cs.length)))]
theorem path0 (x0 : Nat) (x1 : Nat) (x2 : Nat) (x3 : Nat) (x4 : Nat) (x5 : Nat) (x6 : Nat) (x7 : Nat) (x8 : Nat) (x9 : Nat) (x10 : Nat) (x11 : Nat) (x12 : Nat) (x13 : Nat) (x14 : Nat) (x15 : Nat) (w : World) (a : Addr) (c : Nat) (cs : List Value) (hcn : cs.length ≤ c) (hat : CellsAt w a cs) (x17 : Nat) (x18 : Nat) (b0 : x0 < 256) (b1 : x1 < 256) (b2 : x2 < 256) (b3 : x3 < 256) (b4 : x4 < 256) (b5 : x5 < 256) (b6 : x6 < 256) (b7 : x7 < 256) (b8 : x8 < 256) (b9 : x9 < 256) (b10 : x10 < 256) (b11 : x11 < 256) (b12 : x12 < 256) (b13 : x13 < 256) (b14 : x14 < 256) (b15 : x15 < 256) (b17 : x17 < 4294967296) (b18 : x18 < 4294967296) (g19 : (200) < (cs.length)) : Calls Tryz.prog 4 #[.agg #[.int .u8 ((x0 : Nat) : Int), .int .u8 ((x1 : Nat) : Int), .int .u8 ((x2 : Nat) : Int), .int .u8 ((x3 : Nat) : Int), .int .u8 ((x4 : Nat) : Int), .int .u8 ((x5 : Nat) : Int), .int .u8 ((x6 : Nat) : Int), .int .u8 ((x7 : Nat) : Int), .int .u8 ((x8 : Nat) : Int), .int .u8 ((x9 : Nat) : Int), .int .u8 ((x10 : Nat) : Int), .int .u8 ((x11 : Nat) : Int), .int .u8 ((x12 : Nat) : Int), .int .u8 ((x13 : Nat) : Int), .int .u8 ((x14 : Nat) : Int), .int .u8 ((x15 : Nat) : Int)], .slice (some a) cs.length c, .agg #[.int .u32 ((x17 : Nat) : Int), .int .u32 ((x18 : Nat) : Int)]] w fun e w' => e = .returned (.bool true) ∧ Below w.heap.size w w' := by
  letI : Sym := ⟨fun i => (tab0 x0 x1 x2 x3 x4 x5 x6 x7 x8 x9 x10 x11 x12 x13 x14 x15 cs x17 x18).getD i undef, fun _ _ => False, fun _ => cs⟩
  refine calls_of_taken cfgLOk run0 ?_ w (M.row1 w 1 hat rfl) ?_
  · unfold obs0
    refine obsCons (his_of (p := decide ((200) < (cs.length))) rfl (decide_eq_true g19)) ?_
    refine obsCons (hb_of (u := .int .i64 ((cs.length : Nat) : Int)) (v := .int .i64 ((200 : Nat) : Int)) (r := .bool (decide ((200) < (cs.length)))) rfl rfl rfl rfl rfl rfl nb_gtr) ?_
    refine obsCons (show true = true from rfl) ?_
    refine obsCons (show true = true from rfl) ?_
    refine obsCons (show true = true from rfl) ?_
    refine obsCons (show true = true from rfl) ?_
    refine obsCons (show true = true from rfl) ?_
    refine obsCons (show true = true from rfl) ?_
    refine obsCons (show true = true from rfl) ?_
    refine obsCons (show true = true from rfl) ?_
    refine obsCons (show true = true from rfl) ?_
    refine obsCons (show true = true from rfl) ?_
    refine obsCons (show true = true from rfl) ?_
    refine obsCons (show true = true from rfl) ?_
    refine obsCons (show true = true from rfl) ?_
    refine obsCons (show true = true from rfl) ?_
    refine obsCons (show true = true from rfl) ?_
    refine obsCons (show true = true from rfl) ?_
    refine obsCons (show true = true from rfl) ?_
    refine obsCons (show true = true from rfl) ?_
    refine obsCons (show true = true from rfl) ?_
    exact obsNil
  · exact (LsR.cons' (vr_agg_list (LsR.cons' (vr_int rfl rfl) (LsR.cons' (vr_int rfl rfl) (LsR.cons' (vr_int rfl rfl) (LsR.cons' (vr_int rfl rfl) (LsR.cons' (vr_int rfl rfl) (LsR.cons' (vr_int rfl rfl) (LsR.cons' (vr_int rfl rfl) (LsR.cons' (vr_int rfl rfl) (LsR.cons' (vr_int rfl rfl) (LsR.cons' (vr_int rfl rfl) (LsR.cons' (vr_int rfl rfl) (LsR.cons' (vr_int rfl rfl) (LsR.cons' (vr_int rfl rfl) (LsR.cons' (vr_int rfl rfl) (LsR.cons' (vr_int rfl rfl) (LsR.cons' (vr_int rfl rfl) (LsR.nil _)))))))))))))))))) (LsR.cons' (vr_row hat.spot hcn rfl rfl rfl) (LsR.cons' (vr_agg_list (LsR.cons' (vr_int rfl rfl) (LsR.cons' (vr_int rfl rfl) (LsR.nil _)))) (LsR.nil _))))
end Go.Proofs.YtfmhjggpcapfoaaGreat.neighborsSilent.g
