/- The walk of FragsVoid, of whose arguments nothing need be known: reckoned. No condition. -/
import Derived.Test.YtjldcblklbikaaaLives
import Derived.Test.YtjldcblklbikaaaZev19
namespace Go.Proofs.Ytjldcblklbikaaa
open Go.RowKit Go.Proofs.YtjldcblklbikaaaZev
set_option linter.unusedVariables false
def leavesFragsVoid0 : List Lf := [.int .u8, .int .u8, .int .u8, .int .u8, .int .u8, .int .u8, .int .u8, .int .u8, .int .u8, .int .u8, .int .u8, .int .u8, .int .u8, .int .u8, .int .u8, .int .u8, .int .u8, .int .u8, .int .u8, .int .u8, .int .u8, .int .u8, .int .u8, .int .u8, .int .u8, .int .u8, .int .u8, .int .u8, .int .u8, .int .u8, .int .u8, .int .u8, .int .u8, .bool, .bool, .int .u32, .int .u16, .bool, .int .u8, .slice]
def hintsFragsVoid : List Hint := ([[], [], [], [24], [36], [], [], [], [], [], [], [], [], [], [43, 36], [], [], [], [85], [], [], [], [], [], [], [], [], [], [], [], [], [], [38, 24], [109], [], [], [], [], [], [], [], [], []] : List (List Nat)).map .dirty
theorem fragsVoid_good : good (ev Try.prog (fun _ => false) 3000 (.call 4 [.agg (List.replicate 40 (.chan none)).toArray, .chan none]) ⟨[], [none], hintsFragsVoid, []⟩) = true := by kernel_rfl
theorem fragsVoid_walk {cs0 : List Value} (hc0 : CellsAre leavesFragsVoid0 cs0) {v1 : Value} (hc1 : CellIs (.int .u64) v1) (w : World) : Calls Try.prog 4 #[.agg cs0.toArray, v1] w fun e w' => e = .returned (.bool true) ∧ Below w.heap.size w w' := by
  exact calls_of_good noNum mixed fragsVoid_good w (M.dead w _ 1) (LsR.cons' hc0.dim (LsR.cons' hc1.dim (LsR.nil _)))
end Go.Proofs.Ytjldcblklbikaaa
