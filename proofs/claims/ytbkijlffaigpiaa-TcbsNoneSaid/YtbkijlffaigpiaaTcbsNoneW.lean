/- The walk of TcbsNone, of whose arguments nothing need be known: reckoned. No condition. -/
import Derived.Test.YtbkijlffaigpiaaLives
import Derived.Test.YtbkijlffaigpiaaZev19
namespace Go.Proofs.Ytbkijlffaigpiaa
open Go.RowKit Go.Proofs.YtbkijlffaigpiaaZev
set_option linter.unusedVariables false
def leavesTcbsNone0 : List Lf := [.int .u8, .int .u16, .int .u16, .int .u32, .int .u32, .int .u8, .int .u16, .int .u16, .slice, .bool, .slice, .int .i64, .int .u16, .int .u32]
def hintsTcbsNone : List Hint := ([[], [7], [], [7], [17], [], [6], [], [], [], [], [], [], [25], [], [7], [], [], [], [], [], [], [], [], [], [], [], [], [36], [], [7], [], [], [], [], [], []] : List (List Nat)).map .dirty
theorem tcbsNone_good : good (ev Try.prog (fun _ => false) 3000 (.call 6 [.agg (List.replicate 14 (.chan none)).toArray]) ⟨[], [none], hintsTcbsNone, []⟩) = true := by kernel_rfl
theorem tcbsNone_walk {cs0 : List Value} (hc0 : CellsAre leavesTcbsNone0 cs0) (w : World) : Calls Try.prog 6 #[.agg cs0.toArray] w fun e w' => e = .returned (.bool true) ∧ Below w.heap.size w w' := by
  exact calls_of_good noNum mixed tcbsNone_good w (M.dead w _ 1) (LsR.cons' hc0.dim (LsR.nil _))
end Go.Proofs.Ytbkijlffaigpiaa
