/- The walk of lives: the example of the chapter is true, reckoned. No condition. -/
import Derived.Test.YtjldcblklbikaaaRows
import Derived.Test.YtjldcblklbikaaaZevX7
import Derived.KernelRfl
namespace Go.Proofs.Ytjldcblklbikaaa
open Go.RowKit Go.Proofs.YtjldcblklbikaaaZev

theorem noNum : NoNum Try.prog := by
  have h : Try.prog.funcs.all (fun fn => !(fn.name == "runtime.NumGoroutine")) = true := by kernel_rfl
  intro f fn hf
  have := Array.all_eq_true_iff_forall_mem.1 h fn (Array.mem_of_getElem? hf)
  simpa using this
theorem mixed : Try.prog.follows .mixedOrders = true := by kernel_rfl
def livesHints : List Hint := ([[], [6], [18], [], [], [], [], [], [], [], [], [], [25, 18], [], [], [], [67], [], [], [], [], [], [], [], [], [], [], [], [], [], [20, 6], [91], [], [], [], [], [], [], [], [], []] : List (List Nat)).map .dirty
theorem lives_good : good (ev Try.prog (fun _ => false) 3000 (.call 9 []) ⟨[], [], livesHints, []⟩) = true := by kernel_rfl
theorem lives_any (w : World) : Calls Try.prog 9 #[] w fun e w' => e = .returned (.bool true) ∧ Below w.heap.size w w' :=
  calls_of_good noNum mixed lives_good w (M.dead w _ 0) (LsR.nil _)
end Go.Proofs.Ytjldcblklbikaaa
