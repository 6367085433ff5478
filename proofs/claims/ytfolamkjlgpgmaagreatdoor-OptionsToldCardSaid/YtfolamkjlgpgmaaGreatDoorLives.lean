/- The walk of lives: the example of the chapter is true, reckoned. No condition. -/
import Derived.Test.YtfolamkjlgpgmaaGreatDoorCfg
namespace Go.Proofs.YtfolamkjlgpgmaaGreatDoor
open Go.RowKit Go.Proofs.YtfolamkjlgpgmaaGreatDoorZev
instance noSym : Sym := ⟨fun _ => undef, fun _ _ => False, fun _ => [], fun _ => none, fun _ _ _ _ => False⟩
instance noKin : Kin := ⟨fun _ => none⟩
instance noGlob : Glob := ⟨fun _ => none⟩
def livesHints : List Hint := [.dirty [], .dirty [], .dirty [], .dirty [], .dirty [], .dirty [], .dirty [], .dirty [], .dirty [], .dirty [], .dirty [], .dirty [], .dirty [], .dirty [], .dirty [], .dirty [], .dirty [], .dirty [], .dirty [], .dirty [], .dirty [], .dirty [], .dirty [], .dirty [], .dirty [], .dirty [], .dirty [], .dirty [], .dirty [], .dirty [], .dirty [], .dirty [], .dirty [], .dirty [], .dirty [], .dirty [], .dirty [], .dirty [], .dirty [], .dirty [], .dirty [], .dirty [], .dirty [], .dirty []]
theorem lives_good : good (ev (cfgOf Tryz.prog) ro false 20000 (.call 4 []) ⟨[], H0 0, livesHints, [], []⟩) = true := by kernel_rfl
theorem lives8 (w : World) : Calls Tryz.prog 4 #[] w fun e w' => e = .returned (.bool true) ∧ Below w.heap.size w w' := by
  exact calls_of_good cfgOk lives_good w (M.dead w ro 0) (LsR.nil _)
end Go.Proofs.YtfolamkjlgpgmaaGreatDoor
