/- The walk of lives: the example of the chapter is true, reckoned. No condition but that the variable of the program reads as its text. -/
import Derived.Test.YthbkjhacnnoolaaDoorCfg
namespace Go.Proofs.YthbkjhacnnoolaaDoor
open Go.RowKit Go.Proofs.YthbkjhacnnoolaaDoorZev
set_option linter.unusedVariables false
instance noSym : Sym := ⟨fun _ => undef, fun _ _ => False, fun _ => [], fun _ => none, fun _ _ _ _ => False⟩
instance noKin : Kin := ⟨fun _ => none⟩
def livesHints : List Hint := [.dirty [], .dirty [1], .dirty [], .dirty [], .dirty [], .dirty [3], .dirty [], .dirty [3], .dirty [], .dirty [23, 18, 19], .dirty [18, 19], .dirty [], .dirty [46, 41, 42], .dirty [41, 42], .dirty [], .dirty [3], .dirty [], .dirty [70, 71], .dirty [], .dirty [], .dirty [98, 93, 94], .dirty [93, 94]]
theorem lives_good : good (ev (cfgOf Tryd.prog) ro false 20000 (.call 15 []) ⟨[], H0 0, livesHints, [], []⟩) = true := by kernel_rfl
/-- the variable's block -/
def Known (w : World) : Prop := ∀ x ∈ vars, ∃ ty, w.heap[x.1]? = some (.cells x.2.toArray ty (0, 0))
theorem known_laid {w : World} (h : laidMetH Tryd.prog laidL w) : Known w := fun x hx => by
  unfold vars at hx
  simp only [List.mem_cons, List.not_mem_nil, or_false] at hx
  subst hx
  exact laid_block h (by kernel_rfl) (n := "sojourner/addrs.known") (d := Rows.laid_sojourner_addrs_known) (by unfold laidL; simp) (g := 0) (t := 98) (k := 6) (by kernel_rfl) (by kernel_rfl) (by kernel_rfl) (fun h => by cases h)
theorem Known.below {w w' : World} (h : Known w) (hb : Below w.heap.size w w') : Known w' := fun x hx => by
  obtain ⟨ty, e⟩ := h x hx
  exact ⟨ty, (hb.block _ (Array.getElem?_eq_some_iff.1 e).1).trans e⟩
theorem lives15 (w : World) (h : Known w) : Calls Tryd.prog 15 #[] w fun e w' => e = .returned (.bool true) ∧ Below w.heap.size w w' :=
  calls_of_good cfgOk lives_good w (M.laid w vars 0 h (by decide) (by decide) (fun g l h => glob_of h)) (LsR.nil _)
end Go.Proofs.YthbkjhacnnoolaaDoor
