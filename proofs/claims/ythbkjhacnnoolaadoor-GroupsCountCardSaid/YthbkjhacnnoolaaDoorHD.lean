/- GroupsCount's walk, for every input. No condition but the package variable's text. -/
import Derived.Test.YthbkjhacnnoolaaDoorGY
import Derived.Test.YthbkjhacnnoolaaDoorLives
namespace Go.Proofs.YthbkjhacnnoolaaDoor
open Go.RowKit
set_option linter.unusedVariables false
theorem kn_known {w : World} (h : Known w) : Kn w := by
  obtain ⟨ty, e⟩ := h _ (List.mem_cons_self (a := vars.headD (0, [])) (l := []))
  refine ⟨fun j v hj => ?_, lt_of_blk e⟩
  have e' : w.heap[0]? = some (.cells (vars.headD (0, [])).2.toArray ty (0, 0)) := e
  rw [cell_blk e']
  have hl : j < 16 := by have := (List.getElem?_eq_some_iff.1 hj).1; simpa [row8, nodesL] using this
  have hj' : j = 0 ∨ j = 1 ∨ j = 2 ∨ j = 3 ∨ j = 4 ∨ j = 5 ∨ j = 6 ∨ j = 7 ∨ j = 8 ∨ j = 9 ∨ j = 10 ∨ j = 11 ∨ j = 12 ∨ j = 13 ∨ j = 14 ∨ j = 15 := by omega
  rw [← hj]
  rcases hj' with rfl | rfl | rfl | rfl | rfl | rfl | rfl | rfl | rfl | rfl | rfl | rfl | rfl | rfl | rfl | rfl <;> rfl
set_option maxRecDepth 100000 in
set_option maxHeartbeats 4000000 in
theorem count_no (p : Option Addr) (len cap : Nat) (w : World) (hx : 150 < len) (hl : len < 9223372036854775808)
    (hlv : Calls Tryd.prog 15 #[] w fun e w' => e = .returned (.bool true) ∧ Below w.heap.size w w') :
    Calls Tryd.prog 5 #[.slice p len cap] w fun e w' => e = .returned (.bool true) ∧ Below w.heap.size w w' := by
  have t1 : decide ((150 : Int) < len) = true := by simp; omega
  clear hx
  go_enter Tryd.func5, Tryd.ntmps5
  go_wp2_with (go_at_call 15; refine hlv.mono ?_; rintro e w2 ⟨rfl, b2⟩; have HB := Lib.hid b2; clear b2)
  go_ret
  exact ⟨rfl, HB.out⟩
theorem count_walk (len cap : Nat) (p : Option Addr) (s : Nat → Nat) (w : World) (hL : laidMetH Tryd.prog laidL w) (hl : len < 9223372036854775808) (hs : ∀ i, s i < 256) (hA : RdS w w.heap.size p len (fun i => .int .u8 (s i : Int))) :
    Calls Tryd.prog 5 #[.slice p len cap] w fun e w' => e = .returned (.bool true) ∧ Below w.heap.size w w' := by
  have hK := known_laid hL
  by_cases h : 150 < len
  · exact count_no p len cap w h hl (lives15 w hK)
  · refine count_yes p len cap s w (kn_known hK) (fun i hi => ?_) (by omega) (fun W hW => lives15 W (hK.below hW))
    obtain ⟨b, o, e, hlt, hc⟩ := hA (by omega)
    exact ⟨b, o, e, hlt, hc i hi, hs i⟩
open Go.Proofs.YthbkjhacnnoolaaDoorZev in
theorem oneIs44 : lfOf (Tryd.prog.underlying 44) = some Lf.slice := by kernel_rfl
open Go.Proofs.YthbkjhacnnoolaaDoorZev in
theorem slice_form {v : Value} (h : CellIs Lf.slice v) : ∃ A n c, v = .slice A n c := by
  rcases h with rfl | ⟨a, n, c, rfl, _⟩
  · exact ⟨_, _, _, rfl⟩
  · exact ⟨_, _, _, rfl⟩
end Go.Proofs.YthbkjhacnnoolaaDoor
