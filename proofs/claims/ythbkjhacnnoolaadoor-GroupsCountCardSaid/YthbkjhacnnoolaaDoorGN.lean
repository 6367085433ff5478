/- The row cut to its length; the keys as a sequence: the walks. No condition. (Written out by exp.py.) -/
import Derived.Test.YthbkjhacnnoolaaDoorGM
namespace Go.Proofs.YthbkjhacnnoolaaDoor
open Go.RowKit
set_option linter.unusedVariables false
set_option linter.unusedSimpArgs false
theorem keys38 {mj : Nat} (w : World) :
    Calls Tryd.prog 38 #[.map (some mj)] w fun e w' => e = .returned (.func (.func 52) #[] #[.pointer (some ⟨w.heap.size, 0, none⟩)]) ∧ w' = w.alloc (.cells #[.map (some mj)] 53) := by
  go_enter Tryd.func38, Tryd.ntmps38
  go_wp2_with fail
  go_ret
  exact ⟨rfl, rfl⟩
theorem clip29 {A : Option Addr} {n c : Nat} (w : World) (h : n ≤ c) (h2 : c < 4611686018427387904) :
    Calls Tryd.prog 29 #[.slice A n c] w fun e w' => (∃ A', e = .returned (.slice A' n n)) ∧ w = w' := by
  go_enter Tryd.func29, Tryd.ntmps29
  go_wp2_with fail
  go_ret
  exact ⟨⟨_, rfl⟩, rfl⟩
end Go.Proofs.YthbkjhacnnoolaaDoor
