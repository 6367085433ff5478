/- The walk of BucketsVoid: it returns true and makes new blocks alone. No condition. -/
import Derived.Test.YtmmligongchopaaLives
namespace Go.Proofs.Ytmmligongchopaa
open Go.RowKit
theorem void_walk (a0 : Int) (w : World) :
    Calls Try.prog 4 #[.int .u64 a0] w fun e w' => e = .returned (.bool true) ∧ Below w.heap.size w w' := by
  go_enter Try.func4, Try.ntmps4
  go_wp2_with fail
  refine (take_unmade _ _ _ ?_).mono ?_
  · simp
  rintro e w1 ⟨rfl, h1⟩
  have B1 : Below w.heap.size w w1 := by rw [← h1]; exact (Below.refl _ _).alloc (Nat.le_refl _) _
  clear h1
  go_wp2_with fail
  refine (take_none _ _).mono ?_
  rintro e w2 ⟨rfl, rfl⟩
  go_wp2_with fail
  refine (lives_any _).mono ?_
  rintro e w3 ⟨rfl, b3⟩
  have B3 := B1.trans (b3.mono B1.size)
  clear B1 b3
  go_wp2_with fail
  go_ret
  exact ⟨rfl, B3⟩
end Go.Proofs.Ytmmligongchopaa
