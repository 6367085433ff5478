/- PrefixesHold, where its guards end it. No condition. -/
import Derived.Test.YtkhbchgocilclaaLives

namespace Go.Proofs.Ytkhbchgocilclaa
open Go.RowKit
set_option linter.unusedVariables false

/-- what stands in memory after PrefixesHold's first lines -/
structure Boxed (i : Info) (a : Nat → Nat) (B1 B2 : Nat) (w w1 : World) : Prop where
  h1 : w1.heap[B1]? = some (.cells i.cells 28 (0, 0))
  h2 : w1.heap[B2]? = some (.cells (adrCells a) 23 (0, 0))
  g1 : w.heap.size ≤ B1
  g2 : w.heap.size ≤ B2
  below : Below w.heap.size w w1

theorem Boxed.mk' (i : Info) (a : Nat → Nat) (w : World) : Boxed i a w.heap.size (w.heap.size + 1) w ((w.alloc (.cells i.cells 28)).alloc (.cells (adrCells a) 23)) :=
  ⟨heap_alloc2_old _ _ _, heap_alloc2_new _ _ _, Nat.le_refl _, by omega, ((Below.refl _ _).alloc (Nat.le_refl _) _).alloc (by simp) _⟩
theorem Info.get16 (i : Info) : i.cells[16]? = some (.int .u8 (i.n : Int)) := by
  simp only [Info.cells, Info.L, List.getElem?_toArray]
  rw [List.getElem?_append_right (by rw [adrL_length]; omega), adrL_length]; rfl
theorem Boxed.c16 {i : Info} {a : Nat → Nat} {B1 B2 : Nat} {w w1 : World} (h : Boxed i a B1 B2 w w1) : w1.cell? ⟨B1, 16, none⟩ = some (.int .u8 (i.n : Int)) := by rw [cell_blk h.h1]; exact i.get16
theorem Boxed.c17 {i : Info} {a : Nat → Nat} {B1 B2 : Nat} {w w1 : World} (h : Boxed i a B1 B2 w w1) : w1.cell? ⟨B1, 17, none⟩ = some (.bool i.on) := by rw [cell_blk h.h1]; exact i.get.1
theorem Boxed.c19 {i : Info} {a : Nat → Nat} {B1 B2 : Nat} {w w1 : World} (h : Boxed i a B1 B2 w w1) : w1.cell? ⟨B1, 19, none⟩ = some (.int .u32 (i.v : Int)) := by rw [cell_blk h.h1]; exact i.get.2

set_option maxRecDepth 100000 in
set_option maxHeartbeats 400000 in
theorem hold_out (i : Info) (p : Option Addr) (len cap : Nat) (a : Nat → Nat) (w : World) (hl : len < 9223372036854775808) (hx : 100 < len ∨ i.v = 0 ∨ 128 < i.n) :
    Calls Try.prog 3 #[.agg i.cells, .slice p len cap, .agg (adrCells a)] w fun e w' => e = .returned (.bool true) ∧ Below w.heap.size w w' := by
  have HB0 := Lib.hid (Boxed.mk' i a w)
  by_cases h1 : 100 < len
  · have t1 : decide ((100 : Int) < len) = true := by simp; omega
    clear hx
    go_enter Try.func3, Try.ntmps3
    go_wp2_with fail
    generalize (w.alloc (.cells i.cells 28)).alloc (.cells (adrCells a) 23) = w1 at *
    refine (lives_any w1).mono ?_
    rintro e w2 ⟨rfl, b2⟩
    have HB := Lib.hid (HB0.out.below.trans (b2.mono HB0.out.below.size))
    clear HB0 b2
    go_wp2_with fail
    go_ret
    exact ⟨rfl, HB.out⟩
  · have t1 : decide ((100 : Int) < len) = false := by simp; omega
    by_cases h2 : i.v = 0
    · have c19 := HB0.out.c19
      rw [h2] at c19
      clear hx
      go_enter Try.func3, Try.ntmps3
      go_wp2_with fail
      generalize (w.alloc (.cells i.cells 28)).alloc (.cells (adrCells a) 23) = w1 at *
      refine (lives_any w1).mono ?_
      rintro e w2 ⟨rfl, b2⟩
      have HB := Lib.hid (HB0.out.below.trans (b2.mono HB0.out.below.size))
      clear HB0 b2 c19
      go_wp2_with fail
      go_ret
      exact ⟨rfl, HB.out⟩
    · have c19 := HB0.out.c19
      have c16 := HB0.out.c16
      have t2 : decide ((i.v : Int) = 0) = false := by simp; omega
      have t3 : decide ((128 : Int) < i.n) = true := by simp; omega
      clear hx
      go_enter Try.func3, Try.ntmps3
      go_wp2_with fail
      generalize (w.alloc (.cells i.cells 28)).alloc (.cells (adrCells a) 23) = w1 at *
      refine (lives_any w1).mono ?_
      rintro e w2 ⟨rfl, b2⟩
      have HB := Lib.hid (HB0.out.below.trans (b2.mono HB0.out.below.size))
      clear HB0 b2 c19 c16
      go_wp2_with fail
      go_ret
      exact ⟨rfl, HB.out⟩
end Go.Proofs.Ytkhbchgocilclaa
