/- The walks of the clock's sums, of New and there, and the words for a list of prefixes in memory. No condition but that the numbers fit. -/
import Derived.Test.YtkhbchgocilclaaKey
import Derived.Maps.Ext
import Derived.Maps.RangeWalk
import Derived.DeepKeys4
import Derived.WideWitness
namespace Go.Proofs.Ytkhbchgocilclaa
open Go.RowKit
set_option linter.unusedVariables false

def forever : Nat := 9223372036854775807
def addT (a b : Nat) : Nat := min (a + b) forever
def secsT (n : Nat) : Nat := if n = 4294967295 then forever else n * 1000

theorem add_any (a b : Nat) (w : World) (ha : a < 18446744073709551616) (hb : b < 18446744073709551616) :
    Calls Try.prog 21 #[.int .u64 a, .int .u64 b] w fun e w' => e = .returned (.int .u64 (addT a b)) ∧ w = w' := by
  by_cases h1 : (9223372036854775807 : Int) < a
  · have e : (addT a b : Int) = 9223372036854775807 := by unfold addT forever; omega
    rw [e]
    clear e
    go_enter Try.func21, Try.ntmps21
    go_wp2_with fail
    go_ret
    exact ⟨rfl, rfl⟩
  · by_cases h2 : (9223372036854775807 : Int) < b
    · have e : (addT a b : Int) = 9223372036854775807 := by unfold addT forever; omega
      rw [e]
      clear e
      go_enter Try.func21, Try.ntmps21
      go_wp2_with fail
      go_ret
      exact ⟨rfl, rfl⟩
    · by_cases h3 : (9223372036854775807 : Int) - b < a
      · have e : (addT a b : Int) = 9223372036854775807 := by unfold addT forever; omega
        rw [e]
        clear e
        go_enter Try.func21, Try.ntmps21
        go_wp2_with fail
        go_ret
        exact ⟨rfl, rfl⟩
      · have e : (addT a b : Int) = a + b := by unfold addT forever; omega
        rw [e]
        clear e
        go_enter Try.func21, Try.ntmps21
        go_wp2_with fail
        go_ret
        exact ⟨rfl, rfl⟩

theorem secs_any (n : Nat) (w : World) (hn : n < 4294967296) :
    Calls Try.prog 22 #[.int .u32 n] w fun e w' => e = .returned (.int .u64 (secsT n)) ∧ w = w' := by
  by_cases h1 : n = 4294967295
  · have e : (secsT n : Int) = 9223372036854775807 := by unfold secsT forever; rw [if_pos h1]; rfl
    have t : ((n : Int) == 4294967295) = true := by simp [h1]
    rw [e]
    clear e h1
    go_enter Try.func22, Try.ntmps22
    go_wp2_with fail
    go_ret
    exact ⟨rfl, rfl⟩
  · have e : (secsT n : Int) = n * 1000 := by unfold secsT; rw [if_neg h1]; omega
    have t : ((n : Int) == 4294967295) = false := by simp; omega
    rw [e]
    clear e h1
    go_enter Try.func22, Try.ntmps22
    go_wp2_with fail
    go_ret
    exact ⟨rfl, rfl⟩

theorem keyed : Maps.Keyed Try.prog 25 := Maps.Keyed.of_law (deep_law_laid (m := 8) (by kernel_rfl) (by omega) (of_decide_eq_true (by kernel_rfl)) (by kernel_rfl) (by kernel_rfl))

abbrev PD := DataW Unit
/-- block b is a map that reads as D -/
def MapIs (w : World) (b : Nat) (D : PD) : Prop := w.ownsMap Try.prog 25 (plainElem Try.prog 34) b (Maps.size D) D
theorem MapIs.of {w : World} {b n : Nat} {D : PD} (h : w.ownsMap Try.prog 25 (plainElem Try.prog 34) b n D) : MapIs w b D := by
  obtain ⟨es, clock, hb, F, hs, rfl⟩ := h
  refine ⟨es, clock, hb, F, ?_, rfl⟩
  have e1 : Maps.size (DataW.map ((es.toList.map (WideElems.rg Try.prog 25 (plainElem (H := Unit) Try.prog 34))).foldr DataW.insert [])) = es.size := by simp [Maps.size, length_sorted]
  rw [e1]
  exact Nat.le_refl _

set_option maxRecDepth 100000 in
theorem there_any (b mb : Nat) (w : World) (h : w.heap[b]? = some (.cells #[.map (some mb)] 58 (0, 0))) :
    Calls Try.prog 20 #[.pointer (some ⟨b, 0, none⟩)] w fun e w' => e = .returned (.bool true) ∧ w = w' := by
  have c0 : w.cell? ⟨b, 0, none⟩ = some (.map (some mb)) := cell_blk h 0
  clear h
  have hn : ∀ W : World, (binOp .neq 56 (.map (some mb)) (.map none)).run Try.prog W = .ok (.bool true) W := fun W => run_neq_map_nil W 56 25 34 (some mb) Try.underlying56
  go_enter Try.func20, Try.ntmps20
  go_wp2_with fail
  go_ret
  exact ⟨rfl, rfl⟩

theorem new_any (w : World) :
    Calls Try.prog 7 #[] w fun e w' => ∃ b mb, e = .returned (.pointer (some ⟨b, 0, none⟩)) ∧ Made b (.cells #[.map (some mb)] 58 (0, 0)) w w' ∧ w.heap.size ≤ mb ∧ mb ≠ b ∧ MapIs w' mb (.map []) := by
  have hmm := @run_makeMap Try.prog
  go_enter Try.func7, Try.ntmps7
  go_wp2_with fail
  go_ret
  refine ⟨w.heap.size + 1, w.heap.size, rfl, ⟨by omega, heap_alloc2_new _ _ _, ((Below.refl _ _).alloc (Nat.le_refl _) _).alloc (by simp) _⟩, Nat.le_refl _, by omega, ?_⟩
  exact (World.ownsMap_made w Try.prog 25 (plainElem Try.prog 34)).alloc _
end Go.Proofs.Ytkhbchgocilclaa
