/- The small functions of the groups: the walks. No condition but that numbers fit. (Written out by exp.py.) -/
import Derived.Test.YthbkjhacnnoolaaDoorGB
import Derived.Handy
import Derived.Deep.MidRow
import Derived.Deep.WholeRow
import Derived.Laws.Tables
namespace Go.Proofs.YthbkjhacnnoolaaDoor
open Go.RowKit
set_option linter.unusedVariables false
set_option linter.unusedSimpArgs false
/-- an address -/
structure Adr (l : List Nat) : Prop where
  len : l.length = 16
  low : ∀ y ∈ l, y < 256
def adr (l : List Nat) : Value := .agg (row8 l).toArray
theorem list16 {l : List Nat} (h : l.length = 16) : ∃ a0 a1 a2 a3 a4 a5 a6 a7 a8 a9 a10 a11 a12 a13 a14 a15, l = [a0, a1, a2, a3, a4, a5, a6, a7, a8, a9, a10, a11, a12, a13, a14, a15] := by
  match l, h with
  | [a0, a1, a2, a3, a4, a5, a6, a7, a8, a9, a10, a11, a12, a13, a14, a15], _ => exact ⟨a0, a1, a2, a3, a4, a5, a6, a7, a8, a9, a10, a11, a12, a13, a14, a15, rfl⟩
set_option maxRecDepth 100000 in
theorem many22 {l : List Nat} (w : World) (h : Adr l) :
    Calls Tryd.prog 22 #[.agg (row8 l).toArray] w fun e w' => e = .returned (.bool (l.headD 0 == 255)) ∧ Below w.heap.size w w' := by
  have hal : Below w.heap.size w (w.alloc (.cells (row8 l).toArray 26)) := (Below.refl _ _).alloc (Nat.le_refl _) _
  have hb := heap_alloc_new w (.cells (row8 l).toArray 26)
  obtain ⟨V, hV⟩ : ∃ V, V = w.alloc (.cells (row8 l).toArray 26) := ⟨_, rfl⟩
  obtain ⟨b, hbb⟩ : ∃ b, b = w.heap.size := ⟨_, rfl⟩
  rw [← hV] at hal hb; rw [← hbb] at hb
  have c0 : V.cell? ⟨b, 0, none⟩ = some (.int .u8 ((l.headD 0 : Nat) : Int)) := by
    rw [cell_blk hb]
    obtain ⟨a0, a1, a2, a3, a4, a5, a6, a7, a8, a9, a10, a11, a12, a13, a14, a15, rfl⟩ := list16 h.len
    rfl
  obtain ⟨x, hx⟩ : ∃ x, x = l.headD 0 := ⟨_, rfl⟩
  rw [← hx] at c0 ⊢
  have HAL := Lib.hid hal
  have hd : ((x : Int) == 255) = (x == 255) := by
    by_cases e : x = 255
    · subst e; rfl
    · rw [beq_false_of_ne e, beq_eq_false_iff_ne]; omega
  clear hal hb hx
  go_enter Tryd.func22, Tryd.ntmps22
  go_upto_region 1 with (fail)
  rw [← hV, ← hbb]
  clear hV hbb
  go_wp2_with fail
  go_ret
  exact ⟨rfl, HAL.out⟩
set_option maxRecDepth 100000 in
theorem add26 {a b : Nat} (w : World) (ha : a < 18446744073709551616) (hb : b < 18446744073709551616) :
    Calls Tryd.prog 26 #[.int .u64 (a : Int), .int .u64 (b : Int)] w fun e w' => e = .returned (.int .u64 (min (a + b) 9223372036854775807 : Nat)) ∧ w = w' := by
  by_cases h1 : a > 9223372036854775807
  · have t : (a : Int) > 9223372036854775807 := by omega
    rw [show min (a + b) 9223372036854775807 = 9223372036854775807 by omega]
    clear ha hb h1
    go_enter Tryd.func26, Tryd.ntmps26
    go_wp2_with fail
    go_ret
    exact ⟨rfl, rfl⟩
  · have t1 : ¬ (a : Int) > 9223372036854775807 := by omega
    by_cases h2 : b > 9223372036854775807
    · have t2 : (b : Int) > 9223372036854775807 := by omega
      rw [show min (a + b) 9223372036854775807 = 9223372036854775807 by omega]
      clear ha hb h1 h2
      go_enter Tryd.func26, Tryd.ntmps26
      go_wp2_with fail
      go_ret
      exact ⟨rfl, rfl⟩
    · have t2 : ¬ (b : Int) > 9223372036854775807 := by omega
      have e1 : IntKind.u64.wrap (9223372036854775807 - (b : Int)) = 9223372036854775807 - (b : Int) := by
        rw [show 9223372036854775807 - (b : Int) = ((9223372036854775807 - b : Nat) : Int) by omega]; exact u64_small (by omega)
      by_cases h3 : a > 9223372036854775807 - b
      · have t3 : (a : Int) > 9223372036854775807 - (b : Int) := by omega
        rw [show min (a + b) 9223372036854775807 = 9223372036854775807 by omega]
        clear ha hb h1 h2 h3
        go_enter Tryd.func26, Tryd.ntmps26
        go_wp2_with fail
        go_ret
        exact ⟨rfl, rfl⟩
      · have t3 : ¬ (a : Int) > 9223372036854775807 - (b : Int) := by omega
        have e2 : IntKind.u64.wrap ((a : Int) + (b : Int)) = ((a + b : Nat) : Int) := by
          rw [show (a : Int) + (b : Int) = ((a + b : Nat) : Int) by omega]; exact u64_small (by omega)
        rw [show min (a + b) 9223372036854775807 = a + b by omega]
        obtain ⟨s, hs⟩ : ∃ s, s = a + b := ⟨_, rfl⟩
        rw [← hs] at e2 ⊢
        clear ha hb h1 h2 h3 hs
        go_enter Tryd.func26, Tryd.ntmps26
        go_wp2_with fail
        go_ret
        exact ⟨rfl, rfl⟩
set_option maxRecDepth 100000 in
theorem next35 (w : World) : Calls Tryd.prog 35 #[.pointer none] w fun e w' => e = .returned (.int .u32 0) ∧ w = w' := by
  go_enter Tryd.func35, Tryd.ntmps35
  go_wp2_with fail
  go_ret
  exact ⟨rfl, rfl⟩
set_option maxRecDepth 100000 in
theorem below27 (w : World) : Calls Tryd.prog 27 #[.pointer none, .int .u32 1000] w fun e w' => e = .returned (.int .u32 0) ∧ w = w' := by
  go_enter Tryd.func27, Tryd.ntmps27
  go_wp2_with fail
  refine (next35 w).mono ?_
  rintro e w1 ⟨rfl, rfl⟩
  go_wp2_with fail
  go_ret
  exact ⟨rfl, rfl⟩
end Go.Proofs.YthbkjhacnnoolaaDoor
