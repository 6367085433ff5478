/- What is told of a group, its record, and whether a table is there: the walks. No condition but that the table of known addresses is as it was laid. (Written out by exp.py.) -/
import Derived.Test.YthbkjhacnnoolaaDoorGC
namespace Go.Proofs.YthbkjhacnnoolaaDoor
open Go.RowKit
set_option linter.unusedVariables false
set_option linter.unusedSimpArgs false
theorem and15 : ∀ b : Fin 256, bits .and .u8 (b.val : Int) 15 = ((b.val % 16 : Nat) : Int) := by decide +kernel
theorem and15n {x : Nat} (h : x < 256) : bits .and .u8 (x : Int) 15 = ((x % 16 : Nat) : Int) := and15 ⟨x, h⟩
def scopeN (l : List Nat) : Nat := l.getD 1 0 % 16
theorem row_at {w : World} {b : Nat} {X : List Value} {T : TypeId} {z : Nat × Nat} (h : w.heap[b]? = some (.cells X.toArray T z)) : w.rangeAt b 0 X := fun j v hj => by
  rw [Nat.zero_add, cell_blk h]
  simpa using hj
set_option maxRecDepth 100000 in
theorem scope36 {l : List Nat} (w : World) (h : Adr l) (h0 : l.headD 0 = 255) :
    Calls Tryd.prog 36 #[.agg (row8 l).toArray] w fun e w' => e = .returned (.int .i64 (scopeN l : Int)) ∧ Below w.heap.size w w' := by
  have hal : Below w.heap.size w (w.alloc (.cells (row8 l).toArray 26)) := (Below.refl _ _).alloc (Nat.le_refl _) _
  have hb := heap_alloc_new w (.cells (row8 l).toArray 26)
  obtain ⟨V, hV⟩ : ∃ V, V = w.alloc (.cells (row8 l).toArray 26) := ⟨_, rfl⟩
  obtain ⟨b, hbb⟩ : ∃ b, b = w.heap.size := ⟨_, rfl⟩
  rw [← hV] at hal hb; rw [← hbb] at hb
  have HB := Lib.hid hb
  have HR := Lib.hid (row_at hb)
  have h22 := many22 V h
  rw [h0] at h22
  have H22 := Lib.hid h22
  have hx1 : (row8 l)[1]? = some (.int .u8 ((l.getD 1 0 : Nat) : Int)) ∧ l.getD 1 0 < 256 := by
    obtain ⟨a0, a1, a2, a3, a4, a5, a6, a7, a8, a9, a10, a11, a12, a13, a14, a15, rfl⟩ := list16 h.len
    exact ⟨rfl, h.low a1 (by simp)⟩
  obtain ⟨X, hX⟩ : ∃ X, X = row8 l := ⟨_, rfl⟩
  have HXL : Hid (X.length = 16) := Lib.hid (by rw [hX, row8_length, h.len])
  have HSZ := Lib.hid size26
  rw [← hX] at HB HR H22 hV hx1 ⊢
  have hs : scopeN l = l.getD 1 0 % 16 := rfl
  obtain ⟨x, hx⟩ : ∃ x, x = l.getD 1 0 := ⟨_, rfl⟩
  rw [← hx] at hx1 hs
  have hand := and15n hx1.2
  obtain ⟨s, hss⟩ : ∃ s, s = scopeN l := ⟨_, rfl⟩
  rw [← hss] at hs ⊢
  rw [← hs] at hand
  have HX1 := Lib.hid hx1
  have HAL := Lib.hid hal
  have HLE : Hid (w.heap.size ≤ b) := Lib.hid (by omega)
  have hs16 : s < 16 := by omega
  have e64 : IntKind.i64.wrap (s : Int) = (s : Int) := i64_small (by omega)
  have H16 := Lib.hid hs16
  clear hal hb h h0 h22 hX hx1 hx hss hs hs16
  go_enter Tryd.func36, Tryd.ntmps36
  go_upto_region 1 with (fail)
  rw [← hV, ← hbb]
  clear hV hbb
  go_wp2_with (first | (refine wpList_load_mid rfl 26 (.tmp 1) ?ho b 0 ?hx X _ ?hr Tryd.underlying26 rfl ?hi ?_; (case ho => with_reducible rfl); (case hx => rfl); (case hr => exact HR.out); (case hi => rw [HXL.out]; exact HSZ.out); (try simp only [Act.put, List.setIfInBounds_toArray, List.set_cons_zero, List.set_cons_succ])))
  refine (H22.out).mono ?_
  rintro e w1 ⟨rfl, hb1⟩
  have HB1 := Lib.hid ((hb1.block b (lt_of_blk HB.out)).trans HB.out)
  have HW1 := Lib.hid (HAL.out.trans (hb1.mono HAL.out.size))
  have c1 : w1.cell? ⟨b, 1, none⟩ = some (.int .u8 (x : Int)) := by
    rw [cell_blk HB1.out]; simpa using HX1.out.1
  clear hb1 H22
  go_wp2_with fail
  go_ret
  exact ⟨rfl, HW1.out⟩
end Go.Proofs.YthbkjhacnnoolaaDoor
