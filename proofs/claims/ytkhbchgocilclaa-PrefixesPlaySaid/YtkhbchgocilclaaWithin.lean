/- The walk of Within: whether an address is of a prefix. No condition but that each byte is one. -/
import Derived.Test.YtkhbchgocilclaaCommon
import Derived.Deep.RegionHeld3
namespace Go.Proofs.Ytkhbchgocilclaa
open Go.RowKit
set_option linter.unusedVariables false

def preCells (a : Nat → Nat) (n : Nat) : Array Value := (adrL a ++ [Value.int .u8 (n : Int)]).toArray
theorem preCells_get (a : Nat → Nat) (n : Nat) {i : Nat} (h : i < 16) : (preCells a n)[i]? = some (.int .u8 (a i : Int)) := by
  have := adrCells_get a h
  simp only [adrCells, List.getElem?_toArray] at this
  simp only [preCells, List.getElem?_toArray]
  rw [List.getElem?_append_left (by rw [adrL_length]; exact h), this]
theorem preCells_last (a : Nat → Nat) (n : Nat) : (preCells a n)[16]? = some (.int .u8 (n : Int)) := by
  simp only [preCells, List.getElem?_toArray]
  rw [List.getElem?_append_right (by rw [adrL_length]; exact Nat.le_refl _), adrL_length]; rfl

theorem range_adr {w : World} {b : Nat} {t : TypeId} {z : Nat × Nat} {a : Nat → Nat} (h : w.heap[b]? = some (.cells (adrCells a) t z)) : w.rangeAt b 0 (adrL a) := by
  intro j v hj
  rw [Nat.zero_add, cell_blk h]
  simpa [adrCells] using hj
theorem range_pre {w : World} {b : Nat} {t : TypeId} {z : Nat × Nat} {a : Nat → Nat} {n : Nat} (h : w.heap[b]? = some (.cells (preCells a n) t z)) : w.rangeAt b 0 (adrL a) := by
  intro j v hj
  have hl : j < (adrL a).length := (List.getElem?_eq_some_iff.1 hj).1
  rw [Nat.zero_add, cell_blk h]
  simp only [preCells, List.getElem?_toArray]
  rw [List.getElem?_append_left hl, hj]
theorem range_below {w w' : World} {B b o : Nat} {cs : List Value} (h : w.rangeAt b o cs) (hb : Below B w w') (hlt : b < B) : w'.rangeAt b o cs :=
  fun j v hj => (hb.cell (p := ⟨b, o + j, none⟩) hlt).trans (h j v hj)

def withinB (a p : Nat → Nat) (n : Nat) : Bool := decide (min n 128 ≤ common a p)
set_option maxRecDepth 100000 in
set_option maxHeartbeats 1000000 in
theorem within_any (a p : Nat → Nat) (n : Nat) (w : World) (ha : ∀ i, i < 16 → a i < 256) (hp : ∀ i, i < 16 → p i < 256) (hn : n < 256) :
    Calls Try.prog 23 #[.agg (adrCells a), .agg (preCells p n)] w fun e w' => e = .returned (.bool (withinB a p n)) ∧ Below w.heap.size w w' := by
  have h1 : ((w.alloc (.cells (adrCells a) 23)).alloc (.cells (preCells p n) 25)).heap[w.heap.size]? = some (.cells (adrCells a) 23 (0, 0)) := heap_alloc2_old _ _ _
  have h2 : ((w.alloc (.cells (adrCells a) 23)).alloc (.cells (preCells p n) 25)).heap[w.heap.size + 1]? = some (.cells (preCells p n) 25 (0, 0)) := heap_alloc2_new _ _ _
  have hB : Below w.heap.size w ((w.alloc (.cells (adrCells a) 23)).alloc (.cells (preCells p n) 25)) := ((Below.refl _ _).alloc (Nat.le_refl _) _).alloc (by simp) _
  have hz : w.heap.size + 1 < ((w.alloc (.cells (adrCells a) 23)).alloc (.cells (preCells p n) 25)).heap.size := by simp
  go_enter Try.func23, Try.ntmps23
  go_wp2_with fail
  generalize (w.alloc (.cells (adrCells a) 23)).alloc (.cells (preCells p n) 25) = w0 at *
  have r1 := range_adr h1
  have r2 := range_pre h2
  have cp16 := cell_blk h2 16
  rw [preCells_last] at cp16
  have u23 := Try.underlying23
  have l23a : (Try.prog.info? 23).map (·.size) = some (adrL a).length := by rw [adrL_length]; kernel_rfl
  have l23p : (Try.prog.info? 23).map (·.size) = some (adrL p).length := by rw [adrL_length]; kernel_rfl
  clear h1 h2
  refine wp_region_held_drew (S := fun w' => w'.rangeAt w.heap.size 0 (adrL a) ∧ w'.rangeAt (w.heap.size + 1) 0 (adrL p) ∧ w'.cell? ⟨w.heap.size + 1, 16, none⟩ = some (.int .u8 (n : Int)) ∧ Below w.heap.size w w') (by kernel_rfl) ⟨r1, r2, cp16, hB.drew⟩ ?_
  intro hH
  refine wpAnyH_take (i := 0) (v := .agg (adrL a).toArray) rfl (by kernel_rfl) (by kernel_rfl) (by kernel_rfl) (fun _ _ _ h => h) (yieldsIf_load_mid (by rfl) 23 _ rfl w.heap.size 0 rfl (adrL a) _ (fun w h => h.1) u23 rfl l23a) hH ?_
  refine wpAnyH_take (i := 1) (v := .pointer (some ⟨w.heap.size + 1, 0, none⟩)) rfl (by kernel_rfl) (by kernel_rfl) (by kernel_rfl) (fun _ _ _ h => h) (Or.inl ⟨by rfl, fun w hw => by go_simp⟩) hH ?_
  refine wpAnyH_take (i := 2) (v := .agg (adrL p).toArray) rfl (by kernel_rfl) (by kernel_rfl) (by kernel_rfl) (fun _ _ _ h => h) (yieldsIf_load_mid (by rfl) 23 _ rfl (w.heap.size + 1) 0 rfl (adrL p) _ (fun w h => h.2.1) u23 rfl l23p) hH ?_
  refine wpAnyH_take (i := 4) (v := .pointer (some ⟨w.heap.size + 1, 16, none⟩)) rfl (by kernel_rfl) (by kernel_rfl) (by kernel_rfl) (fun _ _ _ h => h) (Or.inl ⟨by rfl, fun w hw => by go_simp⟩) hH ?_
  refine wpAnyH_take (i := 5) (v := .int .u8 (n : Int)) rfl (by kernel_rfl) (by kernel_rfl) (by kernel_rfl) (fun _ _ _ h => h) (Or.inl ⟨by rfl, fun w hw => by have := hw.2.2.1; go_simp⟩) hH ?_
  refine wpAnyH_take (i := 6) (v := .int .i64 (n : Int)) rfl (by kernel_rfl) (by kernel_rfl) (by kernel_rfl) (fun _ _ _ h => h) (Or.inl ⟨by rfl, fun w hw => by go_simp; rw [IntKind.wrap_i64]; omega⟩) hH ?_
  refine wpAnyH_take (i := 7) (v := .int .i64 (min (n : Int) 128)) rfl (by kernel_rfl) (by kernel_rfl) (by kernel_rfl) (fun _ _ _ h => h) (Or.inl ⟨by rfl, fun w hw => by go_simp⟩) hH ?_
  refine wpAnyH_ready (rs := [3]) (by kernel_rfl) (by simp) ?_
  refine AllReadyH.cons rfl (fun K hK => ?_) AllReadyH.nil
  go_simp
  refine (common_any a p _ ha hp).mono ?_
  rintro e w1 ⟨rfl, b1'⟩
  have b1 : Below w0.heap.size w0 w1 := ⟨b1'.os, b1'.tape, b1'.output, b1'.size, b1'.block⟩
  have hS : w1.rangeAt w.heap.size 0 (adrL a) ∧ w1.rangeAt (w.heap.size + 1) 0 (adrL p) ∧ w1.cell? ⟨w.heap.size + 1, 16, none⟩ = some (.int .u8 (n : Int)) ∧ Below w.heap.size w w1 := ⟨range_below r1 b1 (by omega), range_below r2 b1 hz, (b1.cell (p := ⟨w.heap.size + 1, 16, none⟩) hz).trans cp16, hB.trans (b1.mono hB.size)⟩
  refine hK.out _ _ hS (fun hH2 => ?_)
  clear hK hH
  refine wpAnyH_take (i := 8) (v := .bool (withinB a p n)) rfl (by kernel_rfl) (by kernel_rfl) (by kernel_rfl) (fun _ _ _ h => h) (Or.inl ⟨by rfl, fun w hw => by go_simp; unfold withinB; rw [Bool.eq_iff_iff]; simp; omega⟩) hH2 ?_
  refine wpAnyH_take (i := 9) (v := .bool (withinB a p n)) rfl (by kernel_rfl) (by kernel_rfl) (by kernel_rfl) (fun _ _ _ h => h) (Or.inl ⟨by rfl, fun w hw => by go_simp⟩) hH2 ?_
  refine wpAnyH_done (by kernel_rfl) ?_ _
  go_wp2_with fail
  go_ret
  exact ⟨rfl, hH2.2.2.2⟩
end Go.Proofs.Ytkhbchgocilclaa
