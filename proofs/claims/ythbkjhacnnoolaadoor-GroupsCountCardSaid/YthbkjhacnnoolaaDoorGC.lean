/- The small functions of the groups that ask the table of known addresses, and the records: the walks. No condition but that the table is as it was laid. (Written out by exp.py.) -/
import Derived.Test.YthbkjhacnnoolaaDoorGA
namespace Go.Proofs.YthbkjhacnnoolaaDoor
open Go.RowKit
set_option linter.unusedVariables false
set_option linter.unusedSimpArgs false
def nodesL : List Nat := [255, 2, 0, 0, 0, 0, 0, 0, 0, 0, 0, 0, 0, 0, 0, 1]
theorem nodes_adr : Adr nodesL := ⟨rfl, by decide⟩
/-- the table of known addresses, as far as it is asked -/
structure Kn (w : World) : Prop where
  at_ : w.rangeAt 0 32 (row8 nodesL)
  lt : 0 < w.heap.size
theorem range_below {B : Nat} {w w' : World} {b o : Nat} {l : List Value} (h : w.rangeAt b o l) (hb : b < B) (hB : Below B w w') : w'.rangeAt b o l := fun j v hj => (hB.cell (p := ⟨b, o + j, none⟩) hb).trans (h j v hj)
theorem Kn.below {w w' : World} {B : Nat} (h : Kn w) (hb : Below B w w') (hB : 0 < B) : Kn w' := ⟨range_below h.at_ hB hb, Nat.lt_of_lt_of_le h.lt hb.size⟩
theorem size26 : (Tryd.prog.info? 26).map (·.size) = some 16 := by kernel_rfl
theorem zero26 : (#[Value.int .u8 0, Value.int .u8 0, Value.int .u8 0, Value.int .u8 0, Value.int .u8 0, Value.int .u8 0, Value.int .u8 0, Value.int .u8 0, Value.int .u8 0, Value.int .u8 0, Value.int .u8 0, Value.int .u8 0, Value.int .u8 0, Value.int .u8 0, Value.int .u8 0, Value.int .u8 0] : Array Value) = (row8 (List.replicate 16 0)).toArray := by kernel_rfl
set_option maxRecDepth 100000 in
theorem nodes31 (w : World) (h : Kn w) : Calls Tryd.prog 31 #[] w fun e w' => e = .returned (.agg (row8 nodesL).toArray) ∧ Below w.heap.size w w' := by
  have HR := Lib.hid (range_below h.at_ h.lt ((Below.refl w.heap.size w).alloc (Nat.le_refl _) (.cells (row8 (List.replicate 16 0)).toArray 26)))
  have hb := heap_alloc_new w (.cells (row8 (List.replicate 16 0)).toArray 26)
  have hal : Below w.heap.size w (w.alloc (.cells (row8 (List.replicate 16 0)).toArray 26)) := (Below.refl _ _).alloc (Nat.le_refl _) _
  obtain ⟨V, hV⟩ : ∃ V, V = w.alloc (.cells (row8 (List.replicate 16 0)).toArray 26) := ⟨_, rfl⟩
  obtain ⟨b, hbb⟩ : ∃ b, b = w.heap.size := ⟨_, rfl⟩
  obtain ⟨Z, hZ⟩ : ∃ Z, Z = row8 nodesL := ⟨_, rfl⟩
  obtain ⟨Y, hY⟩ : ∃ Y, Y = row8 (List.replicate 16 0) := ⟨_, rfl⟩
  have hzl : Z.length = 16 := by rw [hZ]; rfl
  have hyl : Y.length = 16 := by rw [hY]; rfl
  have hz1 : ∀ v ∈ Z, v.oneCell' = true := by rw [hZ]; exact row8_one _
  rw [← hY] at hV hb hal HR
  rw [← hV] at hb hal HR
  rw [← hbb] at hb
  rw [← hZ] at HR ⊢
  have HZL := Lib.hid hzl; have HYL := Lib.hid hyl; have HZ1 := Lib.hid hz1; have HAL := Lib.hid hal; have HB := Lib.hid hb; have HSZ := Lib.hid size26
  have HLE : Hid (w.heap.size ≤ b) := Lib.hid (by omega)
  have HY2 : Hid ((#[Value.int .u8 0, Value.int .u8 0, Value.int .u8 0, Value.int .u8 0, Value.int .u8 0, Value.int .u8 0, Value.int .u8 0, Value.int .u8 0, Value.int .u8 0, Value.int .u8 0, Value.int .u8 0, Value.int .u8 0, Value.int .u8 0, Value.int .u8 0, Value.int .u8 0, Value.int .u8 0] : Array Value) = Y.toArray) := Lib.hid (by rw [hY]; exact zero26)
  clear hb hal hZ hY hzl hyl hz1
  go_enter Tryd.func31, Tryd.ntmps31
  go_upto_region 1 with (fail)
  rw [HY2.out, ← hV, ← hbb]
  clear hV hbb
  go_wp2_with (first | (refine wpList_load_mid rfl 26 (.tmp 1) ?ho 0 32 ?hx Z _ ?hr Tryd.underlying26 rfl ?hi ?_; (case ho => with_reducible rfl); (case hx => rfl); (case hr => exact HR.out); (case hi => rw [HZL.out]; exact HSZ.out); (try simp only [Act.put, List.setIfInBounds_toArray, List.set_cons_zero, List.set_cons_succ])) | (refine wpList_store_row rfl 26 (.tmp 0) (.tmp 2) ?ho b Z.toArray ?hx ?hy 26 Y.toArray HB.out ?hi ?hc ?h1 ?_; (case ho => with_reducible rfl); (case hx => kernel_rfl); (case hy => kernel_rfl); (case hi => rw [List.size_toArray, HZL.out]; exact HSZ.out); (case hc => simp only [List.size_toArray, HZL.out, HYL.out]); (case h1 => exact all_oneCell_toArray HZ1.out)))
  have t := Turned.setRow HB.out Z.toArray
  refine bodyPost_ret (results_cell_row rfl _ _ b 26 _ (0, 0) _ rfl (t.get (lt_of_blk HB.out)) Tryd.underlying26 rfl (by rw [List.size_toArray, HZL.out]; exact HSZ.out)) rfl ⟨rfl, HAL.out.trans (t.below HLE.out)⟩
end Go.Proofs.YthbkjhacnnoolaaDoor
