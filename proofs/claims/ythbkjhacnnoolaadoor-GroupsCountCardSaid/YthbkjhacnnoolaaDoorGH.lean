/- A new table, and the group of a number: the walks. No condition. (Written out by exp.py.) -/
import Derived.Test.YthbkjhacnnoolaaDoorGG
namespace Go.Proofs.YthbkjhacnnoolaaDoor
open Go.RowKit
set_option linter.unusedVariables false
set_option linter.unusedSimpArgs false
/-- a table and what its maps hold -/
structure Tab (w : World) (t mj ma mc n m : Nat) (D : PD) : Prop where
  tb : Tb w t mj ma mc
  j : MJ w mj n D
  a : MA w ma
  c : MC w mc m
  ja : mj ≠ ma
  jc : mj ≠ mc
  ac : ma ≠ mc
  tj : t ≠ mj
  ta : t ≠ ma
  tc : t ≠ mc
theorem new8 (w : World) :
    Calls Tryd.prog 8 #[] w fun e w' => ∃ t mj ma mc, e = .returned (.pointer (some ⟨t, 0, none⟩)) ∧ Tab w' t mj ma mc 0 0 (.map []) ∧ w.heap.size ≤ t ∧ w.heap.size ≤ mj ∧ w.heap.size ≤ ma ∧ w.heap.size ≤ mc ∧ Below w.heap.size w w' := by
  have hmm := @run_makeMap Tryd.prog
  go_enter Tryd.func8, Tryd.ntmps8
  go_wp2_with fail
  go_ret
  have h0 := World.ownsMap_made w Tryd.prog 26 (plainElem (H := Unit) Tryd.prog 3)
  have h1 := World.ownsMap_made (w.alloc (.map #[] 0)) Tryd.prog 26 (plainElem (H := Unit) Tryd.prog 36)
  have h2 := World.ownsMap_made ((w.alloc (.map #[] 0)).alloc (.map #[] 0)) Tryd.prog 26 chElem
  have e1 : (w.alloc (.map #[] 0)).heap.size = w.heap.size + 1 := by simp
  have e2 : ((w.alloc (.map #[] 0)).alloc (.map #[] 0)).heap.size = w.heap.size + 1 + 1 := by simp
  have e3 : (((w.alloc (.map #[] 0)).alloc (.map #[] 0)).alloc (.map #[] 0)).heap.size = w.heap.size + 1 + 1 + 1 := by simp
  rw [e1] at h1; rw [e2] at h2
  refine ⟨w.heap.size + 1 + 1 + 1, w.heap.size, w.heap.size + 1, w.heap.size + 1 + 1, rfl, ⟨⟨?_⟩, ((h0.alloc _).alloc _).alloc _, (h1.alloc _).alloc _, ⟨_, h2.alloc _⟩, by omega, by omega, by omega, by omega, by omega, by omega⟩, by omega, by omega, by omega, by omega, ?_⟩
  · have := heap_alloc_new (((w.alloc (.map #[] 0)).alloc (.map #[] 0)).alloc (.map #[] 0)) (.cells #[.map (some w.heap.size), .map (some (w.heap.size + 1)), .map (some (w.heap.size + 1 + 1)), .int .u64 0, .bool false] 67)
    rw [e3] at this; exact this
  · exact ((((Below.refl _ _).alloc (Nat.le_refl _) _).alloc (by simp) _).alloc (by simp; omega) _).alloc (by simp; omega) _
/-- the group of a number -/
def grp (n : Nat) : List Nat := match n % 5 with
  | 0 => nodesL
  | 1 => [255, 1, 0, 0, 0, 0, 0, 0, 0, 0, 0, 0, 0, 0, 0, 5]
  | 2 => [255, 2, 0, 0, 0, 0, 0, 0, 0, 0, 0, 0, 0, 0, 0, n]
  | 3 => [255, 5, 0, 0, 0, 0, 0, 0, 0, 0, 0, 0, 0, 0, n, 7]
  | _ => [255, 14, 0, 0, 0, 0, 0, 0, 0, 0, 0, 0, 0, 0, 0, n]
theorem grp_adr {n : Nat} (h : n < 256) : Adr (grp n) := by
  unfold grp
  split
  · exact nodes_adr
  · exact ⟨rfl, by decide⟩
  all_goals
    refine ⟨rfl, ?_⟩
    intro y hy
    simp only [List.mem_cons, List.not_mem_nil, or_false] at hy
    omega
theorem grp_head (n : Nat) : (grp n).headD 0 = 255 := by
  unfold grp
  split <;> rfl
def all5 (n : Nat) : List Nat := nodesL ++ ([255, 1, 0, 0, 0, 0, 0, 0, 0, 0, 0, 0, 0, 0, 0, 5] ++ ([255, 2, 0, 0, 0, 0, 0, 0, 0, 0, 0, 0, 0, 0, 0, n] ++ ([255, 5, 0, 0, 0, 0, 0, 0, 0, 0, 0, 0, 0, 0, n, 7] ++ [255, 14, 0, 0, 0, 0, 0, 0, 0, 0, 0, 0, 0, 0, 0, n])))
theorem all5_at (n : Nat) : ∀ j, j < 16 → (all5 n)[(n % 5) * 16 + j]? = (grp n)[j]? := by
  intro j hj
  have h5 : n % 5 = 0 ∨ n % 5 = 1 ∨ n % 5 = 2 ∨ n % 5 = 3 ∨ n % 5 = 4 := by omega
  unfold grp all5
  have hj' : j = 0 ∨ j = 1 ∨ j = 2 ∨ j = 3 ∨ j = 4 ∨ j = 5 ∨ j = 6 ∨ j = 7 ∨ j = 8 ∨ j = 9 ∨ j = 10 ∨ j = 11 ∨ j = 12 ∨ j = 13 ∨ j = 14 ∨ j = 15 := by omega
  rcases h5 with e | e | e | e | e <;> rw [e] <;> rcases hj' with rfl | rfl | rfl | rfl | rfl | rfl | rfl | rfl | rfl | rfl | rfl | rfl | rfl | rfl | rfl | rfl <;> rfl
theorem wpList_bs5 {P : Program} {ops : Array Oper} {rest : List Oper} {o : Oper} {a : Act} {w : World} {Q : Exit → Act → World → Prop} (hgd : o.guard = none) (t e : TypeId) (len : Nat) (x0 x1 x2 x3 x4 : Operand) (ho : o.op = .buildSlice t len #[(0, x0), (1, x1), (2, x2), (3, x3), (4, x4)]) (v0 v1 v2 v3 v4 : Value) (h0 : a.eval x0 = v0) (h1 : a.eval x1 = v1) (h2 : a.eval x2 = v2) (h3 : a.eval x3 = v3) (h4 : a.eval x4 = v4)
    (cells : Array Value) (ie : TypeInfo) (z : Value)
    (hu : P.underlying t = some (.slice e)) (hie : P.info? e = some ie) (hz : ie.zero = some z) (hsmall : ¬ len * ie.size > 2 ^ 24) (hpos : ¬ len * ie.size = 0)
    (hf : Instr.fill (fun i => some (i * ie.size, ie.size)) ((Array.range (len * ie.size)).map (z.cells[· % z.cells.size]!)) [(0, v0), (1, v1), (2, v2), (3, v3), (4, v4)] = some cells)
    (h : wpList P ops Q rest (a.put o.dst (.slice (some ⟨w.heap.size, 0, none⟩) len len)) (w.alloc (.cells cells e))) : wpList P ops Q (o :: rest) a w := by
  refine wpList_buildSlice hgd t e len _ ho cells ie z hu hie hz hsmall hpos ?_ h
  have e : ((#[(0, x0), (1, x1), (2, x2), (3, x3), (4, x4)] : Array (Nat × Operand)).map fun (i, x) => (i, a.eval x)).toList = [(0, v0), (1, v1), (2, v2), (3, v3), (4, v4)] := by simp [h0, h1, h2, h3, h4]
  rw [e]; exact hf
def five (n : Nat) : List (Nat × Value) := [(0, .agg (row8 nodesL).toArray), (1, .agg (row8 [255, 1, 0, 0, 0, 0, 0, 0, 0, 0, 0, 0, 0, 0, 0, 5]).toArray), (2, .agg (row8 [255, 2, 0, 0, 0, 0, 0, 0, 0, 0, 0, 0, 0, 0, 0, n]).toArray), (3, .agg (row8 [255, 5, 0, 0, 0, 0, 0, 0, 0, 0, 0, 0, 0, 0, n, 7]).toArray), (4, .agg (row8 [255, 14, 0, 0, 0, 0, 0, 0, 0, 0, 0, 0, 0, 0, 0, n]).toArray)]
def zero16 : Value := .agg (row8 (List.replicate 16 0)).toArray
theorem info26z : (Tryd.prog.info? 26).map (fun i => (i.zero, i.size)) = some (some zero16, 16) := by kernel_rfl
theorem fill5 (n : Nat) : Instr.fill (fun i => some (i * 16, 16)) ((Array.range (5 * 16)).map (zero16.cells[· % zero16.cells.size]!)) (five n) = some (row8 (all5 n)).toArray := by kernel_rfl
theorem grp_len (n : Nat) : (grp n).length = 16 := by unfold grp; split <;> rfl
set_option maxRecDepth 100000 in
theorem group16 (n : Nat) (w : World) (h : n < 256) :
    Calls Tryd.prog 16 #[.int .u8 (n : Int)] w fun e w' => e = .returned (.agg (row8 (grp n)).toArray) ∧ Below w.heap.size w w' := by
  have hal : Below w.heap.size w (w.alloc (.cells (row8 (List.replicate 16 0)).toArray 26)) := (Below.refl _ _).alloc (Nat.le_refl _) _
  have hb := heap_alloc_new w (.cells (row8 (List.replicate 16 0)).toArray 26)
  obtain ⟨V, hV⟩ : ∃ V, V = w.alloc (.cells (row8 (List.replicate 16 0)).toArray 26) := ⟨_, rfl⟩
  obtain ⟨b, hbb⟩ : ∃ b, b = w.heap.size := ⟨_, rfl⟩
  have hy1 : (#[Value.int .u8 0, Value.int .u8 0, Value.int .u8 0, Value.int .u8 0, Value.int .u8 0, Value.int .u8 0, Value.int .u8 0, Value.int .u8 0, Value.int .u8 0, Value.int .u8 0, Value.int .u8 0, Value.int .u8 0, Value.int .u8 0, Value.int .u8 0, Value.int .u8 0, Value.int .u8 0] : Array Value) = (row8 (List.replicate 16 0)).toArray := zero26
  have hx1 := heap_alloc_new V (.cells (row8 (all5 n)).toArray 26)
  have hR : (V.alloc (.cells (row8 (all5 n)).toArray 26)).rangeAt V.heap.size (n % 5 * 16) (row8 (grp n)) := fun j v hj => by
    rw [cell_blk hx1]
    have hj2 : j < 16 := by have := (List.getElem?_eq_some_iff.1 hj).1; rw [row8_length, grp_len] at this; exact this
    rw [List.getElem?_toArray]
    rw [row8, List.getElem?_map] at hj ⊢
    rw [all5_at n j hj2]; exact hj
  have HB : Hid ((V.alloc (.cells (row8 (all5 n)).toArray 26)).heap[b]? = some (.cells (row8 (List.replicate 16 0)).toArray 26 (0, 0))) := by
    rw [← hV] at hb
    rw [hbb]
    exact Lib.hid ((((Below.refl V.heap.size V).alloc (Nat.le_refl _) (.cells (row8 (all5 n)).toArray 26)).block _ (lt_of_blk hb)).trans hb)
  have HAL := Lib.hid ((hV ▸ hal : Below w.heap.size w V).trans (((Below.refl V.heap.size V).alloc (Nat.le_refl _) (.cells (row8 (all5 n)).toArray 26)).mono (by rw [hV]; exact hal.size)))
  obtain ⟨X, hX⟩ : ∃ X, X = (row8 (all5 n)).toArray := ⟨_, rfl⟩
  obtain ⟨Y, hY⟩ : ∃ Y, Y = row8 (List.replicate 16 0) := ⟨_, rfl⟩
  obtain ⟨i26, hi, hz0, hz1⟩ : ∃ i, Tryd.prog.info? 26 = some i ∧ i.zero = some zero16 ∧ i.size = 16 := by
    have := info26z
    rw [Option.map_eq_some_iff] at this
    obtain ⟨i, h1, h2⟩ := this
    exact ⟨i, h1, (Prod.mk.inj h2).1, (Prod.mk.inj h2).2⟩
  have HFI : Hid (Instr.fill (fun i => some (i * i26.size, i26.size)) ((Array.range (5 * i26.size)).map (zero16.cells[· % zero16.cells.size]!)) (five n) = some X) := Lib.hid (by rw [hz1, hX]; exact fill5 n)
  have hgl := grp_len n
  obtain ⟨G, hG⟩ : ∃ G, G = row8 (grp n) := ⟨_, rfl⟩
  have HGL : Hid (G.length = 16) := Lib.hid (by rw [hG, row8_length, hgl])
  have HG1 : Hid (∀ v ∈ G, v.oneCell' = true) := Lib.hid (by rw [hG]; exact row8_one _)
  rw [← hX, ← hG] at hR; rw [← hX, ← hY] at HB; rw [← hX] at HAL; rw [← hG]; rw [← hY] at hV hy1
  have HYL : Hid (Y.length = 16) := Lib.hid (by rw [hY]; rfl)
  have HR := Lib.hid hR; have HI := Lib.hid hi; have HZ0 := Lib.hid hz0; have HZ1 := Lib.hid hz1; have HY := Lib.hid hy1
  have HSZ := Lib.hid size26
  have HLE : Hid (w.heap.size ≤ b) := Lib.hid (by omega)
  clear hb hal hx1 hR hi hz0 hz1 hX hY hgl hG hy1
  go_enter Tryd.func16, Tryd.ntmps16
  go_upto_region 1 with (fail)
  rw [HY.out, ← hV, ← hbb]
  clear hV hbb
  go_wp2_with (first | (refine wpList_bs5 rfl 40 26 5 (.tmp 3) (.tmp 4) (.tmp 6) (.tmp 8) (.tmp 10) ?ho _ _ _ _ _ ?h0 ?h1 ?h2 ?h3 ?h4 X i26 _ Tryd.underlying40 HI.out HZ0.out (by rw [HZ1.out]; decide) (by rw [HZ1.out]; decide) HFI.out ?_; (case ho => with_reducible rfl); (case h0 => rfl); (case h1 => rfl); (case h2 => rfl); (case h3 => rfl); (case h4 => rfl)) | (refine wpList_load_mid rfl 26 (.tmp 15) ?ho V.heap.size (n % 5 * 16) ?hx G _ ?hr Tryd.underlying26 rfl ?hi ?_; (case ho => with_reducible rfl); (case hx => rfl); (case hr => exact HR.out); (case hi => rw [HGL.out]; exact HSZ.out); (try simp only [Act.put, List.setIfInBounds_toArray, List.set_cons_zero, List.set_cons_succ])) | (refine wpList_store_row rfl 26 (.tmp 2) (.tmp 16) ?ho b G.toArray ?hx ?hv 26 Y.toArray HB.out ?hi ?hs (all_oneCell_toArray HG1.out) ?_; (case ho => with_reducible rfl); (case hx => rfl); (case hv => rfl); (case hi => rw [List.size_toArray, HGL.out]; exact HSZ.out); (case hs => rw [List.size_toArray, List.size_toArray, HGL.out, HYL.out])))
  have t := Turned.setRow HB.out G.toArray
  refine bodyPost_ret (results_cell_row rfl _ _ b 26 _ (0, 0) _ rfl (t.get (lt_of_blk HB.out)) Tryd.underlying26 rfl (by rw [List.size_toArray, HGL.out]; exact HSZ.out)) rfl ⟨rfl, HAL.out.trans (t.below HLE.out)⟩
end Go.Proofs.YthbkjhacnnoolaaDoor
