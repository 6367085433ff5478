/- A record of a group; a table: is it there, a new one: the walks. No condition. (Written out by exp.py.) -/
import Derived.Test.YthbkjhacnnoolaaDoorGE
import Derived.Maps.Ext
import Derived.Maps.OwnSet
import Derived.Great.BuildSlice
namespace Go.Proofs.YthbkjhacnnoolaaDoor
open Go.RowKit
set_option linter.unusedVariables false
set_option linter.unusedSimpArgs false
theorem wpList_build2 {P : Program} {ops : Array Oper} {rest : List Oper} {o : Oper} {a : Act} {w : World} {Q : Exit → Act → World → Prop} (hg : o.guard = none) (t : TypeId) (i0 i1 : Nat) (x0 x1 : Operand) (ho : o.op = .build t #[(i0, x0), (i1, x1)])
    (v0 v1 : Value) (h0 : a.eval x0 = v0) (h1 : a.eval x1 = v1) (cs : Array Value) (hf : P.built t [(i0, v0), (i1, v1)] = some cs)
    (h : wpList P ops Q rest (a.put o.dst (.agg cs)) w) : wpList P ops Q (o :: rest) a w := by
  have e : ((#[(i0, x0), (i1, x1)] : Array (Nat × Operand)).map fun (i, x) => (i, a.eval x)).toList = [(i0, v0), (i1, v1)] := by simp [h0, h1]
  exact wpList_build hg t _ ho (by rw [e, hf]; rfl) (by rw [e, hf]; exact h)
theorem wpList_bs1r {P : Program} {ops : Array Oper} {rest : List Oper} {o : Oper} {a : Act} {w : World} {Q : Exit → Act → World → Prop} (hgd : o.guard = none) (t e : TypeId) (len i0 : Nat) (x0 : Operand) (ho : o.op = .buildSlice t len #[(i0, x0)]) (v0 : Value) (h0 : a.eval x0 = v0)
    (cells : Array Value) (ie : TypeInfo) (z : Value)
    (hu : P.underlying t = some (.slice e)) (hie : P.info? e = some ie) (hz : ie.zero = some z) (hsmall : ¬ len * ie.size > 2 ^ 24) (hpos : ¬ len * ie.size = 0)
    (hf : Instr.fill (fun i => some (i * ie.size, ie.size)) ((Array.range (len * ie.size)).map (z.cells[· % z.cells.size]!)) [(i0, v0)] = some cells)
    (h : wpList P ops Q rest (a.put o.dst (.slice (some ⟨w.heap.size, 0, none⟩) len len)) (w.alloc (.cells cells e))) : wpList P ops Q (o :: rest) a w := by
  refine wpList_buildSlice hgd t e len _ ho cells ie z hu hie hz hsmall hpos ?_ h
  have e : ((#[(i0, x0)] : Array (Nat × Operand)).map fun (i, x) => (i, a.eval x)).toList = [(i0, v0)] := by simp [h0]
  rw [e]; exact hf
def recL (k : Nat) (l : List Nat) : List Value := .int .u8 (k : Int) :: (row8 l ++ [.slice none 0 0])
def zeroR : List Value := recL 0 (List.replicate 16 0)
theorem info42 : (Tryd.prog.info? 42).map (fun i => (i.zero, i.size)) = some (some (.agg zeroR.toArray), 18) := by kernel_rfl
theorem built42 {k : Nat} {l : List Nat} (h : l.length = 16) : Tryd.prog.built 42 [(0, .int .u8 (k : Int)), (1, .agg (row8 l).toArray)] = some (recL k l).toArray := by
  obtain ⟨a0, a1, a2, a3, a4, a5, a6, a7, a8, a9, a10, a11, a12, a13, a14, a15, rfl⟩ := list16 h
  kernel_rfl
theorem fill42 {k : Nat} {l : List Nat} (h : l.length = 16) : Instr.fill (fun i => some (i * 18, 18)) ((Array.range (1 * 18)).map ((Value.agg zeroR.toArray).cells[· % (Value.agg zeroR.toArray).cells.size]!)) [(0, .agg (recL k l).toArray)] = some (recL k l).toArray := by
  obtain ⟨a0, a1, a2, a3, a4, a5, a6, a7, a8, a9, a10, a11, a12, a13, a14, a15, rfl⟩ := list16 h
  kernel_rfl
/-- one record, in a row of its own -/
structure RecAt (k : Nat) (l : List Nat) (v : Value) (w w' : World) : Prop where
  at_ : ∃ g, v = .slice (some ⟨g, 0, none⟩) 1 1 ∧ w.heap.size ≤ g ∧ w'.heap[g]? = some (.cells (recL k l).toArray 42 (0, 0))
  below : Below w.heap.size w w'
set_option maxRecDepth 100000 in
theorem record32 {k : Nat} {l : List Nat} (w : World) (h : Adr l) :
    Calls Tryd.prog 32 #[.int .u8 (k : Int), .agg (row8 l).toArray] w fun e w' => ∃ v, e = .returned v ∧ RecAt k l v w w' := by
  have hal : Below w.heap.size w (w.alloc (.cells (row8 l).toArray 26)) := (Below.refl _ _).alloc (Nat.le_refl _) _
  have hb := heap_alloc_new w (.cells (row8 l).toArray 26)
  obtain ⟨V, hV⟩ : ∃ V, V = w.alloc (.cells (row8 l).toArray 26) := ⟨_, rfl⟩
  obtain ⟨b, hbb⟩ : ∃ b, b = w.heap.size := ⟨_, rfl⟩
  rw [← hV] at hal hb; rw [← hbb] at hb
  have HR := Lib.hid (row_at hb); have HAL := Lib.hid hal
  obtain ⟨i42, hi, hz0, hz1⟩ : ∃ i, Tryd.prog.info? 42 = some i ∧ i.zero = some (.agg zeroR.toArray) ∧ i.size = 18 := by
    have := info42
    rw [Option.map_eq_some_iff] at this
    obtain ⟨i, h1, h2⟩ := this
    exact ⟨i, h1, (Prod.mk.inj h2).1, (Prod.mk.inj h2).2⟩
  have HBU := Lib.hid (built42 (k := k) h.len)
  have HFI : Hid (Instr.fill (fun i => some (i * i42.size, i42.size)) ((Array.range (1 * i42.size)).map ((Value.agg zeroR.toArray).cells[· % (Value.agg zeroR.toArray).cells.size]!)) [(0, .agg (recL k l).toArray)] = some (recL k l).toArray) := Lib.hid (by rw [hz1]; exact fill42 h.len)
  obtain ⟨X, hX⟩ : ∃ X, X = row8 l := ⟨_, rfl⟩
  obtain ⟨RL, hRL⟩ : ∃ X, X = recL k l := ⟨_, rfl⟩
  have HXL : Hid (X.length = 16) := Lib.hid (by rw [hX, row8_length, h.len])
  have HSZ := Lib.hid size26
  have HRL := Lib.hid hRL
  rw [← hX] at HR hV HBU ⊢
  rw [← hRL] at HBU HFI
  have HI := Lib.hid hi; have HZ0 := Lib.hid hz0; have HZ1 := Lib.hid hz1
  clear hal hb h hX hRL hi hz0 hz1
  go_enter Tryd.func32, Tryd.ntmps32
  go_upto_region 1 with (fail)
  rw [← hV, ← hbb]
  clear hV hbb
  go_wp2_with (first | (refine wpList_load_mid rfl 26 (.tmp 3) ?ho b 0 ?hx X _ ?hr Tryd.underlying26 rfl ?hi ?_; (case ho => with_reducible rfl); (case hx => rfl); (case hr => exact HR.out); (case hi => rw [HXL.out]; exact HSZ.out); (try simp only [Act.put, List.setIfInBounds_toArray, List.set_cons_zero, List.set_cons_succ])) | (refine wpList_build2 rfl 42 0 1 (.tmp 5) (.tmp 6) ?ho (.int .u8 (k : Int)) (.agg X.toArray) ?h0 ?h1 RL.toArray HBU.out ?_; (case ho => with_reducible rfl); (case h0 => rfl); (case h1 => rfl)) | (refine wpList_bs1r rfl 32 42 1 0 (.tmp 7) ?ho (.agg RL.toArray) ?h0 RL.toArray i42 _ Tryd.underlying32 HI.out HZ0.out (by rw [HZ1.out]; decide) (by rw [HZ1.out]; decide) HFI.out ?_; (case ho => with_reducible rfl); (case h0 => rfl)))
  go_ret
  have hV2 : Below V.heap.size V (V.alloc (.cells RL.toArray 42)) := (Below.refl _ _).alloc (Nat.le_refl _) _
  exact ⟨_, rfl, ⟨V.heap.size, rfl, HAL.out.size, by rw [HRL.out]; exact heap_alloc_new _ _⟩, HAL.out.trans (hV2.mono HAL.out.size)⟩
/-- the table, its three maps -/
structure Tb (w : World) (t mj ma mc : Nat) : Prop where
  blk : w.heap[t]? = some (.cells #[.map (some mj), .map (some ma), .map (some mc), .int .u64 0, .bool false] 67 (0, 0))
set_option maxRecDepth 100000 in
theorem there21 {t mj ma mc : Nat} (w : World) (h : Tb w t mj ma mc) :
    Calls Tryd.prog 21 #[.pointer (some ⟨t, 0, none⟩)] w fun e w' => e = .returned (.bool true) ∧ w = w' := by
  have c0 : w.cell? ⟨t, 0, none⟩ = some (.map (some mj)) := by rw [cell_blk h.blk]; rfl
  clear h
  have hn : ∀ W : World, (binOp .neq 53 (.map (some mj)) (.map none)).run Tryd.prog W = .ok (.bool true) W := fun W => run_neq_map_nil W 53 26 3 (some mj) Tryd.underlying53
  go_enter Tryd.func21, Tryd.ntmps21
  go_wp2_with fail
  go_ret
  exact ⟨rfl, rfl⟩
end Go.Proofs.YthbkjhacnnoolaaDoor
