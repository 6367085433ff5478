/- The walk of info: a piece of prefix news, built. No condition but that the numbers fit. -/
import Derived.Test.YtkhbchgocilclaaTick

namespace Go.Proofs.Ytkhbchgocilclaa
open Go.RowKit
set_option linter.unusedVariables false

theorem built25 (a : Nat → Nat) (n : Nat) : Try.prog.built 25 [(0, .agg (adrL a).toArray), (1, .int .u8 (n : Int))] = some (preL a n).toArray := by kernel_rfl
theorem built28 (a : Nat → Nat) (n v : Nat) : Try.prog.built 28 [(0, .agg (preL a n).toArray), (1, .bool true), (3, .int .u32 (v : Int))] = some (Info.mk a n true false v 0).L.toArray := by kernel_rfl
theorem zeroInfo : #[Value.int .u8 0, .int .u8 0, .int .u8 0, .int .u8 0, .int .u8 0, .int .u8 0, .int .u8 0, .int .u8 0, .int .u8 0, .int .u8 0, .int .u8 0, .int .u8 0, .int .u8 0, .int .u8 0, .int .u8 0, .int .u8 0, .int .u8 0, .bool false, .bool false, .int .u32 0, .int .u32 0] = (Info.mk (fun _ => 0) 0 false false 0 0).cells := by kernel_rfl

theorem wpList_build2 {P : Program} {ops : Array Oper} {rest : List Oper} {o : Oper} {a : Act} {w : World} {Q : Exit → Act → World → Prop} (hg : o.guard = none) (t : TypeId) (i0 i1 : Nat) (x0 x1 : Operand) (ho : o.op = .build t #[(i0, x0), (i1, x1)])
    (v0 v1 : Value) (h0 : a.eval x0 = v0) (h1 : a.eval x1 = v1) (cs : Array Value) (hf : P.built t [(i0, v0), (i1, v1)] = some cs)
    (h : wpList P ops Q rest (a.put o.dst (.agg cs)) w) : wpList P ops Q (o :: rest) a w := by
  have e : ((#[(i0, x0), (i1, x1)] : Array (Nat × Operand)).map fun (i, x) => (i, a.eval x)).toList = [(i0, v0), (i1, v1)] := by simp [h0, h1]
  exact wpList_build hg t _ ho (by rw [e, hf]; rfl) (by rw [e, hf]; exact h)
theorem wpList_build3 {P : Program} {ops : Array Oper} {rest : List Oper} {o : Oper} {a : Act} {w : World} {Q : Exit → Act → World → Prop} (hg : o.guard = none) (t : TypeId) (i0 i1 i2 : Nat) (x0 x1 x2 : Operand) (ho : o.op = .build t #[(i0, x0), (i1, x1), (i2, x2)])
    (v0 v1 v2 : Value) (h0 : a.eval x0 = v0) (h1 : a.eval x1 = v1) (h2 : a.eval x2 = v2) (cs : Array Value) (hf : P.built t [(i0, v0), (i1, v1), (i2, v2)] = some cs)
    (h : wpList P ops Q rest (a.put o.dst (.agg cs)) w) : wpList P ops Q (o :: rest) a w := by
  have e : ((#[(i0, x0), (i1, x1), (i2, x2)] : Array (Nat × Operand)).map fun (i, x) => (i, a.eval x)).toList = [(i0, v0), (i1, v1), (i2, v2)] := by simp [h0, h1, h2]
  exact wpList_build hg t _ ho (by rw [e, hf]; rfl) (by rw [e, hf]; exact h)

set_option maxRecDepth 100000 in
set_option maxHeartbeats 400000 in
theorem info_any (a : Nat → Nat) (n v : Nat) (w : World) (hn : n < 256) :
    Calls Try.prog 19 #[.agg (adrCells a), .int .u8 n, .int .u32 v] w fun e w' => e = .returned (.agg (Info.mk a n true false v 0).cells) ∧ Below w.heap.size w w' := by
  have h1 : ((w.alloc (.cells (adrCells a) 23)).alloc (.cells (Info.mk (fun _ => 0) 0 false false 0 0).cells 28)).heap[w.heap.size]? = some (.cells (adrCells a) 23 (0, 0)) := heap_alloc2_old _ _ _
  have h2 := heap_alloc2_new w (.cells (adrCells a) 23) (.cells (Info.mk (fun _ => 0) 0 false false 0 0).cells 28)
  have hB : Below w.heap.size w ((w.alloc (.cells (adrCells a) 23)).alloc (.cells (Info.mk (fun _ => 0) 0 false false 0 0).cells 28)) := ((Below.refl _ _).alloc (Nat.le_refl _) _).alloc (by simp) _
  rw [← zeroInfo] at h1 h2 hB
  have R1 := Lib.hid (range_adr h1); have H2 := Lib.hid h2; have HB := Lib.hid hB
  clear h1 h2 hB
  have hsz : 21 = (Info.mk a n true false v 0).L.toArray.size := by simp [Info.L, adrL_length]
  have HS := Lib.hid hsz; clear hsz
  have hone : (Info.mk a n true false v 0).L.toArray.all (·.oneCell') = true := all_oneCell_toArray (by
    intro x hx
    rcases List.mem_append.1 hx with h | h
    · exact adrL_one a x h
    · simp only [List.mem_cons, List.not_mem_nil, or_false] at h; rcases h with rfl | rfl | rfl | rfl | rfl <;> rfl)
  have HO := Lib.hid hone; clear hone
  go_enter Try.func19, Try.ntmps19
  go_wp2_with (first | (refine wpList_build2 rfl 25 0 1 _ _ rfl (.agg (adrL a).toArray) (.int .u8 (n : Int)) rfl rfl (preL a n).toArray (built25 a n) ?_) | (refine wpList_build3 rfl 28 0 1 3 _ _ _ rfl (.agg (preL a n).toArray) (.bool true) (.int .u32 (v : Int)) rfl rfl rfl (Info.mk a n true false v 0).L.toArray (built28 a n v) ?_) | (refine wpList_load_mid rfl 23 _ rfl w.heap.size 0 rfl (adrL a) _ R1.out Try.underlying23 rfl (info23 _) ?_) | (refine wpList_store_row rfl 28 _ _ rfl (w.heap.size + 1) (Info.mk a n true false v 0).L.toArray rfl rfl 28 _ H2.out (by rw [← HS.out]; kernel_rfl) HS.out HO.out ?_))
  have t := Turned.setRow H2.out (Info.mk a n true false v 0).L.toArray
  refine bodyPost_ret (results_cell_row rfl _ _ (w.heap.size + 1) 28 _ (0, 0) _ rfl (t.get (lt_of_blk H2.out)) Try.underlying28 rfl (by rw [← HS.out]; kernel_rfl)) rfl ⟨rfl, HB.out.trans (t.below (by omega))⟩
end Go.Proofs.Ytkhbchgocilclaa
