/- PrefixesHold, where the first prefix is not learnt. No condition. -/
import Derived.Test.YtkhbchgocilclaaHoldOut

namespace Go.Proofs.Ytkhbchgocilclaa
open Go.RowKit
set_option linter.unusedVariables false

structure Held (i : Info) (a : Nat → Nat) (B1 B2 b mb : Nat) (D : PD) (w w1 : World) : Prop extends Boxed i a B1 B2 w w1 where
  hb : w1.heap[b]? = some (.cells #[.map (some mb)] 58 (0, 0))
  map : MapIs w1 mb D
  gb : w.heap.size ≤ b
  gm : w.heap.size ≤ mb

section
variable {i : Info} {a : Nat → Nat} {B1 B2 b mb : Nat} {D : PD} {w w1 w2 : World}
theorem Boxed.step (h : Boxed i a B1 B2 w w1) (hb : Below w1.heap.size w1 w2) : Boxed i a B1 B2 w w2 :=
  ⟨(hb.block _ (lt_of_blk h.h1)).trans h.h1, (hb.block _ (lt_of_blk h.h2)).trans h.h2, h.g1, h.g2, h.below.trans (hb.mono h.below.size)⟩
theorem Held.step (h : Held i a B1 B2 b mb D w w1) (hb : Below w1.heap.size w1 w2) : Held i a B1 B2 b mb D w w2 :=
  ⟨h.toBoxed.step hb, (hb.block _ (lt_of_blk h.hb)).trans h.hb, h.map.below hb h.map.lt, h.gb, h.gm⟩
theorem Held.learnt {D' : PD} (h : Held i a B1 B2 b mb D w w1) (L : Learnt b mb D' w1 w2) : Held i a B1 B2 b mb D' w w2 :=
  ⟨⟨L.row ⟨_, h.map⟩ h.h1, L.row ⟨_, h.map⟩ h.h2, h.g1, h.g2, L.below h.below h.below.size h.gm⟩, L.hb, L.map, h.gb, h.gm⟩
theorem Boxed.ne (h : Boxed i a B1 B2 w w1) : B1 ≠ B2 := by
  intro e
  have h1 := h.h1; rw [e, h.h2] at h1; injection h1 with x; injection x with _ y; cases y
theorem Held.ne1 (h : Held i a B1 B2 b mb D w w1) : B1 ≠ b := by
  intro e
  have h1 := h.h1; rw [e, h.hb] at h1; injection h1 with x; injection x with _ y; cases y
theorem Held.ne2 (h : Held i a B1 B2 b mb D w w1) : B2 ≠ b := by
  intro e
  have h1 := h.h2; rw [e, h.hb] at h1; injection h1 with x; injection x with _ y; cases y
theorem MapIs.ne {cs : Array Value} {t : TypeId} {z : Nat × Nat} {k : Nat} (h : MapIs w1 mb D) (hk : w1.heap[k]? = some (.cells cs t z)) : k ≠ mb := by
  intro e
  obtain ⟨es, clock, hh, _⟩ := h
  rw [e, hh] at hk; injection hk with x; cases x
theorem MapIs.turned {o : Obj} {k : Nat} (h : MapIs w1 mb D) (t : Turned k o w1 w2) (hne : k ≠ mb) : MapIs w2 mb D := by
  obtain ⟨es, clock, hm, rest⟩ := h
  exact ⟨es, clock, (t.other (by omega)).trans hm, rest⟩
theorem cells_on (i : Info) (x : Bool) : i.cells.setIfInBounds 17 (.bool x) = ({ i with on := x } : Info).cells := by
  simp only [Info.cells, Info.L, List.setIfInBounds_toArray]
  rw [List.set_append_right _ _ (by rw [adrL_length]; omega), adrL_length]; rfl
theorem cells_v (i : Info) (x : Nat) : i.cells.setIfInBounds 19 (.int .u32 (x : Int)) = ({ i with v := x } : Info).cells := by
  simp only [Info.cells, Info.L, List.setIfInBounds_toArray]
  rw [List.set_append_right _ _ (by rw [adrL_length]; omega), adrL_length]; rfl
theorem Boxed.turned1 {i' : Info} (h : Boxed i a B1 B2 w w1) (t : Turned B1 (.cells i'.cells 28 (0, 0)) w1 w2) : Boxed i' a B1 B2 w w2 :=
  ⟨t.get (lt_of_blk h.h1), (t.other (fun e => h.ne e.symm)).trans h.h2, h.g1, h.g2, h.below.trans (t.below h.g1)⟩
theorem Boxed.turned2 {a' : Nat → Nat} (h : Boxed i a B1 B2 w w1) (t : Turned B2 (.cells (adrCells a') 23 (0, 0)) w1 w2) : Boxed i a' B1 B2 w w2 :=
  ⟨(t.other (fun e => h.ne e)).trans h.h1, t.get (lt_of_blk h.h2), h.g1, h.g2, h.below.trans (t.below h.g2)⟩
theorem Held.turned1 {i' : Info} (h : Held i a B1 B2 b mb D w w1) (t : Turned B1 (.cells i'.cells 28 (0, 0)) w1 w2) : Held i' a B1 B2 b mb D w w2 :=
  ⟨h.toBoxed.turned1 t, (t.other (fun e => h.ne1 e.symm)).trans h.hb, h.map.turned t (h.map.ne h.h1), h.gb, h.gm⟩
theorem Held.turned2 {a' : Nat → Nat} (h : Held i a B1 B2 b mb D w w1) (t : Turned B2 (.cells (adrCells a') 23 (0, 0)) w1 w2) : Held i a' B1 B2 b mb D w w2 :=
  ⟨h.toBoxed.turned2 t, (t.other (fun e => h.ne2 e.symm)).trans h.hb, h.map.turned t (h.map.ne h.h2), h.gb, h.gm⟩
theorem Held.setOn (h : Held i a B1 B2 b mb D w w1) (x : Bool) : Held { i with on := x } a B1 B2 b mb D w (w1.setCell ⟨B1, 17, none⟩ (.bool x)) :=
  h.turned1 (cells_on i x ▸ Turned.setCell h.h1 17 (.bool x))
theorem Held.setV (h : Held i a B1 B2 b mb D w w1) (x : Nat) : Held { i with v := x } a B1 B2 b mb D w (w1.setCell ⟨B1, 19, none⟩ (.int .u32 (x : Int))) :=
  h.turned1 (cells_v i x ▸ Turned.setCell h.h1 19 (.int .u32 (x : Int)))
end
theorem Info.L_length (i : Info) : i.L.length = 21 := by simp [Info.L, adrL_length]
theorem info28 (i : Info) : (Try.prog.info? 28).map (·.size) = some i.L.length := by rw [Info.L_length]; kernel_rfl
theorem range_L {w : World} {b : Nat} {t : TypeId} {z : Nat × Nat} {i : Info} (h : w.heap[b]? = some (.cells i.cells t z)) : w.rangeAt b 0 i.L := by
  intro j v hj
  rw [Nat.zero_add, cell_blk h]
  simpa [Info.cells] using hj
theorem range_adrI {w : World} {b : Nat} {t : TypeId} {z : Nat × Nat} {i : Info} (h : w.heap[b]? = some (.cells i.cells t z)) : w.rangeAt b 0 (adrL i.a) := by
  intro j v hj
  have hl : j < (adrL i.a).length := (List.getElem?_eq_some_iff.1 hj).1
  rw [Nat.zero_add, cell_blk h]
  simp only [Info.cells, Info.L, List.getElem?_toArray]
  rw [List.getElem?_append_left hl, hj]
theorem learnOk_first {i : Info} (hon : i.on = true) (hn : i.n ≤ 128) (hv : i.v ≠ 0) : learnOk i (.map []) = (!linkB i.a && !manyB i.a) := by
  unfold learnOk tellB
  have e1 : Maps.size (.map [] : PD) = 0 := rfl
  have e2 : 0 < i.v := by omega
  rw [hon, e1]; simp [hn, e2]

set_option maxRecDepth 100000 in
set_option maxHeartbeats 400000 in
theorem hold_no (i : Info) (p : Option Addr) (len cap : Nat) (a : Nat → Nat) (w : World) (ok : i.Ok) (hlen : len ≤ 100) (hv : i.v ≠ 0) (hn : i.n ≤ 128) (hf : linkB i.a = true ∨ manyB i.a = true) :
    Calls Try.prog 3 #[.agg i.cells, .slice p len cap, .agg (adrCells a)] w fun e w' => e = .returned (.bool true) ∧ Below w.heap.size w w' := by
  have HB0 := Lib.hid (Boxed.mk' i a w)
  have t1 : decide ((100 : Int) < len) = false := by simp; omega
  have c19 := HB0.out.c19
  have c16 := HB0.out.c16
  have t2 : decide ((i.v : Int) = 0) = false := by simp; omega
  have t3 : decide ((128 : Int) < i.n) = false := by simp; omega
  go_enter Try.func3, Try.ntmps3
  go_wp2_with fail
  generalize (w.alloc (.cells i.cells 28)).alloc (.cells (adrCells a) 23) = w1 at *
  refine (new_any w1).mono ?_
  rintro e w2 ⟨b, mb, rfl, hb, hle, hne, hm⟩
  have hB1 := HB0.out
  have hH : Held i a w.heap.size (w.heap.size + 1) b mb (.map []) w w2 :=
    ⟨hB1.step hb.below, hb.get, hm, by have := hb.new; have := hB1.below.size; omega, by have := hB1.below.size; omega⟩
  have HH := Lib.hid hH
  have hO := HH.out.setOn true
  have HO := Lib.hid hO
  have HR := Lib.hid (range_L hO.h1)
  have c17 := hH.c17
  have f17 := frozen_blk hH.h1 17
  clear HB0 c19 c16 t1 t2 t3 hb hB1 hH hO
  go_wp2_with (refine wpList_load_mid rfl 28 _ rfl w.heap.size 0 rfl ({ i with on := true } : Info).L _ HR.out Try.underlying28 rfl (info28 _) ?_)
  have hO := HO.out
  have ok1 : ({ i with on := true } : Info).Ok := ⟨ok.a, ok.n, ok.v⟩
  have hno : learnOk ({ i with on := true } : Info) (.map []) = false := by
    rw [learnOk_first (i := { i with on := true }) rfl hn hv]
    rcases hf with h | h
    · show (!linkB i.a && _) = false; rw [h]; rfl
    · show (_ && !manyB i.a) = false; rw [h]; simp
  clear HH HR c17 f17 hm HO
  generalize w2.setCell { block := w.heap.size, off := 17 } (Value.bool true) = w3 at *
  obtain ⟨B1, hB1⟩ : ∃ B, B = w.heap.size := ⟨_, rfl⟩
  obtain ⟨B2, hB2⟩ : ∃ B, B = w.heap.size + 1 := ⟨_, rfl⟩
  have hO : Held { i with on := true } a B1 B2 b mb (.map []) w w3 := by rw [hB1, hB2]; exact hO
  rw [← hB2, ← hB1]
  have N1 := Lib.hid hB1; have N2 := Lib.hid hB2; clear hB1 hB2
  refine (learn_any _ b mb 0 (.map []) w3 ok1 (by decide) hO.hb hO.map (by decide)).mono ?_
  rw [hno]
  rintro e w4 ⟨rfl, L4⟩
  have H4 := Lib.hid (hO.learnt L4)
  have R4 := Lib.hid (range_adrI H4.out.h1)
  clear hO L4 hno
  cases hl : linkB i.a with
  | true =>
    go_wp2_with (refine wpList_load_mid_g rfl 23 _ rfl B1 0 rfl (adrL i.a) _ R4.out Try.underlying23 rfl (info23 _) ?_)
    refine (link_any i.a _ ok.a).mono ?_
    rw [hl]
    rintro e w5 ⟨rfl, b5⟩
    have H5 := Lib.hid (H4.out.step b5)
    clear H4 R4 b5
    go_wp2_with fail
    refine (lives_any _).mono ?_
    rintro e w6 ⟨rfl, b6⟩
    have H6 := Lib.hid (H5.out.step b6)
    clear H5 b6
    go_wp2_with fail
    go_ret
    exact ⟨rfl, H6.out.below⟩
  | false =>
    have hmany : manyB i.a = true := by rcases hf with h | h <;> simp_all
    go_wp2_with (refine wpList_load_mid_g rfl 23 _ rfl B1 0 rfl (adrL i.a) _ R4.out Try.underlying23 rfl (info23 _) ?_)
    refine (link_any i.a _ ok.a).mono ?_
    rw [hl]
    rintro e w5 ⟨rfl, b5⟩
    have H5 := Lib.hid (H4.out.step b5)
    have R5 := Lib.hid (range_adrI H5.out.h1)
    clear H4 R4 b5
    go_wp2_with (refine wpList_load_mid_g rfl 23 _ rfl B1 0 rfl (adrL i.a) _ R5.out Try.underlying23 rfl (info23 _) ?_)
    refine (many_any i.a _).mono ?_
    rw [hmany]
    rintro e w6 ⟨rfl, b6⟩
    have H6 := Lib.hid (H5.out.step b6)
    clear H5 b6 R5
    go_wp2_with fail
    refine (lives_any _).mono ?_
    rintro e w7 ⟨rfl, b7⟩
    have H7 := Lib.hid (H6.out.step b7)
    clear H6 b7
    go_wp2_with fail
    go_ret
    exact ⟨rfl, H7.out.below⟩
end Go.Proofs.Ytkhbchgocilclaa
