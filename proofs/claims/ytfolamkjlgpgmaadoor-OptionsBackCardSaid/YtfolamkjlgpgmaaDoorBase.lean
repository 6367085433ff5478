/- Small laws on a world's blocks: what a whole block says of its cells, and a world in which one block has been turned. No condition. -/
import Derived.WalkKit
import Derived.Deep.Draws
namespace Go.Proofs.YtfolamkjlgpgmaaDoor
open Go.RowKit

theorem cell_blk {w : World} {b : Nat} {c : Array Value} {t : TypeId} {z : Nat × Nat} (h : w.heap[b]? = some (.cells c t z)) (i : Nat) :
    w.cell? ⟨b, i, none⟩ = c[i]? := by
  simp [World.cell?, h]

theorem frozen_blk {w : World} {b : Nat} {c : Array Value} {t : TypeId} (h : w.heap[b]? = some (.cells c t (0, 0))) (i : Nat) :
    w.frozen? ⟨b, i, none⟩ = false := by
  simp [World.frozen?, h]

theorem setCell_blk {w : World} {b : Nat} {c : Array Value} {t : TypeId} {z : Nat × Nat} (h : w.heap[b]? = some (.cells c t z)) (i : Nat) (v : Value) :
    (w.setCell ⟨b, i, none⟩ v).heap = w.heap.setIfInBounds b (.cells (c.setIfInBounds i v) t z) := by
  have hb : b < w.heap.size := by
    rcases Nat.lt_or_ge b w.heap.size with h1 | h1
    · exact h1
    · rw [Array.getElem?_eq_none h1] at h; cases h
  apply Array.ext_getElem?
  intro k
  simp only [World.setCell, Array.getElem?_modify, Array.getElem?_setIfInBounds]
  by_cases hk : b = k
  · subst hk; rw [if_pos rfl, if_pos rfl, h]; simp [hb]
  · simp [hk]

/-- w' is w, its block b turned to o; what was drawn aside. -/
structure Turned (b : Nat) (o : Obj) (w w' : World) : Prop where
  heap : w'.heap = w.heap.setIfInBounds b o
  os : w'.os = w.os
  tape : w'.tape = w.tape
  output : w'.output = w.output

theorem Turned.refl {b : Nat} {o : Obj} {w : World} (h : w.heap[b]? = some o) : Turned b o w w := by
  refine ⟨?_, rfl, rfl, rfl⟩
  apply Array.ext_getElem?
  intro k
  rw [Array.getElem?_setIfInBounds]
  by_cases hk : b = k
  · subst hk
    have hb : b < w.heap.size := by
      rcases Nat.lt_or_ge b w.heap.size with h1 | h1
      · exact h1
      · rw [Array.getElem?_eq_none h1] at h; cases h
    rw [if_pos rfl, if_pos hb, h]
  · simp [hk]

theorem Turned.setCell {w : World} {b : Nat} {c : Array Value} {t : TypeId} {z : Nat × Nat} (h : w.heap[b]? = some (.cells c t z)) (i : Nat) (v : Value) :
    Turned b (.cells (c.setIfInBounds i v) t z) w (w.setCell ⟨b, i, none⟩ v) := ⟨setCell_blk h i v, rfl, rfl, rfl⟩

theorem Turned.trans {b : Nat} {o o' : Obj} {w w1 w2 : World} (h : Turned b o w w1) (k : Turned b o' w1 w2) : Turned b o' w w2 := by
  refine ⟨?_, k.os.trans h.os, k.tape.trans h.tape, k.output.trans h.output⟩
  rw [k.heap, h.heap]
  apply Array.ext_getElem?
  intro j
  simp only [Array.getElem?_setIfInBounds, Array.size_setIfInBounds]
  by_cases hj : b = j <;> simp [hj]

theorem Turned.size {b : Nat} {o : Obj} {w w' : World} (h : Turned b o w w') : w'.heap.size = w.heap.size := by rw [h.heap]; simp

theorem Turned.get {b : Nat} {o : Obj} {w w' : World} (h : Turned b o w w') (hb : b < w.heap.size) : w'.heap[b]? = some o := by
  rw [h.heap, Array.getElem?_setIfInBounds]; simp [hb]

theorem Turned.other {b : Nat} {o : Obj} {w w' : World} (h : Turned b o w w') {k : Nat} (hk : k ≠ b) : w'.heap[k]? = w.heap[k]? := by
  rw [h.heap, Array.getElem?_setIfInBounds, if_neg (fun e => hk e.symm)]

theorem Turned.drewN {b : Nat} {o : Obj} {w w' : World} (h : Turned b o w w') (n : Nat) : Turned b o w (w'.drewN n) := ⟨h.heap, h.os, h.tape, h.output⟩
theorem Turned.drew {b : Nat} {o : Obj} {w w' : World} (h : Turned b o w w') : Turned b o w w'.drew := ⟨h.heap, h.os, h.tape, h.output⟩
theorem Turned.of_drewN {b : Nat} {o : Obj} {w w' : World} {n : Nat} (h : Turned b o (w.drewN n) w') : Turned b o w w' := ⟨h.heap, h.os, h.tape, h.output⟩

theorem Turned.below {b : Nat} {o : Obj} {w w' : World} (h : Turned b o w w') {B : Nat} (hB : B ≤ b) : Below B w w' :=
  ⟨h.os, h.tape, h.output, by rw [h.size]; exact Nat.le_refl _, fun k hk => h.other (by omega)⟩

theorem lt_of_blk {w : World} {b : Nat} {o : Obj} (h : w.heap[b]? = some o) : b < w.heap.size := by
  rcases Nat.lt_or_ge b w.heap.size with h1 | h1
  · exact h1
  · rw [Array.getElem?_eq_none h1] at h; cases h

end Go.Proofs.YtfolamkjlgpgmaaDoor
