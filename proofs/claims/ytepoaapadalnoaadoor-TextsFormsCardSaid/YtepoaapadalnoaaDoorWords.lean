/- Rows of numbers, addresses; what the walks take for granted of the package's variables. No condition. -/
import Derived.Test.YtepoaapadalnoaaDoorProg
import Derived.Test.YtepoaapadalnoaaDoorBase
import Derived.Test.YtepoaapadalnoaaDoorReads
import Derived.Test.YtepoaapadalnoaaDoorPlain
import Derived.Test.YtepoaapadalnoaaDoorShelf
import Derived.WalkKit
import Derived.WalkSpells
import Derived.WalkLawsBesides
import Derived.Deep.QuietTactic
import Derived.BigQuiet
import Derived.RegionTactic
import Derived.Deep.RegionWith
import Derived.Deep.RegionHeld3
import Derived.Outline
import Derived.Lib.Hide
namespace Go.Proofs.YtepoaapadalnoaaDoor
open Go.RowKit
set_option linter.unusedVariables false

theorem Turned.setRow {w : World} {b : Nat} {c : Array Value} {t : TypeId} {z : Nat × Nat} (h : w.heap[b]? = some (.cells c t z)) (cs : Array Value) : Turned b (.cells cs t z) w (w.setRow b cs) := by
  refine ⟨?_, rfl, rfl, rfl⟩
  have hb := lt_of_blk h
  apply Array.ext_getElem?
  intro k
  simp only [World.setRow, Array.getElem?_modify, Array.getElem?_setIfInBounds]
  by_cases hk : b = k
  · subst hk; rw [if_pos rfl, if_pos rfl, h]; simp [hb]
  · simp [hk]
def rowL (k : IntKind) (n : Nat) (f : Nat → Nat) : List Value := (List.range n).map fun i => .int k (f i : Int)
theorem rowL_length (k : IntKind) (n : Nat) (f : Nat → Nat) : (rowL k n f).length = n := by simp [rowL]
theorem rowL_one (k : IntKind) (n : Nat) (f : Nat → Nat) : ∀ v ∈ rowL k n f, v.oneCell' = true := by
  intro v hv
  simp only [rowL, List.mem_map] at hv
  obtain ⟨i, _, rfl⟩ := hv
  rfl
theorem rowL_get (k : IntKind) {n : Nat} (f : Nat → Nat) {i : Nat} (h : i < n) : (rowL k n f)[i]? = some (.int k (f i : Int)) := by
  simp [rowL, h]
theorem rowL_congr (k : IntKind) {n : Nat} {f g : Nat → Nat} (h : ∀ i, i < n → f i = g i) : rowL k n f = rowL k n g := by
  unfold rowL
  apply List.map_congr_left
  intro i hi
  rw [h i (List.mem_range.1 hi)]
theorem rowL_set (k : IntKind) (n : Nat) (f : Nat → Nat) (i v : Nat) : (rowL k n f).set i (.int k (v : Int)) = rowL k n fun j => if j = i then v else f j := by
  apply List.ext_getElem?
  intro j
  rw [List.getElem?_set, rowL_length]
  by_cases hj : j < n
  · rw [rowL_get _ _ hj, rowL_get _ _ hj]
    by_cases e : i = j
    · subst e; simp [hj]
    · simp [e, show ¬ j = i from fun x => e x.symm]
  · rw [List.getElem?_eq_none (by rw [rowL_length]; omega), List.getElem?_eq_none (by rw [rowL_length]; omega)]
    by_cases e : i = j <;> simp [e]; omega
def adrL (a : Nat → Nat) : List Value := rowL .u8 16 a
def adrCells (a : Nat → Nat) : Array Value := (adrL a).toArray
theorem adrL_length (a : Nat → Nat) : (adrL a).length = 16 := rowL_length _ _ _
theorem adrCells_get (a : Nat → Nat) {i : Nat} (h : i < 16) : (adrCells a)[i]? = some (.int .u8 (a i : Int)) := by
  simp only [adrCells, adrL, List.getElem?_toArray]; exact rowL_get _ _ h
def grpL (g : Nat → Nat) : List Value := rowL .u16 8 g
def grpCells (g : Nat → Nat) : Array Value := (grpL g).toArray
theorem grpL_length (g : Nat → Nat) : (grpL g).length = 8 := rowL_length _ _ _
theorem grpCells_get (g : Nat → Nat) {i : Nat} (h : i < 8) : (grpCells g)[i]? = some (.int .u16 (g i : Int)) := by
  simp only [grpCells, grpL, List.getElem?_toArray]; exact rowL_get _ _ h
theorem grpCells_set (g : Nat → Nat) (i v : Nat) : (grpCells g).setIfInBounds i (.int .u16 (v : Int)) = grpCells fun j => if j = i then v else g j := by
  simp only [grpCells, grpL, List.setIfInBounds_toArray, rowL_set]
theorem range_row {w : World} {b : Nat} {t : TypeId} {z : Nat × Nat} {cs : List Value} (h : w.heap[b]? = some (.cells cs.toArray t z)) : w.rangeAt b 0 cs := by
  intro j v hj
  rw [Nat.zero_add, cell_blk h]
  simpa using hj
theorem info23 (a : Nat → Nat) : (Tryd.prog.info? 23).map (·.size) = some (adrL a).length := by rw [adrL_length]; kernel_rfl
theorem info41 (g : Nat → Nat) : (Tryd.prog.info? 41).map (·.size) = some (grpL g).length := by rw [grpL_length]; kernel_rfl

theorem cells_one (k : IntKind) (n : Nat) (f : Nat → Nat) : ((rowL k n f).toArray).all (·.oneCell') = true := all_oneCell_toArray (rowL_one k n f)
theorem grpCells_size (g : Nat → Nat) : (grpCells g).size = 8 := by simp [grpCells, grpL_length]
/-- what the walks take for granted of the package's variables -/
structure Lay07 (w : World) : Prop where
  maxlen : ∃ m, w.cell? ⟨0, 0, none⟩ = some (.int .i64 m)
  deb : w.cell? ⟨3, 15, none⟩ = some (.int .u8 4)
  lt : 3 < w.heap.size
theorem Lay07.step {w w' : World} (h : Lay07 w) (hb : Below w.heap.size w w') : Lay07 w' :=
  ⟨by obtain ⟨m, hm⟩ := h.maxlen; exact ⟨m, (hb.cell (p := ⟨0, 0, none⟩) (by have := h.lt; show 0 < _; omega)).trans hm⟩,
   (hb.cell (p := ⟨3, 15, none⟩) h.lt).trans h.deb, Nat.lt_of_lt_of_le h.lt hb.size⟩
theorem u64_small {m : Nat} (h : m < 18446744073709551616) : IntKind.u64.wrap (m : Int) = (m : Int) := by
  simp [IntKind.wrap, IntKind.signed, IntKind.bits]; omega
theorem u16_small {m : Nat} (h : m < 65536) : IntKind.u16.wrap (m : Int) = (m : Int) := by
  simp [IntKind.wrap, IntKind.signed, IntKind.bits]; omega
end Go.Proofs.YtepoaapadalnoaaDoor
