/- A twin of addresses, and is it as it was made: the walks. No condition but that the addresses are few. (Printed by gTwinA.py.) -/
import Derived.Test.YtfolamkjlgpgmaaGreatDoorTwins8
import Derived.Test.YtfolamkjlgpgmaaGreatDoorServ
namespace Go.Proofs.YtfolamkjlgpgmaaGreatDoor
open Go.RowKit
set_option linter.unusedVariables false
set_option linter.unusedSimpArgs false
def strangeA : Nat → Nat := fun j => [1, 2, 3, 0, 0, 0, 0, 0, 0, 0, 0, 0, 0, 0, 0, 201].getD j 0
def oddV : Value := .agg #[.int .u8 1, .int .u8 2, .int .u8 3, .int .u8 0, .int .u8 0, .int .u8 0, .int .u8 0, .int .u8 0, .int .u8 0, .int .u8 0, .int .u8 0, .int .u8 0, .int .u8 0, .int .u8 0, .int .u8 0, .int .u8 201]
def zeroA : Nat → Nat := fun _ => 0
def twinA (L : List (Nat → Nat)) : List (Nat → Nat) := L ++ List.replicate 4 strangeA
def rowA (L : List (Nat → Nat)) : Array Value := (row8 (adrsB L)).toArray
theorem rowA_split (P Q : List (Nat → Nat)) : row8 (adrsB (P ++ Q)) = row8 (adrsB P) ++ row8 (adrsB Q) := by
  unfold adrsB; rw [List.flatMap_append, row8_append]
theorem rowA_length (L : List (Nat → Nat)) : (row8 (adrsB L)).length = L.length * 16 := by rw [row8_length, adrsB_length]
theorem adrsB_cons (y : Nat → Nat) (Q : List (Nat → Nat)) : row8 (adrsB (y :: Q)) = row8 (adr16 y) ++ row8 (adrsB Q) := by
  unfold adrsB; rw [List.flatMap_cons, row8_append]
theorem adr16_get (y : Nat → Nat) {j : Nat} (hj : j < 16) : (row8 (adr16 y))[j]? = some (.int .u8 (y j : Int)) := by
  match j, hj with
  | 0, _ => rfl
  | 1, _ => rfl
  | 2, _ => rfl
  | 3, _ => rfl
  | 4, _ => rfl
  | 5, _ => rfl
  | 6, _ => rfl
  | 7, _ => rfl
  | 8, _ => rfl
  | 9, _ => rfl
  | 10, _ => rfl
  | 11, _ => rfl
  | 12, _ => rfl
  | 13, _ => rfl
  | 14, _ => rfl
  | 15, _ => rfl
  | j + 16, h => exact absurd h (by omega)
theorem rowA_get {L : List (Nat → Nat)} {i j : Nat} {y : Nat → Nat} (h : L[i]? = some y) (hj : j < 16) : (rowA L)[i * 16 + j]? = some (.int .u8 (y j : Int)) := by
  unfold rowA
  rw [List.getElem?_toArray]
  have hi := (List.getElem?_eq_some_iff.1 h).1
  have hs : L = L.take i ++ y :: L.drop (i + 1) := by
    have h2 := (List.getElem?_eq_some_iff.1 h).2
    rw [← h2, ← List.drop_eq_getElem_cons, List.take_append_drop]
  have hl : (L.take i).length = i := by rw [List.length_take]; omega
  rw [hs, rowA_split, List.getElem?_append_right (by rw [rowA_length, hl]; omega), rowA_length, hl, adrsB_cons, List.getElem?_append_left (by rw [row8_length]; show _ < 16; omega), show i * 16 + j - i * 16 = j by omega]
  exact adr16_get y hj
/-- sixteen cells from p on turned -/
def put16 (W : World) (g p : Nat) (y : Nat → Nat) : World := ((((((((((((((((W.setCell ⟨g, p, none⟩ (.int .u8 (y 0 : Int))).setCell ⟨g, p + 1, none⟩ (.int .u8 (y 1 : Int))).setCell ⟨g, p + 2, none⟩ (.int .u8 (y 2 : Int))).setCell ⟨g, p + 3, none⟩ (.int .u8 (y 3 : Int))).setCell ⟨g, p + 4, none⟩ (.int .u8 (y 4 : Int))).setCell ⟨g, p + 5, none⟩ (.int .u8 (y 5 : Int))).setCell ⟨g, p + 6, none⟩ (.int .u8 (y 6 : Int))).setCell ⟨g, p + 7, none⟩ (.int .u8 (y 7 : Int))).setCell ⟨g, p + 8, none⟩ (.int .u8 (y 8 : Int))).setCell ⟨g, p + 9, none⟩ (.int .u8 (y 9 : Int))).setCell ⟨g, p + 10, none⟩ (.int .u8 (y 10 : Int))).setCell ⟨g, p + 11, none⟩ (.int .u8 (y 11 : Int))).setCell ⟨g, p + 12, none⟩ (.int .u8 (y 12 : Int))).setCell ⟨g, p + 13, none⟩ (.int .u8 (y 13 : Int))).setCell ⟨g, p + 14, none⟩ (.int .u8 (y 14 : Int))).setCell ⟨g, p + 15, none⟩ (.int .u8 (y 15 : Int)))
def set16 (c : Array Value) (p : Nat) (y : Nat → Nat) : Array Value := ((((((((((((((((c.setIfInBounds (p) (.int .u8 (y 0 : Int))).setIfInBounds (p + 1) (.int .u8 (y 1 : Int))).setIfInBounds (p + 2) (.int .u8 (y 2 : Int))).setIfInBounds (p + 3) (.int .u8 (y 3 : Int))).setIfInBounds (p + 4) (.int .u8 (y 4 : Int))).setIfInBounds (p + 5) (.int .u8 (y 5 : Int))).setIfInBounds (p + 6) (.int .u8 (y 6 : Int))).setIfInBounds (p + 7) (.int .u8 (y 7 : Int))).setIfInBounds (p + 8) (.int .u8 (y 8 : Int))).setIfInBounds (p + 9) (.int .u8 (y 9 : Int))).setIfInBounds (p + 10) (.int .u8 (y 10 : Int))).setIfInBounds (p + 11) (.int .u8 (y 11 : Int))).setIfInBounds (p + 12) (.int .u8 (y 12 : Int))).setIfInBounds (p + 13) (.int .u8 (y 13 : Int))).setIfInBounds (p + 14) (.int .u8 (y 14 : Int))).setIfInBounds (p + 15) (.int .u8 (y 15 : Int)))
theorem turned_put16 {W : World} {g : Nat} {c : Array Value} {t : TypeId} {z : Nat × Nat} (h : W.heap[g]? = some (.cells c t z)) (p : Nat) (y : Nat → Nat) : Turned g (.cells (set16 c p y) t z) W (put16 W g p y) := by
  have hg := lt_of_blk h
  have t0 := Turned.refl h
  have t1 := t0.trans (Turned.setCell (t0.get hg) p (.int .u8 (y 0 : Int)))
  have t2 := t1.trans (Turned.setCell (t1.get hg) (p + 1) (.int .u8 (y 1 : Int)))
  have t3 := t2.trans (Turned.setCell (t2.get hg) (p + 2) (.int .u8 (y 2 : Int)))
  have t4 := t3.trans (Turned.setCell (t3.get hg) (p + 3) (.int .u8 (y 3 : Int)))
  have t5 := t4.trans (Turned.setCell (t4.get hg) (p + 4) (.int .u8 (y 4 : Int)))
  have t6 := t5.trans (Turned.setCell (t5.get hg) (p + 5) (.int .u8 (y 5 : Int)))
  have t7 := t6.trans (Turned.setCell (t6.get hg) (p + 6) (.int .u8 (y 6 : Int)))
  have t8 := t7.trans (Turned.setCell (t7.get hg) (p + 7) (.int .u8 (y 7 : Int)))
  have t9 := t8.trans (Turned.setCell (t8.get hg) (p + 8) (.int .u8 (y 8 : Int)))
  have t10 := t9.trans (Turned.setCell (t9.get hg) (p + 9) (.int .u8 (y 9 : Int)))
  have t11 := t10.trans (Turned.setCell (t10.get hg) (p + 10) (.int .u8 (y 10 : Int)))
  have t12 := t11.trans (Turned.setCell (t11.get hg) (p + 11) (.int .u8 (y 11 : Int)))
  have t13 := t12.trans (Turned.setCell (t12.get hg) (p + 12) (.int .u8 (y 12 : Int)))
  have t14 := t13.trans (Turned.setCell (t13.get hg) (p + 13) (.int .u8 (y 13 : Int)))
  have t15 := t14.trans (Turned.setCell (t14.get hg) (p + 14) (.int .u8 (y 14 : Int)))
  have t16 := t15.trans (Turned.setCell (t15.get hg) (p + 15) (.int .u8 (y 15 : Int)))
  unfold put16 set16
  exact t16
theorem set_app {l m : List Value} {n : Nat} (h : l.length = n) (j : Nat) (v : Value) : (l ++ m).set (n + j) v = l ++ m.set j v := by
  rw [List.set_append_right _ _ (by omega), h, Nat.add_sub_cancel_left]
theorem set16_row {P Q : List (Nat → Nat)} (z x : Nat → Nat) : set16 (rowA (P ++ z :: Q)) (P.length * 16) x = rowA (P ++ x :: Q) := by
  have hl := rowA_length P
  unfold set16 rowA
  rw [rowA_split, rowA_split, adrsB_cons, adrsB_cons]
  obtain ⟨l, el⟩ : ∃ l, row8 (adrsB P) = l := ⟨_, rfl⟩
  obtain ⟨r, er⟩ : ∃ r, row8 (adrsB Q) = r := ⟨_, rfl⟩
  obtain ⟨n, en⟩ : ∃ n, P.length * 16 = n := ⟨_, rfl⟩
  rw [el, er, en]
  rw [el, en] at hl
  have h0 := fun (m : List Value) (v : Value) => (set_app (m := m) hl 0 v)
  simp only [Nat.add_zero] at h0
  simp only [List.setIfInBounds_toArray, h0, set_app hl]
  simp [row8, adr16]
structure TwAI (w W : World) (g : Nat) (L P Q : List (Nat → Nat)) : Prop where
  row : W.heap[g]? = some (.cells (rowA (P ++ Q)) 32 (0, 0))
  below : Below g w W
theorem TwAI.put {w W : World} {g : Nat} {L P Q : List (Nat → Nat)} {z : Nat → Nat} (h : TwAI w W g L P (z :: Q)) (x : Nat → Nat) : TwAI w (put16 W g (P.length * 16) x) g L P (x :: Q) := by
  have t := turned_put16 h.row (P.length * 16) x
  rw [set16_row] at t
  exact ⟨t.get (lt_of_blk h.row), h.below.trans (t.below (Nat.le_refl _))⟩
theorem TwAI.push {w W : World} {g : Nat} {L P Q : List (Nat → Nat)} {x : Nat → Nat} (h : TwAI w W g L P (x :: Q)) : TwAI w W g L (P ++ [x]) Q := ⟨by rw [List.append_assoc]; exact h.row, h.below⟩
theorem info51 : (Tryz.prog.info? 32).map (fun i => (i.zero, i.size, i.bytes)) = some (some (.agg #[.int .u8 0, .int .u8 0, .int .u8 0, .int .u8 0, .int .u8 0, .int .u8 0, .int .u8 0, .int .u8 0, .int .u8 0, .int .u8 0, .int .u8 0, .int .u8 0, .int .u8 0, .int .u8 0, .int .u8 0, .int .u8 0]), 16, 16) := by kernel_rfl
theorem make_adrs (z : Nat) (W : World) (hz : z ≤ 2000000) : (Instr.makeSlice 42 (.int .i64 (z : Int)) (.int .i64 (z : Int))).run Tryz.prog W = .ok (.slice (some ⟨W.heap.size, 0, none⟩) z z) (W.alloc (.cells (rowA (List.replicate z zeroA)) 32)) := by
  obtain ⟨i51, hi, hz0, hz1, hz2⟩ := info_parts info51
  have h := run_make (P := Tryz.prog) W 42 32 i51 (.agg #[.int .u8 0, .int .u8 0, .int .u8 0, .int .u8 0, .int .u8 0, .int .u8 0, .int .u8 0, .int .u8 0, .int .u8 0, .int .u8 0, .int .u8 0, .int .u8 0, .int .u8 0, .int .u8 0, .int .u8 0, .int .u8 0]) Tryz.underlying42 hi hz0 .i64 .i64 (z : Int) (z : Int) (by omega) (by omega) (by rw [hz2]; omega) (by omega)
  rw [h, hz1]
  have e : madeCells (Value.agg #[.int .u8 0, .int .u8 0, .int .u8 0, .int .u8 0, .int .u8 0, .int .u8 0, .int .u8 0, .int .u8 0, .int .u8 0, .int .u8 0, .int .u8 0, .int .u8 0, .int .u8 0, .int .u8 0, .int .u8 0, .int .u8 0]).cells (((z : Int)).toNat * 16) = rowA (List.replicate z zeroA) := by
    apply Array.ext_getElem?
    intro i
    rw [Int.toNat_natCast]
    by_cases hi : i < z * 16
    · have hj : (List.replicate z zeroA)[i / 16]? = some zeroA := by rw [List.getElem?_replicate, if_pos (by omega)]
      have hm : i % 16 < 16 := Nat.mod_lt _ (by decide)
      have r := rowA_get hj hm
      rw [show i / 16 * 16 + i % 16 = i by omega] at r
      rw [r]
      obtain ⟨m, hm2⟩ : ∃ m, i % 16 = m := ⟨_, rfl⟩
      rw [hm2] at hm
      have q : #[Value.int .u8 0, Value.int .u8 0, Value.int .u8 0, Value.int .u8 0, Value.int .u8 0, Value.int .u8 0, Value.int .u8 0, Value.int .u8 0, Value.int .u8 0, Value.int .u8 0, Value.int .u8 0, Value.int .u8 0, Value.int .u8 0, Value.int .u8 0, Value.int .u8 0, Value.int .u8 0][m]? = some (.int .u8 ((zeroA m : Nat) : Int)) := by
        match m, hm with
        | 0, _ => rfl
        | 1, _ => rfl
        | 2, _ => rfl
        | 3, _ => rfl
        | 4, _ => rfl
        | 5, _ => rfl
        | 6, _ => rfl
        | 7, _ => rfl
        | 8, _ => rfl
        | 9, _ => rfl
        | 10, _ => rfl
        | 11, _ => rfl
        | 12, _ => rfl
        | 13, _ => rfl
        | 14, _ => rfl
        | 15, _ => rfl
        | m + 16, h => exact absurd h (by omega)
      show ((Array.range (z * 16)).map (fun x => (#[Value.int .u8 0, Value.int .u8 0, Value.int .u8 0, Value.int .u8 0, Value.int .u8 0, Value.int .u8 0, Value.int .u8 0, Value.int .u8 0, Value.int .u8 0, Value.int .u8 0, Value.int .u8 0, Value.int .u8 0, Value.int .u8 0, Value.int .u8 0, Value.int .u8 0, Value.int .u8 0] : Array Value)[x % 16]!))[i]? = _
      rw [Array.getElem?_map, Array.getElem?_range, if_pos hi]
      show some ((#[Value.int .u8 0, Value.int .u8 0, Value.int .u8 0, Value.int .u8 0, Value.int .u8 0, Value.int .u8 0, Value.int .u8 0, Value.int .u8 0, Value.int .u8 0, Value.int .u8 0, Value.int .u8 0, Value.int .u8 0, Value.int .u8 0, Value.int .u8 0, Value.int .u8 0, Value.int .u8 0] : Array Value)[i % 16]!) = _
      rw [hm2, getElem!_def, q]
    · rw [Array.getElem?_eq_none (by simp [madeCells]; omega)]
      unfold rowA
      rw [List.getElem?_toArray, List.getElem?_eq_none (by rw [rowA_length]; simp; omega)]
  rw [e]
  simp
end Go.Proofs.YtfolamkjlgpgmaaGreatDoor
