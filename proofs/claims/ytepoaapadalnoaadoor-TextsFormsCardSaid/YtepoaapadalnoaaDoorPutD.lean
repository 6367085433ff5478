/- The text of groups. No condition but that each is one of 16 bits. -/
import Derived.Test.YtepoaapadalnoaaDoorPutC
import Derived.Deep.OwnRows
import Derived.OwnWalk
namespace Go.Proofs.YtepoaapadalnoaaDoor
open Go.RowKit
set_option linter.unusedVariables false
set_option linter.unusedSimpArgs false
set_option maxRecDepth 100000 in
set_option maxHeartbeats 1000000 in
theorem fmt25 (n : Nat) (w : World) (hn : n < 65536) (L : Lay07 w) : Calls Tryd.prog 25 #[.int .u64 (n : Int), .int .i64 16] w fun e w' => e = .returned (.string ⟨(hexS n).toArray⟩) ∧ Below w.heap.size w w' := by
  have HL := Lib.hid L
  clear L
  go_enter Tryd.func25, Tryd.ntmps25
  go_wp2_with (first
    | (go_at_call 47; refine (bits47 n _ hn HL.out).mono ?_; rintro e w' ⟨rfl, b⟩; have HB := Lib.hid b; clear b)
    | go_in)
  go_ret
  exact ⟨rfl, HB.out⟩
/-- numbers that stand in a row -/
def Row16 (w : World) (b off n : Nat) (g : Nat → Nat) : Prop := b < w.heap.size ∧ ∀ j, j < n → w.cell? ⟨b, off + j, none⟩ = some (.int .u16 (g j : Int)) ∧ g j < 65536
theorem Row16.step {w w' : World} {b off n : Nat} {g : Nat → Nat} (h : Row16 w b off n g) (hb : Below w.heap.size w w') : Row16 w' b off n g :=
  ⟨Nat.lt_of_lt_of_le h.1 hb.size, fun j hj => ⟨(hb.cell (p := ⟨b, off + j, none⟩) h.1).trans (h.2 j hj).1, (h.2 j hj).2⟩⟩
def textsB (g : Nat → Nat) (n : Nat) : List ByteArray := (List.range n).map fun j => ⟨(hexS (g j)).toArray⟩
theorem textsB_length (g : Nat → Nat) (n : Nat) : (textsB g n).length = n := by simp [textsB]
theorem textsB_succ (g : Nat → Nat) (n : Nat) : textsB g (n + 1) = textsB g n ++ [⟨(hexS (g n)).toArray⟩] := by simp [textsB, List.range_succ]
theorem textsB_data (g : Nat → Nat) (n : Nat) : (textsB g n).map (·.data.toList) = (List.range n).map fun j => hexS (g j) := by simp [textsB, List.map_map, Function.comp_def]
theorem join_le (xs : List (List UInt8)) (sep : List UInt8) (h : ∀ x ∈ xs, x.length ≤ 4) (hs : sep.length ≤ 1) : (Lib.join xs sep).length ≤ 5 * xs.length := by
  cases xs with
  | nil => simp [Lib.join, List.intercalate]
  | cons x r =>
    rw [Lib.join_cons, List.length_append]
    have h1 := h x (List.mem_cons_self ..)
    have h2 : ∀ r : List (List UInt8), (∀ x ∈ r, x.length ≤ 4) → (Lib.joinTail sep r).length ≤ 5 * r.length := by
      intro r
      induction r with
      | nil => intro _; simp [Lib.joinTail]
      | cons y r ih =>
        intro hr
        have h3 := hr y (List.mem_cons_self ..)
        have h4 := ih (fun x hx => hr x (List.mem_cons_of_mem _ hx))
        simp only [Lib.joinTail, List.map_cons, List.flatten_cons, List.length_append, List.length_cons] at h4 ⊢
        omega
    have h5 := h2 r (fun x hx => h x (List.mem_cons_of_mem _ hx))
    rw [List.length_cons]; omega
theorem info9 : (Tryd.prog.info? 9).map (fun i => (i.zero, i.size, i.bytes)) = some (some (.string ByteArray.empty), 1, 16) := by kernel_rfl
structure WInv (b off n S k : Nat) (g : Nat → Nat) (w wr : World) : Prop where
  lay : Lay07 wr
  row : Row16 wr b off n g
  h : wr.heap[S]? = some (.cells (Lib.cellsOf (textsB g k) n) 9 (0, 0))
  below : Below w.heap.size w wr
theorem WInv.step {b off n S k : Nat} {g : Nat → Nat} {w wr w2 : World} (I : WInv b off n S k g w wr) (hb : Below wr.heap.size wr w2) : WInv b off n S k g w w2 :=
  ⟨I.lay.step hb, I.row.step hb, (hb.block _ (lt_of_blk I.h)).trans I.h, I.below.trans (hb.mono I.below.size)⟩
theorem WInv.set {b off n S k : Nat} {g : Nat → Nat} {w wr : World} (I : WInv b off n S k g w wr) (hS : S = w.heap.size) (hk : k < n) (hb : b < w.heap.size) (h3 : 3 < w.heap.size) : WInv b off n S (k + 1) g w (wr.setCell ⟨S, k, none⟩ (.string ⟨(hexS (g k)).toArray⟩)) := by
  have t := Turned.setCell I.h k (.string ⟨(hexS (g k)).toArray⟩)
  have e := Lib.cellsOf_set (done := textsB g k) (N := n) (by rw [textsB_length]; exact hk) ⟨(hexS (g k)).toArray⟩
  rw [textsB_length] at e
  rw [e, ← textsB_succ] at t
  have hS1 : w.heap.size ≤ S := by omega
  have B := I.below.trans (t.below hS1)
  have o : ∀ (c i : Nat), c < w.heap.size → (wr.setCell ⟨S, k, none⟩ (.string ⟨(hexS (g k)).toArray⟩)).cell? ⟨c, i, none⟩ = wr.cell? ⟨c, i, none⟩ := fun c i hc => by
    simp only [World.cell?, t.other (k := c) (by omega)]
  refine ⟨⟨?_, (o 3 15 h3).trans I.lay.deb, Nat.lt_of_lt_of_le h3 B.size⟩, ⟨Nat.lt_of_lt_of_le hb B.size, fun j hj => ⟨(o b _ hb).trans (I.row.2 j hj).1, (I.row.2 j hj).2⟩⟩, t.get (lt_of_blk I.h), B⟩
  obtain ⟨m, hm⟩ := I.lay.maxlen
  exact ⟨m, (o 0 0 (by omega)).trans hm⟩
set_option maxRecDepth 100000 in
set_option maxHeartbeats 1000000 in
theorem written19 (b off n cap : Nat) (g : Nat → Nat) (w : World) (L : Lay07 w) (h : Row16 w b off n g) (hn : n ≤ 8) : Calls Tryd.prog 19 #[.slice (some ⟨b, off, none⟩) n cap] w fun e w' => e = .returned (.string ⟨(Lib.join ((List.range n).map fun j => hexS (g j)) [58]).toArray⟩) ∧ Below w.heap.size w w' := by
  obtain ⟨i9, hi9, hz9, hs9, hb9⟩ := info_parts info9
  have hby : i9.bytes * n ≤ 281474976710656 := by rw [hb9]; omega
  have hb := h.1
  have h3 := L.lt
  have B0 : Below w.heap.size w (w.alloc (.cells (Lib.cellsOf [] n) 9)) := (Below.refl _ _).alloc (Nat.le_refl _) _
  have I := Lib.hid (show WInv b off n w.heap.size 0 g w (w.alloc (.cells (Lib.cellsOf [] n) 9)) from ⟨L.step B0, h.step B0, heap_alloc_new _ _, B0⟩)
  rw [Lib.cellsOf_nil] at I
  clear L h B0
  go_enter Tryd.func19, Tryd.ntmps19
  go_wp2_with (refine wpList_make_row _ rfl _ _ 56 rfl 9 i9 _ Tryd.underlying56 hi9 hz9 hs9 rfl .i64 .i64 n rfl rfl hby (by omega) ?_)
  obtain ⟨S, hS⟩ : ∃ S, S = w.heap.size := ⟨_, rfl⟩
  rw [← hS] at I ⊢
  have NS := Lib.hid hS
  clear hS
  go_loopw [11] (fun i wr => ∃ k : Nat, k ≤ n ∧ i = .int .i64 k ∧ WInv b off n S k g w wr) (fun i _ => n - (intOf i).toNat)
  case atStart => exact ⟨0, by omega, rfl, I.out⟩
  case round =>
    clear I
    obtain ⟨k, hk, rfl, I⟩ := hrel
    by_cases hlt : k < n
    · obtain ⟨c1, hg⟩ := I.row.2 k hlt
      have HI := Lib.hid I
      have ew : IntKind.u64.wrap (g k : Int) = (g k : Int) := u64_small (by omega)
      have o1 : ¬ ((n : Int) ≤ k) := by omega
      have o2 : (k : Int) < n := by omega
      clear I
      go_wp2_with fail
      refine (fmt25 (g k) _ hg HI.out.lay).mono ?_
      rintro e w2 ⟨rfl, b2⟩
      have HI2 := Lib.hid (HI.out.step b2)
      have cn := Lib.cellsOf_next (done := textsB g k) (N := n) (by rw [textsB_length]; exact hlt)
      rw [textsB_length] at cn
      have c2 := (cell_blk HI2.out.h k).trans cn
      have f2 : w2.frozen? ⟨S, k, none⟩ = false := frozen_blk HI2.out.h k
      clear HI b2 c1 cn
      go_wp2_with fail
      have I3 := Lib.hid (HI2.out.set NS.out hlt hb h3)
      clear HI2
      go_roundw
      case rel => exact ⟨k + 1, by omega, by go_num, I3.out⟩
      case measure => simp [intOf]; omega
    · obtain rfl : k = n := by omega
      have HI := Lib.hid I
      clear I
      go_wp2_with fail
      have hj := Tryd.strings_Join S 0 k (textsB g k) ⟨#[58]⟩ wr (fun j x hx => by
          rw [cell_blk HI.out.h (0 + j), Lib.cellsOf, List.getElem?_toArray, Nat.zero_add, List.getElem?_append_left (by rw [List.length_map]; exact (List.getElem?_eq_some_iff.1 hx).1), List.getElem?_map, hx]; rfl)
        (lt_of_blk HI.out.h) (by rw [textsB_length]; omega) (by rw [textsB_length]; omega) (by
          rw [textsB_data]
          have := join_le ((List.range k).map fun j => hexS (g j)) [58] (fun x hx => by
            obtain ⟨j, _, rfl⟩ := List.mem_map.1 hx
            exact hexS_le _) (Nat.le_refl _)
          rw [List.length_map, List.length_range] at this
          exact Nat.le_trans this (by omega))
      rw [textsB_length, textsB_data] at hj
      refine hj.mono ?_
      rintro e w2 ⟨rfl, b2⟩
      have B2 := Lib.hid (HI.out.step b2).below
      clear HI b2 hj
      go_wp2_with fail
      go_ret
      exact ⟨rfl, B2.out⟩
end Go.Proofs.YtepoaapadalnoaaDoor
