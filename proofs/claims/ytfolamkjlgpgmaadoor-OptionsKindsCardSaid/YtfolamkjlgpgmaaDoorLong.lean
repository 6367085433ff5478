/- Are the parts too long: the walk. No condition but that each is no longer than a machine holds. (Printed by gLong.py.) -/
import Derived.Test.YtfolamkjlgpgmaaDoorServ
namespace Go.Proofs.YtfolamkjlgpgmaaDoor
open Go.RowKit
set_option linter.unusedVariables false
set_option linter.unusedSimpArgs false
/-- how long the names are -/
def lenD (L : List ByteArray) : Nat := (L.map (fun s => 1 + s.size)).sum
theorem lenD_succ {L : List ByteArray} {k : Nat} {s : ByteArray} (h : L[k]? = some s) : lenD (L.take (k + 1)) = lenD (L.take k) + 1 + s.size := by
  unfold lenD
  rw [List.take_add_one, h]
  simp
  omega
theorem lenD_one {L : List ByteArray} {s : ByteArray} (h : s ∈ L) : s.size ≤ lenD L := by
  unfold lenD
  induction L with
  | nil => cases h
  | cons y L ih =>
    rw [List.map_cons, List.sum_cons]
    rcases List.mem_cons.1 h with rfl | h
    · omega
    · have := ih h; omega
theorem lenD_many (L : List ByteArray) : L.length ≤ lenD L := by
  unfold lenD
  induction L with
  | nil => exact Nat.zero_le _
  | cons y L ih => rw [List.map_cons, List.sum_cons, List.length_cons]; omega
def LongPost (t : Nat) (w : World) (e : Ending) (w' : World) : Prop := ∃ b, e = .returned (.bool b) ∧ Below w.heap.size w w' ∧ (b = false → t ≤ 4000)
set_option maxRecDepth 100000 in
set_option maxHeartbeats 2000000 in
theorem long26 {kd bits v p n bC sC dC nb ns nd : Nat} {m x q : Nat → Nat} {on auto : Bool} {bA sA dA : Option Addr} {D : List ByteArray} (w : World) (hb : nb ≤ 140737488355328) (hs : ns ≤ 140737488355328) (hD : D.length = nd) (hn : nd ≤ 140737488355328)
    (hat : D ≠ [] → ∃ b o, dA = some ⟨b, o, none⟩ ∧ b < w.heap.size ∧ ∀ i s, D[i]? = some s → w.cell? ⟨b, o + i, none⟩ = some (.string s)) (hsz : ∀ s ∈ D, s.size ≤ 140737488355328) :
    Calls Tryd.prog 26 #[.agg #[.int .u8 (kd : Int), .int .u8 (m 0 : Int), .int .u8 (m 1 : Int), .int .u8 (m 2 : Int), .int .u8 (m 3 : Int), .int .u8 (m 4 : Int), .int .u8 (m 5 : Int), .int .u8 (x 0 : Int), .int .u8 (x 1 : Int), .int .u8 (x 2 : Int), .int .u8 (x 3 : Int), .int .u8 (x 4 : Int), .int .u8 (x 5 : Int), .int .u8 (x 6 : Int), .int .u8 (x 7 : Int), .int .u8 (x 8 : Int), .int .u8 (x 9 : Int), .int .u8 (x 10 : Int), .int .u8 (x 11 : Int), .int .u8 (x 12 : Int), .int .u8 (x 13 : Int), .int .u8 (x 14 : Int), .int .u8 (x 15 : Int), .int .u8 (bits : Int), .bool on, .bool auto, .int .u32 (v : Int), .int .u32 (p : Int), .slice bA nb bC, .int .u32 (n : Int), .int .u8 (q 0 : Int), .int .u8 (q 1 : Int), .int .u8 (q 2 : Int), .int .u8 (q 3 : Int), .int .u8 (q 4 : Int), .int .u8 (q 5 : Int), .slice sA ns sC, .slice dA nd dC]] w (LongPost (nb + ns * 16 + lenD D) w) := by
  obtain ⟨V, hV⟩ : ∃ V, V = w.alloc (.cells #[.int .u8 (kd : Int), .int .u8 (m 0 : Int), .int .u8 (m 1 : Int), .int .u8 (m 2 : Int), .int .u8 (m 3 : Int), .int .u8 (m 4 : Int), .int .u8 (m 5 : Int), .int .u8 (x 0 : Int), .int .u8 (x 1 : Int), .int .u8 (x 2 : Int), .int .u8 (x 3 : Int), .int .u8 (x 4 : Int), .int .u8 (x 5 : Int), .int .u8 (x 6 : Int), .int .u8 (x 7 : Int), .int .u8 (x 8 : Int), .int .u8 (x 9 : Int), .int .u8 (x 10 : Int), .int .u8 (x 11 : Int), .int .u8 (x 12 : Int), .int .u8 (x 13 : Int), .int .u8 (x 14 : Int), .int .u8 (x 15 : Int), .int .u8 (bits : Int), .bool on, .bool auto, .int .u32 (v : Int), .int .u32 (p : Int), .slice bA nb bC, .int .u32 (n : Int), .int .u8 (q 0 : Int), .int .u8 (q 1 : Int), .int .u8 (q 2 : Int), .int .u8 (q 3 : Int), .int .u8 (q 4 : Int), .int .u8 (q 5 : Int), .slice sA ns sC, .slice dA nd dC] 60) := ⟨_, rfl⟩
  have hbx : V.heap[w.heap.size]? = some (.cells #[.int .u8 (kd : Int), .int .u8 (m 0 : Int), .int .u8 (m 1 : Int), .int .u8 (m 2 : Int), .int .u8 (m 3 : Int), .int .u8 (m 4 : Int), .int .u8 (m 5 : Int), .int .u8 (x 0 : Int), .int .u8 (x 1 : Int), .int .u8 (x 2 : Int), .int .u8 (x 3 : Int), .int .u8 (x 4 : Int), .int .u8 (x 5 : Int), .int .u8 (x 6 : Int), .int .u8 (x 7 : Int), .int .u8 (x 8 : Int), .int .u8 (x 9 : Int), .int .u8 (x 10 : Int), .int .u8 (x 11 : Int), .int .u8 (x 12 : Int), .int .u8 (x 13 : Int), .int .u8 (x 14 : Int), .int .u8 (x 15 : Int), .int .u8 (bits : Int), .bool on, .bool auto, .int .u32 (v : Int), .int .u32 (p : Int), .slice bA nb bC, .int .u32 (n : Int), .int .u8 (q 0 : Int), .int .u8 (q 1 : Int), .int .u8 (q 2 : Int), .int .u8 (q 3 : Int), .int .u8 (q 4 : Int), .int .u8 (q 5 : Int), .slice sA ns sC, .slice dA nd dC] 60 (0, 0)) := by rw [hV, heap_alloc_new]
  have hBV : Below w.heap.size w V := by rw [hV]; exact (Below.refl _ _).alloc (Nat.le_refl _) _
  have f28 := cell_blk hbx 28
  have f36 := cell_blk hbx 36
  have f37 := cell_blk hbx 37
  simp only [List.getElem?_toArray, List.getElem?_cons_zero, List.getElem?_cons_succ] at f28 f36 f37
  have HBV := Lib.hid hBV
  have HAT := Lib.hid hat
  have HSZ := Lib.hid hsz
  have HD := Lib.hid hD
  clear hbx hBV hat hsz hD
  go_enter Tryd.func26, Tryd.ntmps26
  go_wp2_with fail
  rw [← hV]
  clear hV
  go_loopw [3, 4] (fun t i wr => ∃ k a : Nat, k ≤ nd ∧ i = .int .i64 k ∧ t = .int .i64 a ∧ a = nb + ns * 16 + lenD (D.take k) ∧ a ≤ 4611686018427387904 ∧ wr = V) (fun _ i _ => nd - (intOf i).toNat)
  case atStart => exact ⟨0, nb + ns * 16, Nat.zero_le _, rfl, by go_num, by unfold lenD; simp, by omega, rfl⟩
  case round =>
    obtain ⟨k, a, hk, rfl, rfl, ha, hal, rfl⟩ := hrel
    have HA := Lib.hid ha
    clear ha
    by_cases hlt : k < nd
    · by_cases ha9 : a < 9000
      · obtain ⟨s, hs1⟩ : ∃ s, D[k]? = some s := ⟨D[k]'(by rw [HD.out]; exact hlt), List.getElem?_eq_getElem _⟩
        obtain ⟨b, o, rfl, hb1, hc⟩ := HAT.out (by rintro rfl; simp at hs1)
        have c0 : wr.cell? ⟨b, o + k, none⟩ = some (.string s) := (HBV.out.cell (p := ⟨b, o + k, none⟩) hb1).trans (hc k s hs1)
        have hss := HSZ.out s (List.mem_of_getElem? hs1)
        have HL := Lib.hid (lenD_succ hs1)
        have t1 : decide ((k : Int) < (nd : Int)) = true := by simp; omega
        have t2 : decide ((a : Int) < 9000) = true := by simp; omega
        clear hs1 hc
        go_wp2_with fail
        go_roundw
        case rel => exact ⟨k + 1, a + 1 + s.size, by omega, by go_num, by go_num, by rw [HA.out, HL.out]; omega, by omega, by trivial⟩
        case measure => simp [intOf]; omega
      · have t1 : decide ((k : Int) < (nd : Int)) = true := by simp; omega
        have t2 : decide ((a : Int) < 9000) = false := by simp; omega
        have t3 : (4000 : Int) < (a : Int) := by omega
        go_wp2_with fail
        go_ret
        exact ⟨true, rfl, HBV.out, fun h => by cases h⟩
    · obtain rfl : k = nd := by omega
      have t1 : decide ((k : Int) < (k : Int)) = false := by simp
      have e : D.take k = D := List.take_of_length_le (by rw [HD.out]; exact Nat.le_refl _)
      by_cases h4 : a ≤ 4000
      · have t3 : ¬ (4000 : Int) < (a : Int) := by omega
        go_wp2_with fail
        go_ret
        exact ⟨false, rfl, HBV.out, fun _ => by have := HA.out; rw [e] at this; omega⟩
      · have t3 : (4000 : Int) < (a : Int) := by omega
        go_wp2_with fail
        go_ret
        exact ⟨true, rfl, HBV.out, fun h => by cases h⟩
end Go.Proofs.YtfolamkjlgpgmaaDoor
