/- A group's digits. No condition but that the number is one of 16 bits. -/
import Derived.Test.YtepoaapadalnoaaDoorPutB
import Derived.Laws.Bits64
import Derived.Laws.IdiomStrings
namespace Go.Proofs.YtepoaapadalnoaaDoor
open Go.RowKit
set_option linter.unusedVariables false
set_option linter.unusedSimpArgs false
set_option maxRecDepth 100000 in
set_option maxHeartbeats 1000000 in
theorem tz60 (w : World) (L : Lay07 w) : Calls Tryd.prog 60 #[.int .u64 16] w fun e w' => e = .returned (.int .i64 4) ∧ w' = w := by
  have c := L.deb
  have e1 : bits BinOp.and IntKind.u64 16 (IntKind.u64.wrap (-16)) = 16 := by decide +kernel
  have e2 : IntKind.u64.wrap (16 * 285870213051353865) = 4573923408821661840 := by decide +kernel
  go_enter Tryd.func60, Tryd.ntmps60
  go_wp2_with go_in
  go_ret
  exact ⟨rfl, rfl⟩
set_option maxRecDepth 100000 in
set_option maxHeartbeats 1000000 in
theorem pow59 (w : World) : Calls Tryd.prog 59 #[.int .i64 16] w fun e w' => e = .returned (.bool true) ∧ w' = w := by
  have e1 : (bits BinOp.and IntKind.i64 16 15 == 0) = true := by decide +kernel
  go_enter Tryd.func59, Tryd.ntmps59
  go_wp2_with go_in
  go_ret
  exact ⟨rfl, rfl⟩
theorem hexS_small {m : Nat} (h : m < 16) : hexS m = [hexD m] := by unfold hexS; rw [if_pos h]
theorem hexS_step {m : Nat} (h : 16 ≤ m) (h2 : m < 65536) : hexS m = hexS (m / 16) ++ [hexD (m % 16)] := by
  unfold hexS
  by_cases c1 : m < 256
  · rw [if_neg (by omega), if_pos c1, if_pos (by omega)]; rfl
  · by_cases c2 : m < 4096
    · rw [if_neg (by omega), if_neg c1, if_pos c2, if_neg (by omega), if_pos (by omega), show m / 16 / 16 = m / 256 from by omega]; rfl
    · rw [if_neg (by omega), if_neg c1, if_neg c2, if_neg (by omega), if_neg (by omega), if_pos (by omega), show m / 16 / 256 = m / 4096 from by omega, show m / 16 / 16 % 16 = m / 256 % 16 from by omega]; rfl
theorem hexS_pos (m : Nat) : 0 < (hexS m).length := by
  unfold hexS; split <;> (try split) <;> (try split) <;> simp
theorem hexS_le (m : Nat) : (hexS m).length ≤ 4 := by
  unfold hexS; split <;> (try split) <;> (try split) <;> simp
def byteL (t : List UInt8) : List Value := t.map fun b => .int .u8 (b.toNat : Int)
/-- the buffer, its last bytes t -/
def bufL (t : List UInt8) : List Value := List.replicate (65 - t.length) (.int .u8 0) ++ byteL t
theorem bufL_length {t : List UInt8} (h : t.length ≤ 65) : (bufL t).length = 65 := by simp [bufL, byteL]; omega
theorem buf_zero : Tryd.zeroCells94 = (bufL []).toArray := by kernel_rfl
theorem buf_set {t : List UInt8} {b : UInt8} {i : Nat} (h : t.length < 65) (hi : i + t.length + 1 = 65) : (bufL t).set i (.int .u8 (b.toNat : Int)) = bufL (b :: t) := by
  apply List.ext_getElem?
  intro j
  rw [List.getElem?_set]
  unfold bufL byteL
  by_cases e : i = j
  · subst e
    rw [if_pos rfl, List.getElem?_append_right (by simp; omega)]
    simp only [List.length_replicate, List.length_append, List.length_map, List.map_cons, List.length_cons]
    rw [if_pos (by omega), show i - (65 - (t.length + 1)) = 0 from by omega]; rfl
  · rw [if_neg e]
    by_cases hj : j < i
    · rw [List.getElem?_append_left (by simp; omega), List.getElem?_append_left (by simp; omega), List.getElem?_replicate, List.getElem?_replicate, if_pos (by omega), if_pos (by simp; omega)]
    · rw [List.getElem?_append_right (by simp; omega), List.getElem?_append_right (by simp; omega)]
      simp only [List.length_replicate, List.length_cons, List.map_cons]
      rw [show j - (65 - (t.length + 1)) = (j - (65 - t.length)) + 1 from by omega, List.getElem?_cons_succ]
theorem buf_get {t : List UInt8} {i : Nat} (h : i + t.length + 1 = 65) : (bufL t)[i]? = some (.int .u8 0) := by
  unfold bufL
  rw [List.getElem?_append_left (by simp; omega), List.getElem?_replicate, if_pos (by omega)]
structure FInv (B : Nat) (t : List UInt8) (w wr : World) : Prop where
  h : wr.heap[B]? = some (.cells (bufL t).toArray 94 (0, 0))
  below : Below B w wr
theorem FInv.set {B i : Nat} {t : List UInt8} {w wr : World} (I : FInv B t w wr) (b : UInt8) (h : t.length < 65) (hi : i + t.length + 1 = 65) : FInv B (b :: t) w (wr.setCell ⟨B, i, none⟩ (.int .u8 (b.toNat : Int))) := by
  have t1 := Turned.setCell I.h i (.int .u8 (b.toNat : Int))
  rw [List.setIfInBounds_toArray, buf_set h hi] at t1
  exact ⟨t1.get (lt_of_blk I.h), I.below.trans (t1.below (Nat.le_refl _))⟩
def digB : ByteArray := ⟨#[48, 49, 50, 51, 52, 53, 54, 55, 56, 57, 97, 98, 99, 100, 101, 102, 103, 104, 105, 106, 107, 108, 109, 110, 111, 112, 113, 114, 115, 116, 117, 118, 119, 120, 121, 122]⟩
theorem digF : ∀ d : Fin 16, digB[d.val]'(Nat.lt_trans d.isLt (by decide)) = hexD d.val := by decide +kernel
theorem digs (m : Nat) (h : m < digB.size) (h16 : m < 16) : digB[m]'h = hexD m := digF ⟨m, h16⟩
theorem and15 {m : Nat} (hm : m < 65536) : bits BinOp.and IntKind.u64 (m : Int) 15 = ((m % 16 : Nat) : Int) := by
  have h := bits_mask .u64 63 (by decide) (fun n h0 h1 => by rw [IntKind.wrap_u64]; omega) 4 (by decide) (m : Int) (by omega) (by omega)
  have e : ((2 : Int) ^ 4 - 1) = 15 := by decide
  have e2 : ((2 : Int) ^ 4) = 16 := by decide
  rw [e, e2] at h
  rw [h]; omega
set_option maxRecDepth 100000 in
set_option maxHeartbeats 1000000 in
theorem bits47 (n : Nat) (w : World) (hn : n < 65536) (L : Lay07 w) : Calls Tryd.prog 47 #[.slice none 0 0, .int .u64 (n : Int), .int .i64 16, .bool false, .bool false] w fun e w' => e = .returned (.tuple #[.slice none 0 0, .string ⟨(hexS n).toArray⟩]) ∧ Below w.heap.size w w' := by
  have I0 : FInv w.heap.size [] w (w.alloc (.cells Tryd.zeroCells94 94)) := ⟨by rw [heap_alloc_new, buf_zero], (Below.refl _ _).alloc (Nat.le_refl _) _⟩
  have I := Lib.hid I0
  have HL := Lib.hid (L.step I0.below)
  clear L I0
  go_enter Tryd.func47, Tryd.ntmps47
  go_wp2_with (first
    | (go_at_call 59; refine (pow59 _).mono ?_; rintro e w' ⟨rfl, rfl⟩)
    | (go_at_call 60; refine (tz60 _ HL.out).mono ?_; rintro e w' ⟨rfl, rfl⟩))
  obtain ⟨B, hB⟩ : ∃ B, B = w.heap.size := ⟨_, rfl⟩
  rw [← hB] at I ⊢
  have NB := Lib.hid hB; clear hB HL
  go_loopw [1, 13] (fun u i wr => ∃ (m : Nat) (t : List UInt8), m < 65536 ∧ u = .int .u64 (m : Int) ∧ i = .int .i64 ((65 - t.length : Nat) : Int) ∧ hexS n = hexS m ++ t ∧ FInv B t w wr) (fun u _ _ => (intOf u).toNat)
  case atStart => exact ⟨n, [], hn, rfl, rfl, by simp, I.out⟩
  case round =>
    clear I
    obtain ⟨m, t, hm, rfl, rfl, hs, I⟩ := hrel
    have hlt : t.length < 4 := by
      have h1 := hexS_pos m; have h2 := hexS_le n
      rw [hs, List.length_append] at h2; omega
    have cg : (bufL t)[64 - t.length]? = some (.int .u8 0) := buf_get (by omega)
    have c0 := cell_blk I.h (64 - t.length)
    rw [List.getElem?_toArray, cg] at c0
    have f0 := frozen_blk I.h (64 - t.length)
    have e1 : ((65 - t.length : Nat) : Int) - 1 = ((64 - t.length : Nat) : Int) := by omega
    have HI := Lib.hid I
    have HS := Lib.hid hs
    clear I cg hs
    by_cases h16 : 16 ≤ m
    · have t1 : decide ((16 : Int) ≤ m) = true := by simp; omega
      have e2 := and15 hm
      go_wp2_with fail
      have hd := digs (m % 16) (by show _ < 36; omega) (by omega)
      unfold digB at hd
      rw [hd]
      clear hd
      refine ⟨⟨m / 16, hexD (m % 16) :: t, by omega, by rw [Int.natCast_ediv]; rfl, by rw [List.length_cons, show 65 - (t.length + 1) = 64 - t.length from by omega], ?_, ?_⟩, ?_⟩
      · rw [HS.out, hexS_step h16 hm, List.append_assoc]; rfl
      · exact HI.out.set _ (by omega) (by omega)
      · simp [intOf]; omega
    · have t1 : decide ((16 : Int) ≤ m) = false := by simp; omega
      have o0 : (0 : Int) ≤ ((64 - t.length : Nat) : Int) := by omega
      have o1 : ((64 - t.length : Nat) : Int) ≤ 65 := by omega
      have o2 : ¬ (65 = 64 - t.length) := by omega
      go_wp2_with fail
      have hd := digs m (by show _ < 36; omega) (by omega)
      unfold digB at hd
      rw [hd]
      clear hd
      have hs : hexD m :: t = hexS n := by rw [HS.out, hexS_small (by omega)]; rfl
      have FW : FInv B (hexS n) w (wr.setCell ⟨B, 64 - t.length, none⟩ (.int .u8 ((hexD m).toNat : Int))) := hs ▸ HI.out.set (hexD m) (by omega) (by omega)
      have hl : 65 - (64 - t.length) = (hexS n).length := by rw [← hs, List.length_cons]; omega
      have hv : (convert 70 9 (.slice (some ⟨B, 64 - t.length, none⟩) (65 - (64 - t.length)) (65 - (64 - t.length)))).run Tryd.prog (wr.setCell ⟨B, 64 - t.length, none⟩ (.int .u8 ((hexD m).toNat : Int))) = .ok (.string ⟨(hexS n).toArray⟩) (wr.setCell ⟨B, 64 - t.length, none⟩ (.int .u8 ((hexD m).toNat : Int))) := by
        rw [hl]
        refine run_convert_bytes_back _ 70 9 5 _ _ (hexS n) Tryd.underlying70 Tryd.underlying5 Tryd.underlying9 (fun j hj => ?_)
        rw [Addr.add_mid, cell_blk FW.h, List.getElem?_toArray]
        unfold bufL byteL
        rw [List.getElem?_append_right (by simp; omega), List.length_replicate, show 64 - t.length + j - (65 - (hexS n).length) = j from by omega, List.getElem?_map, List.getElem?_eq_getElem hj]
        rfl
      rw [hv]
      have HF := Lib.hid FW
      clear hv FW hs hl
      go_wp2_with fail
      go_ret2
      exact ⟨rfl, NB.out ▸ HF.out.below⟩
end Go.Proofs.YtepoaapadalnoaaDoor
