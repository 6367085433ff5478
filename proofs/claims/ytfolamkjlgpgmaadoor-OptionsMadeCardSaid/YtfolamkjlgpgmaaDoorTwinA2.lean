/- A twin of addresses: the walk. No condition but that the addresses are few. (Printed by gTwinA2.py.) -/
import Derived.Test.YtfolamkjlgpgmaaDoorTwinA
namespace Go.Proofs.YtfolamkjlgpgmaaDoor
open Go.RowKit
set_option linter.unusedVariables false
set_option linter.unusedSimpArgs false
def TwinAPost (L : List (Nat → Nat)) (w : World) (e : Ending) (w' : World) : Prop := ∃ g, w.heap.size ≤ g ∧ e = .returned (.slice (some ⟨g, 0, none⟩) L.length (L.length + 4)) ∧ w'.heap[g]? = some (.cells (rowA (twinA L)) 51 (0, 0)) ∧ Below w.heap.size w w'
set_option maxRecDepth 100000 in
set_option maxHeartbeats 4000000 in
theorem twin61 {A : Option Addr} {c : Nat} {L : List (Nat → Nat)} (w : World) (h : AdrsAt w w.heap.size A L) :
    Calls Tryd.prog 61 #[.slice A L.length c, .agg #[.int .u8 1, .int .u8 2, .int .u8 3, .int .u8 0, .int .u8 0, .int .u8 0, .int .u8 0, .int .u8 0, .int .u8 0, .int .u8 0, .int .u8 0, .int .u8 0, .int .u8 0, .int .u8 0, .int .u8 0, .int .u8 201]] w (TwinAPost L w) := by
  have hl := h.many
  have HRD := Lib.hid h.at_
  obtain ⟨n, hn⟩ : ∃ n, L.length = n := ⟨_, rfl⟩
  have HN := Lib.hid hn
  rw [hn] at hl ⊢
  clear h hn
  have hmk : ∀ W : World, (Instr.makeSlice 57 (.int .i64 ((n : Int) + 4)) (.int .i64 ((n : Int) + 4))).run Tryd.prog W = .ok (.slice (some ⟨W.heap.size, 0, none⟩) (n + 4) (n + 4)) (W.alloc (.cells (rowA (List.replicate (n + 4) zeroA)) 51)) := fun W => make_adrs (n + 4) W (by omega)
  obtain ⟨V, hV⟩ : ∃ V, V = w.alloc (.cells #[.int .u8 1, .int .u8 2, .int .u8 3, .int .u8 0, .int .u8 0, .int .u8 0, .int .u8 0, .int .u8 0, .int .u8 0, .int .u8 0, .int .u8 0, .int .u8 0, .int .u8 0, .int .u8 0, .int .u8 0, .int .u8 201] 51) := ⟨_, rfl⟩
  have hbx : V.heap[w.heap.size]? = some (.cells #[.int .u8 1, .int .u8 2, .int .u8 3, .int .u8 0, .int .u8 0, .int .u8 0, .int .u8 0, .int .u8 0, .int .u8 0, .int .u8 0, .int .u8 0, .int .u8 0, .int .u8 0, .int .u8 0, .int .u8 0, .int .u8 201] 51 (0, 0)) := by rw [hV, heap_alloc_new]
  have hBV : Below w.heap.size w V := by rw [hV]; exact (Below.refl _ _).alloc (Nat.le_refl _) _
  have hVs : V.heap.size = w.heap.size + 1 := by rw [hV]; simp
  have I0 : TwAI V (V.alloc (.cells (rowA (List.replicate (n + 4) zeroA)) 51)) V.heap.size L [] (List.replicate (n + 4 - 0) zeroA) := ⟨by rw [heap_alloc_new]; rfl, (Below.refl _ _).alloc (Nat.le_refl _) _⟩
  have HI := Lib.hid I0
  have HBX := Lib.hid hbx
  have HBV := Lib.hid hBV
  have HVS := Lib.hid hVs
  clear I0 hbx hBV hVs
  go_enter Tryd.func61, Tryd.ntmps61
  go_wp2_with fail
  rw [← hV]
  have hg : w.heap.size + 1 = V.heap.size := HVS.out.symm
  rw [hg]
  obtain ⟨g, hgg⟩ : ∃ g, g = V.heap.size := ⟨_, rfl⟩
  rw [← hgg] at HI hg ⊢
  have NG := Lib.hid hg
  clear hg hgg hV HVS
  go_loopw [6] (fun i wr => ∃ (k : Nat) (P : List (Nat → Nat)), k ≤ n + 4 ∧ i = .int .i64 k ∧ P = (twinA L).take k ∧ TwAI V wr g L P (List.replicate (n + 4 - k) zeroA)) (fun i _ => n + 4 - (intOf i).toNat)
  case atStart => exact ⟨0, [], by omega, rfl, rfl, HI.out⟩
  case round =>
    clear HI
    obtain ⟨k, P, hk, rfl, hP, I⟩ := hrel
    have hPl : P.length = k := by rw [hP, List.length_take]; unfold twinA; rw [List.length_append, List.length_replicate, HN.out]; omega
    have HP := Lib.hid hP
    have HPL := Lib.hid hPl
    clear hP hPl
    by_cases hlt : k < n + 4
    · rw [show n + 4 - k = (n + 4 - (k + 1)) + 1 by omega, List.replicate_succ] at I
      have HBX1 := Lib.hid ((I.below.block w.heap.size (by rw [← NG.out]; omega)).trans HBX.out)
      have b0 := cell_blk HBX1.out 0
      have b1 := cell_blk HBX1.out 1
      have b2 := cell_blk HBX1.out 2
      have b3 := cell_blk HBX1.out 3
      have b4 := cell_blk HBX1.out 4
      have b5 := cell_blk HBX1.out 5
      have b6 := cell_blk HBX1.out 6
      have b7 := cell_blk HBX1.out 7
      have b8 := cell_blk HBX1.out 8
      have b9 := cell_blk HBX1.out 9
      have b10 := cell_blk HBX1.out 10
      have b11 := cell_blk HBX1.out 11
      have b12 := cell_blk HBX1.out 12
      have b13 := cell_blk HBX1.out 13
      have b14 := cell_blk HBX1.out 14
      have b15 := cell_blk HBX1.out 15
      simp only [List.getElem?_toArray, List.getElem?_cons_zero, List.getElem?_cons_succ] at b0 b1 b2 b3 b4 b5 b6 b7 b8 b9 b10 b11 b12 b13 b14 b15
      have hz : (P ++ zeroA :: List.replicate (n + 4 - (k + 1)) zeroA)[k]? = some zeroA := by rw [List.getElem?_append_right (by rw [HPL.out]; exact Nat.le_refl _), HPL.out, Nat.sub_self]; rfl
      have z0 := (cell_blk I.row (k * 16 + 0)).trans (rowA_get hz (j := 0) (by decide))
      have f0 := frozen_blk I.row (k * 16 + 0)
      have z1 := (cell_blk I.row (k * 16 + 1)).trans (rowA_get hz (j := 1) (by decide))
      have f1 := frozen_blk I.row (k * 16 + 1)
      have z2 := (cell_blk I.row (k * 16 + 2)).trans (rowA_get hz (j := 2) (by decide))
      have f2 := frozen_blk I.row (k * 16 + 2)
      have z3 := (cell_blk I.row (k * 16 + 3)).trans (rowA_get hz (j := 3) (by decide))
      have f3 := frozen_blk I.row (k * 16 + 3)
      have z4 := (cell_blk I.row (k * 16 + 4)).trans (rowA_get hz (j := 4) (by decide))
      have f4 := frozen_blk I.row (k * 16 + 4)
      have z5 := (cell_blk I.row (k * 16 + 5)).trans (rowA_get hz (j := 5) (by decide))
      have f5 := frozen_blk I.row (k * 16 + 5)
      have z6 := (cell_blk I.row (k * 16 + 6)).trans (rowA_get hz (j := 6) (by decide))
      have f6 := frozen_blk I.row (k * 16 + 6)
      have z7 := (cell_blk I.row (k * 16 + 7)).trans (rowA_get hz (j := 7) (by decide))
      have f7 := frozen_blk I.row (k * 16 + 7)
      have z8 := (cell_blk I.row (k * 16 + 8)).trans (rowA_get hz (j := 8) (by decide))
      have f8 := frozen_blk I.row (k * 16 + 8)
      have z9 := (cell_blk I.row (k * 16 + 9)).trans (rowA_get hz (j := 9) (by decide))
      have f9 := frozen_blk I.row (k * 16 + 9)
      have z10 := (cell_blk I.row (k * 16 + 10)).trans (rowA_get hz (j := 10) (by decide))
      have f10 := frozen_blk I.row (k * 16 + 10)
      have z11 := (cell_blk I.row (k * 16 + 11)).trans (rowA_get hz (j := 11) (by decide))
      have f11 := frozen_blk I.row (k * 16 + 11)
      have z12 := (cell_blk I.row (k * 16 + 12)).trans (rowA_get hz (j := 12) (by decide))
      have f12 := frozen_blk I.row (k * 16 + 12)
      have z13 := (cell_blk I.row (k * 16 + 13)).trans (rowA_get hz (j := 13) (by decide))
      have f13 := frozen_blk I.row (k * 16 + 13)
      have z14 := (cell_blk I.row (k * 16 + 14)).trans (rowA_get hz (j := 14) (by decide))
      have f14 := frozen_blk I.row (k * 16 + 14)
      have z15 := (cell_blk I.row (k * 16 + 15)).trans (rowA_get hz (j := 15) (by decide))
      have f15 := frozen_blk I.row (k * 16 + 15)
      rw [Nat.add_zero] at z0 f0
      have t1 : (k : Int) < (n : Int) + 4 := by omega
      have HI := Lib.hid I
      clear I
      have HI1 := Lib.hid (HI.out.put strangeA)
      by_cases hln : k < n
      · obtain ⟨y, hy⟩ : ∃ y, L[k]? = some y := ⟨L[k]'(by rw [HN.out]; exact hln), List.getElem?_eq_getElem _⟩
        obtain ⟨b, o, rfl, hb, hc⟩ := HRD.out (by rintro rfl; simp at hy)
        have hc2 : ∀ j, j < 16 → wr.cell? ⟨b, o + k * 16 + j, none⟩ = some (.int .u8 (y j : Int)) := fun j hj => (HI.out.below.cell (p := ⟨b, o + k * 16 + j, none⟩) (show b < g by rw [← NG.out]; omega)).trans ((HBV.out.cell (p := ⟨b, o + k * 16 + j, none⟩) hb).trans (hc k y hy j hj))
        have y0 := hc2 0 (by decide)
        have y1 := hc2 1 (by decide)
        have y2 := hc2 2 (by decide)
        have y3 := hc2 3 (by decide)
        have y4 := hc2 4 (by decide)
        have y5 := hc2 5 (by decide)
        have y6 := hc2 6 (by decide)
        have y7 := hc2 7 (by decide)
        have y8 := hc2 8 (by decide)
        have y9 := hc2 9 (by decide)
        have y10 := hc2 10 (by decide)
        have y11 := hc2 11 (by decide)
        have y12 := hc2 12 (by decide)
        have y13 := hc2 13 (by decide)
        have y14 := hc2 14 (by decide)
        have y15 := hc2 15 (by decide)
        rw [Nat.add_zero] at y0
        have hbg : b ≠ g := by rw [← NG.out]; omega
        have t2 : (k : Int) < (n : Int) := by omega
        have HT : Hid ((twinA L).take (k + 1) = P ++ [y]) := Lib.hid (by rw [HP.out, List.take_add_one]; unfold twinA; rw [List.getElem?_append_left (by rw [HN.out]; exact hln), hy]; rfl)
        have HZ0 := HI1.out.put y
        rw [HPL.out] at HZ0
        have HZ := Lib.hid HZ0
        clear hy hc hc2 HZ0 hz
        go_wp2_with fail
        go_roundw
        case rel => exact ⟨k + 1, P ++ [y], by omega, by go_num, HT.out.symm, TwAI.push HZ.out⟩
        case measure => simp [intOf]; omega
      · have t2 : ¬ (k : Int) < (n : Int) := by omega
        have HT : Hid ((twinA L).take (k + 1) = P ++ [strangeA]) := Lib.hid (by
          rw [HP.out, List.take_add_one]; unfold twinA
          rw [List.getElem?_append_right (by rw [HN.out]; omega), List.getElem?_replicate, if_pos (by rw [HN.out]; omega)]; rfl)
        have HZ0 := HI1.out
        rw [HPL.out] at HZ0
        have HZ := Lib.hid HZ0
        clear HZ0 hz
        go_wp2_with fail
        go_roundw
        case rel => exact ⟨k + 1, P ++ [strangeA], by omega, by go_num, HT.out.symm, TwAI.push HZ.out⟩
        case measure => simp [intOf]; omega
    · have e : k = n + 4 := by omega
      have ee : (twinA L).take k = twinA L := List.take_of_length_le (by unfold twinA; rw [List.length_append, List.length_replicate, HN.out]; omega)
      have HR : Hid (wr.heap[g]? = some (.cells (rowA (twinA L)) 51 (0, 0))) := Lib.hid (by
        have h := I.row
        rw [show n + 4 - k = 0 by omega, HP.out, ee] at h
        simpa using h)
      have HB := Lib.hid (HBV.out.trans (I.below.mono (by rw [← NG.out]; omega)))
      have t1 : ¬ ((k : Int) < (n : Int) + 4) := by omega
      clear I
      go_wp2_with fail
      go_ret
      exact ⟨g, by rw [← NG.out]; omega, by rw [HN.out]; rfl, HR.out, HB.out⟩
end Go.Proofs.YtfolamkjlgpgmaaDoor
