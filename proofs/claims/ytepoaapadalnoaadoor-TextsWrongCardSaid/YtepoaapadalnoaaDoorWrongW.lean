/- The law on texts that are none: the walk. No condition. -/
import Derived.Test.YtepoaapadalnoaaDoorWrongP
import Derived.Test.YtepoaapadalnoaaDoorBackR
import Derived.Test.YtepoaapadalnoaaDoorLives
import Derived.Outline
import Derived.Deep.DeepCutAuto
import Derived.Deep.QuietTactic
import Derived.BigQuiet
namespace Go.Proofs.YtepoaapadalnoaaDoor
open Go.RowKit
set_option linter.unusedVariables false
set_option linter.unusedSimpArgs false
/-- is it a byte of a text? -/
def fineC (c : Nat) : Bool := decide (48 ≤ c ∧ c ≤ 57 ∨ 97 ≤ c ∧ c ≤ 102 ∨ 65 ≤ c ∧ c ≤ 70 ∨ c = 58 ∨ c = 46)
theorem runeF : ∀ i : Fin 256, (Utf8.encode (IntKind.i32.wrap (i.1 : Int))).size ≤ 4 ∧ (fineC i.1 = false → (Utf8.encode (IntKind.i32.wrap (i.1 : Int))).data.toList.any fun x => (dig x).isNone && x != 58 && x != 46) := by decide +kernel
theorem rune_at {c : Nat} (hc : c < 256) : ∃ r : ByteArray, Utf8.encode (IntKind.i32.wrap (c : Int)) = r ∧ r.size ≤ 4 ∧ (fineC c = false → ∃ x ∈ r.data.toList, dig x = none ∧ x ≠ 58 ∧ x ≠ 46) := by
  refine ⟨_, rfl, (runeF ⟨c, hc⟩).1, fun h => ?_⟩
  obtain ⟨x, h1, h2⟩ := List.any_eq_true.1 ((runeF ⟨c, hc⟩).2 h)
  simp only [Bool.and_eq_true, bne_iff_ne, Option.isNone_iff_eq_none] at h2
  exact ⟨x, h1, h2.1.1, h2.1.2, h2.2⟩
theorem strange_cat (p r t : ByteArray) (h : ∃ x ∈ r.data.toList, dig x = none ∧ x ≠ 58 ∧ x ≠ 46) : (getL (p ++ r ++ t).data.toList).isNone = true := by
  obtain ⟨x, hx, h1, h2, h3⟩ := h
  rw [getL_strange (c := x) _ h1 h2 h3]
  · rfl
  · simp only [ByteArray.data_append, Array.toList_append, List.mem_append]
    exact .inl (.inr hx)
theorem five_cat (s : ByteArray) : (getL (({ data := #[48, 48, 48, 48, 48, 58] } : ByteArray) ++ s).data.toList).isNone = true := by
  have h := wrong_five s.data.toList
  rw [show (({ data := #[48, 48, 48, 48, 48, 58] } : ByteArray) ++ s).data.toList = [48, 48, 48, 48, 48, 58] ++ s.data.toList by simp only [ByteArray.data_append, Array.toList_append], h]
  rfl
theorem eight_cat (s : ByteArray) : (getL (({ data := #[49, 58, 50, 58, 51, 58, 52, 58, 53, 58, 54, 58, 55, 58, 56, 58] } : ByteArray) ++ s).data.toList).isNone = true := by
  have h := wrong_eight s.data.toList
  rw [show (({ data := #[49, 58, 50, 58, 51, 58, 52, 58, 53, 58, 54, 58, 55, 58, 56, 58] } : ByteArray) ++ s).data.toList = [49, 58, 50, 58, 51, 58, 52, 58, 53, 58, 54, 58, 55, 58, 56, 58] ++ s.data.toList by simp only [ByteArray.data_append, Array.toList_append], h]
  rfl
theorem size_cat (a b : ByteArray) : (a ++ b).size = a.size + b.size := by simp
set_option maxRecDepth 100000 in
set_option maxHeartbeats 4000000 in
theorem textsWrong_walk (a : Nat → Nat) (c n : Nat) (ha : ∀ i, i < 16 → a i < 256) (hc : c < 256) (hn : n < 256) (w : World) (L : Lay07 w) : Calls Tryd.prog 7 #[.agg (adrCells a), .int .u8 c, .int .u8 n] w fun e w' => e = .returned (.bool true) ∧ Below w.heap.size w w' := by
  have B0 : Below w.heap.size w (w.alloc (.cells (adrCells a) 23)) := (Below.refl _ _).alloc (Nat.le_refl _) _
  have HA := Lib.hid (show (w.alloc (.cells (adrCells a) 23)).heap[w.heap.size]? = some (.cells (adrCells a) 23 (0, 0)) from heap_alloc_new _ _)
  have I0 := Lib.hid (show Lv w (w.alloc (.cells (adrCells a) 23)) from ⟨L.step B0, B0⟩)
  clear L B0
  obtain ⟨s, hs⟩ : ∃ s : ByteArray, (⟨(putL a).toArray⟩ : ByteArray) = s := ⟨_, rfl⟩
  have hsl : s.data.toList = putL a := by rw [← hs]
  have hl := putL_len ha
  rw [← hsl] at hl
  have hz : 2 ≤ s.size ∧ s.size ≤ 39 := by simpa using hl
  obtain ⟨hz1, hz2⟩ := hz
  have HS := Lib.hid hs
  clear hsl hl hs
  have HSA : Hid ((Tryd.prog.info? 23).map (·.size) = some (adrCells a).size) := Lib.hid (by rw [adrCells_size]; kernel_rfl)
  go_enter Tryd.func7, Tryd.ntmps7
  go_wp2_with (refine wpList_load_row rfl 23 _ rfl w.heap.size rfl 23 _ (0, 0) _ HA.out Tryd.underlying23 rfl HSA.out ?_)
  refine (put8_lit _ a s _ I0.out.lay ha rfl HS.out).mono ?_
  rintro e w1 ⟨rfl, b1⟩
  have I1 := Lib.hid (I0.out.step b1)
  clear b1 I0 HA HSA HS
  have h2 : decide ((s.size : Int) < 2) = false := by simp; omega
  have hp : 0 < s.size := by omega
  have h0 : ((s.size : Int) == 0) = false := by simp only [beq_eq_false_iff_ne]; omega
  obtain ⟨k, hk⟩ : ∃ k, n % s.size = k := ⟨_, rfl⟩
  have hks : k < s.size := by rw [← hk]; exact Nat.mod_lt _ hp
  have hk2 : (n : Int) % (s.size : Int) = (k : Int) := by rw [← hk]; simp
  clear hk
  go_upto_region 5 with (fail)
  rw [hk2]
  clear hk2
  go_cut [9] (fun v wx => v = .bool (fineC c) ∧ wx = w1)
  case first =>
    cases h58 : ((c : Int) == 58) <;> cases h46 : ((c : Int) == 46)
    · go_wp2_with fail
      all_goals
        go_meet
        case rel =>
          refine ⟨congrArg Value.bool ?_, rfl⟩
          simp only [beq_eq_false_iff_ne] at h58 h46
          unfold fineC
          rw [Bool.eq_iff_iff]
          simp only [Bool.or_eq_true, decide_eq_true_eq, true_iff, Bool.false_eq_true, false_iff]
          omega
    · have a1 : decide ((48 : Int) ≤ c) = false := by simp only [beq_iff_eq] at h46; simp only [decide_eq_false_iff_not]; omega
      have a2 : decide ((97 : Int) ≤ c) = false := by simp only [beq_iff_eq] at h46; simp only [decide_eq_false_iff_not]; omega
      have a3 : decide ((65 : Int) ≤ c) = false := by simp only [beq_iff_eq] at h46; simp only [decide_eq_false_iff_not]; omega
      have HF : Hid (true = fineC c) := Lib.hid (by simp only [beq_iff_eq] at h46; unfold fineC; symm; simp only [decide_eq_true_eq]; omega)
      go_wp2_with fail
      go_meet
      case rel => exact ⟨congrArg Value.bool HF.out, rfl⟩
    · have a1 : (48 : Int) ≤ c := by simp only [beq_iff_eq] at h58; omega
      have a0 : decide ((c : Int) ≤ 57) = false := by simp only [beq_iff_eq] at h58; simp only [decide_eq_false_iff_not]; omega
      have a2 : decide ((97 : Int) ≤ c) = false := by simp only [beq_iff_eq] at h58; simp only [decide_eq_false_iff_not]; omega
      have a3 : decide ((65 : Int) ≤ c) = false := by simp only [beq_iff_eq] at h58; simp only [decide_eq_false_iff_not]; omega
      have HF : Hid (true = fineC c) := Lib.hid (by simp only [beq_iff_eq] at h58; unfold fineC; symm; simp only [decide_eq_true_eq]; omega)
      go_wp2_with fail
      go_meet
      case rel => exact ⟨congrArg Value.bool HF.out, rfl⟩
    · exfalso
      simp only [beq_iff_eq] at h58 h46
      omega
  case rest =>
    obtain ⟨rfl, rfl⟩ := hcut
    obtain ⟨q, hq⟩ : ∃ q, fineC c = q := ⟨_, rfl⟩
    rw [hq]
    have HQ := Lib.hid hq
    clear hq
    go_upto_region 6 with (fail)
    go_cut [67] (fun v wx => v = .bool false ∧ Lv w wx)
    case first =>
      cases q
      · obtain ⟨r, k5, k6, k7⟩ := rune_at hc
        have k1 : k ≤ s.size := by omega
        have k2 : (k : Int) + 1 ≤ s.size := by omega
        have k3 : (0 : Int) ≤ (k : Int) + 1 := by omega
        have k9 : ¬ (9223372036854775807 < k + r.size + (s.size - (k + 1))) := by omega
        have k4 : IntKind.i64.wrap ((k : Int) + 1) = ((k + 1 : Nat) : Int) := by rw [IntKind.wrap_i64]; omega
        replace k7 := Lib.hid (k7 HQ.out)
        have k8 : ¬ (9223372036854775807 < k + r.size) := by omega
        have hS := I1.out.step (Below.refl _ _).drew
        refine wp_region_held_drew (S := fun W => Lv w W) (by kernel_rfl) hS ?_
        clear hS
        intro HS
        refine wpAnyH_take (i := 0) (v := ?_) rfl (by kernel_rfl) (by kernel_rfl) (by kernel_rfl) (fun _ _ _ h => h) (Or.inl ⟨by go_simp, ?hy⟩) HS ?_
        case hy => intro W hW; go_simp; (try with_reducible rfl)
        try simp only [List.getElem_toArray, List.getElem_cons_zero, List.getElem_cons_succ, Act.put, List.setIfInBounds_toArray, List.set_cons_zero, List.set_cons_succ]
        refine wpAnyH_take (i := 1) (v := ?_) rfl (by kernel_rfl) (by kernel_rfl) (by kernel_rfl) (fun _ _ _ h => h) (Or.inl ⟨by go_simp, ?hy⟩) HS ?_
        case hy => intro W hW; go_simp; (try with_reducible rfl)
        try simp only [List.getElem_toArray, List.getElem_cons_zero, List.getElem_cons_succ, Act.put, List.setIfInBounds_toArray, List.set_cons_zero, List.set_cons_succ]
        refine wpAnyH_take (i := 2) (v := ?_) rfl (by kernel_rfl) (by kernel_rfl) (by kernel_rfl) (fun _ _ _ h => h) (Or.inl ⟨by go_simp, ?hy⟩) HS ?_
        case hy => intro W hW; go_simp; (try with_reducible rfl)
        try simp only [List.getElem_toArray, List.getElem_cons_zero, List.getElem_cons_succ, Act.put, List.setIfInBounds_toArray, List.set_cons_zero, List.set_cons_succ]
        refine wpAnyH_take (i := 3) (v := ?_) rfl (by kernel_rfl) (by kernel_rfl) (by kernel_rfl) (fun _ _ _ h => h) (Or.inl ⟨by go_simp, ?hy⟩) HS ?_
        case hy => intro W hW; go_simp; (try with_reducible rfl)
        try simp only [List.getElem_toArray, List.getElem_cons_zero, List.getElem_cons_succ, Act.put, List.setIfInBounds_toArray, List.set_cons_zero, List.set_cons_succ]
        refine wpAnyH_take (i := 4) (v := ?_) rfl (by kernel_rfl) (by kernel_rfl) (by kernel_rfl) (fun _ _ _ h => h) (Or.inl ⟨by go_simp, ?hy⟩) HS ?_
        case hy => intro W hW; go_simp; (try with_reducible rfl)
        try simp only [List.getElem_toArray, List.getElem_cons_zero, List.getElem_cons_succ, Act.put, List.setIfInBounds_toArray, List.set_cons_zero, List.set_cons_succ]
        refine wpAnyH_take (i := 5) (v := ?_) rfl (by kernel_rfl) (by kernel_rfl) (by kernel_rfl) (fun _ _ _ h => h) (Or.inl ⟨by go_simp, ?hy⟩) HS ?_
        case hy => intro W hW; go_simp; (try with_reducible rfl)
        try simp only [List.getElem_toArray, List.getElem_cons_zero, List.getElem_cons_succ, Act.put, List.setIfInBounds_toArray, List.set_cons_zero, List.set_cons_succ]
        refine wpAnyH_take (i := 6) (v := ?_) rfl (by kernel_rfl) (by kernel_rfl) (by kernel_rfl) (fun _ _ _ h => h) (Or.inl ⟨by go_simp, ?hy⟩) HS ?_
        case hy => intro W hW; go_simp; (try with_reducible rfl)
        try simp only [List.getElem_toArray, List.getElem_cons_zero, List.getElem_cons_succ, Act.put, List.setIfInBounds_toArray, List.set_cons_zero, List.set_cons_succ]
        refine wpAnyH_take (i := 7) (v := ?_) rfl (by kernel_rfl) (by kernel_rfl) (by kernel_rfl) (fun _ _ _ h => h) (Or.inl ⟨by go_simp, ?hy⟩) HS ?_
        case hy => intro W hW; go_simp; (try with_reducible rfl)
        try simp only [List.getElem_toArray, List.getElem_cons_zero, List.getElem_cons_succ, Act.put, List.setIfInBounds_toArray, List.set_cons_zero, List.set_cons_succ]
        refine wpAnyH_take (i := 8) (v := ?_) rfl (by kernel_rfl) (by kernel_rfl) (by kernel_rfl) (fun _ _ _ h => h) (Or.inl ⟨by go_simp, ?hy⟩) HS ?_
        case hy => intro W hW; go_simp; (try with_reducible rfl)
        try simp only [List.getElem_toArray, List.getElem_cons_zero, List.getElem_cons_succ, Act.put, List.setIfInBounds_toArray, List.set_cons_zero, List.set_cons_succ]
        refine wpAnyH_take (i := 9) (v := ?_) rfl (by kernel_rfl) (by kernel_rfl) (by kernel_rfl) (fun _ _ _ h => h) (Or.inl ⟨by go_simp, ?hy⟩) HS ?_
        case hy => intro W hW; go_simp; (try with_reducible rfl)
        try simp only [List.getElem_toArray, List.getElem_cons_zero, List.getElem_cons_succ, Act.put, List.setIfInBounds_toArray, List.set_cons_zero, List.set_cons_succ]
        refine wpAnyH_take (i := 10) (v := ?_) rfl (by kernel_rfl) (by kernel_rfl) (by kernel_rfl) (fun _ _ _ h => h) (Or.inl ⟨by go_simp, ?hy⟩) HS ?_
        case hy => intro W hW; go_simp; (try with_reducible rfl)
        try simp only [List.getElem_toArray, List.getElem_cons_zero, List.getElem_cons_succ, Act.put, List.setIfInBounds_toArray, List.set_cons_zero, List.set_cons_succ]
        refine wpAnyH_take (i := 11) (v := ?_) rfl (by kernel_rfl) (by kernel_rfl) (by kernel_rfl) (fun _ _ _ h => h) (Or.inl ⟨by go_simp, ?hy⟩) HS ?_
        case hy => intro W hW; go_simp; (try with_reducible rfl)
        try simp only [List.getElem_toArray, List.getElem_cons_zero, List.getElem_cons_succ, Act.put, List.setIfInBounds_toArray, List.set_cons_zero, List.set_cons_succ]
        refine wpAnyH_take (i := 12) (v := ?_) rfl (by kernel_rfl) (by kernel_rfl) (by kernel_rfl) (fun _ _ _ h => h) (Or.inl ⟨by go_simp, ?hy⟩) HS ?_
        case hy => intro W hW; go_simp; (try with_reducible rfl)
        try simp only [List.getElem_toArray, List.getElem_cons_zero, List.getElem_cons_succ, Act.put, List.setIfInBounds_toArray, List.set_cons_zero, List.set_cons_succ]
        refine wpAnyH_take (i := 13) (v := ?_) rfl (by kernel_rfl) (by kernel_rfl) (by kernel_rfl) (fun _ _ _ h => h) (Or.inl ⟨by go_simp, ?hy⟩) HS ?_
        case hy => intro W hW; go_simp; (try with_reducible rfl)
        try simp only [List.getElem_toArray, List.getElem_cons_zero, List.getElem_cons_succ, Act.put, List.setIfInBounds_toArray, List.set_cons_zero, List.set_cons_succ]
        refine wpAnyH_take (i := 14) (v := ?_) rfl (by kernel_rfl) (by kernel_rfl) (by kernel_rfl) (fun _ _ _ h => h) (Or.inl ⟨by go_simp, ?hy⟩) HS ?_
        case hy => intro W hW; go_simp; (try with_reducible rfl)
        try simp only [List.getElem_toArray, List.getElem_cons_zero, List.getElem_cons_succ, Act.put, List.setIfInBounds_toArray, List.set_cons_zero, List.set_cons_succ]
        refine wpAnyH_ready (rs := [15]) (by kernel_rfl) (by simp) ?_
        refine AllReadyH.cons rfl (fun K hK => ?_) AllReadyH.nil
        rw [if_pos (by kernel_rfl)]
        simp only [List.getElem_toArray, List.getElem_cons_zero, List.getElem_cons_succ]
        go_simp
        refine (none16_lit _ _ HS.lay (by rw [size_cat, size_cat, ByteArray.size_extract, ByteArray.size_extract]; omega) (strange_cat _ _ _ k7.out)).mono ?_
        rintro e w5 ⟨rfl, I9⟩
        refine hK.out _ _ (HS.step I9) (fun HS => ?_)
        clear hK I9
        try simp only [List.getElem_toArray, List.getElem_cons_zero, List.getElem_cons_succ, Act.put, List.setIfInBounds_toArray, List.set_cons_zero, List.set_cons_succ]
        refine wpAnyH_take (i := 16) (v := ?_) rfl (by kernel_rfl) (by kernel_rfl) (by kernel_rfl) (fun _ _ _ h => h) (Or.inl ⟨by go_simp, ?hy⟩) HS ?_
        case hy => intro W hW; go_simp; (try with_reducible rfl)
        try simp only [List.getElem_toArray, List.getElem_cons_zero, List.getElem_cons_succ, Act.put, List.setIfInBounds_toArray, List.set_cons_zero, List.set_cons_succ]
        refine wpAnyH_take (i := 17) (v := ?_) rfl (by kernel_rfl) (by kernel_rfl) (by kernel_rfl) (fun _ _ _ h => h) (Or.inl ⟨by go_simp, ?hy⟩) HS ?_
        case hy => intro W hW; go_simp; (try with_reducible rfl)
        try simp only [List.getElem_toArray, List.getElem_cons_zero, List.getElem_cons_succ, Act.put, List.setIfInBounds_toArray, List.set_cons_zero, List.set_cons_succ]
        refine wpAnyH_done (by kernel_rfl) ?_ _
        have HW := Lib.hid HS
        clear HS
        go_wp2_with fail
        go_meet
        case rel => exact ⟨rfl, HW.out⟩
      · go_quiet (fail)
        go_wp2_with fail
        go_meet
        case rel => exact ⟨rfl, I1.out.step (below_drewN (Below.refl _ _) _)⟩
    case rest =>
      obtain ⟨rfl, I2⟩ := hcut
      have I2 := Lib.hid I2
      have k8 : ¬ (9223372036854775807 < 6 + s.size) := by omega
      have k9 : ¬ (9223372036854775807 < 16 + s.size) := by omega
      go_wp2_with fail
      refine (none16_lit _ _ I2.out.lay (by rw [size_cat]; show 6 + s.size < _; omega) (five_cat _)).mono ?_
      rintro e w3 ⟨rfl, b3⟩
      have I3 := Lib.hid (I2.out.step b3)
      clear b3 I2
      go_wp2_with fail
      refine (none16_lit _ _ I3.out.lay (by rw [size_cat]; show 16 + s.size < _; omega) (eight_cat _)).mono ?_
      rintro e w4 ⟨rfl, b4⟩
      have I4 := Lib.hid (I3.out.step b4)
      clear b4 I3
      go_wp2_with fail
      refine (none16_lit _ _ I4.out.lay (by decide) (by decide +kernel)).mono ?_
      rintro e w5 ⟨rfl, b5⟩
      have I5 := Lib.hid (I4.out.step b5)
      clear b5 I4
      go_wp2_with fail
      refine (lives10 _ I5.out.lay).mono ?_
      rintro e w6 ⟨rfl, b6⟩
      have HB := Lib.hid (I5.out.step b6).below
      clear b6
      go_wp2_with fail
      go_ret
      exact ⟨rfl, HB.out⟩
end Go.Proofs.YtepoaapadalnoaaDoor
