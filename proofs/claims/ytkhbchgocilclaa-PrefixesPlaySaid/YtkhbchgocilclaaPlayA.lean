/- The document's Link and Bit. No condition but that the numbers fit. -/
import Derived.Test.YtkhbchgocilclaaHoldEq
import Derived.Outline
import Derived.Deep.RegionHeld3
namespace Go.Proofs.Ytkhbchgocilclaa
open Go.RowKit
set_option linter.unusedVariables false
set_option linter.unusedSimpArgs false
theorem link30 (a : Nat → Nat) (w : World) (ha : ∀ i, i < 16 → a i < 256) : Calls Try.prog 30 #[.agg (adrCells a)] w fun e w' => e = .returned (.bool (linkB a)) ∧ Below w.heap.size w w' := by
  have h := heap_alloc_new w (.cells (adrCells a) 23)
  have c0 := cell_blk h 0
  have c1 := cell_blk h 1
  have b0 := ha 0 (by omega)
  have b1 := ha 1 (by omega)
  rw [adrCells_get a (by omega)] at c0 c1
  clear ha h
  by_cases h0 : a 0 = 254
  · have t0 : ((a 0 : Int) == 254) = true := by simp [h0]
    by_cases h1 : 128 ≤ a 1
    · have t1 : decide ((128 : Int) ≤ a 1) = true := by simp; omega
      by_cases h2 : a 1 < 192
      · have t2 : decide ((a 1 : Int) < 192) = true := by simp; omega
        have e : linkB a = true := by unfold linkB; rw [Bool.and_eq_true]; exact ⟨by simp [h0], by simp; omega⟩
        rw [e]; clear e h0
        go_enter Try.func30, Try.ntmps30
        go_wp2_with fail
        go_ret
        exact ⟨rfl, (Below.refl _ _).alloc (Nat.le_refl _) _⟩
      · have t2 : decide ((a 1 : Int) < 192) = false := by simp; omega
        have e : linkB a = false := by unfold linkB; rw [show (a 1 / 64 == 2) = false from by simp; omega, Bool.and_false]
        rw [e]; clear e h0
        go_enter Try.func30, Try.ntmps30
        go_wp2_with fail
        go_ret
        exact ⟨rfl, (Below.refl _ _).alloc (Nat.le_refl _) _⟩
    · have t1 : decide ((128 : Int) ≤ a 1) = false := by simp; omega
      have e : linkB a = false := by unfold linkB; rw [show (a 1 / 64 == 2) = false from by simp; omega, Bool.and_false]
      rw [e]; clear e h0
      go_enter Try.func30, Try.ntmps30
      go_wp2_with fail
      go_ret
      exact ⟨rfl, (Below.refl _ _).alloc (Nat.le_refl _) _⟩
  · have t0 : ((a 0 : Int) == 254) = false := by simp; omega
    have e : linkB a = false := by unfold linkB; simp [h0]
    rw [e]
    clear e h0
    go_enter Try.func30, Try.ntmps30
    go_wp2_with fail
    go_ret
    exact ⟨rfl, (Below.refl _ _).alloc (Nat.le_refl _) _⟩
theorem bit_and : ∀ x : Fin 256, ∀ j : Fin 8, bits .and .u8 ((x.val : Int) / 2 ^ j.val) 1 = (x.val / 2 ^ j.val % 2 : Nat) := by decide +kernel
def bitA (a : Nat → Nat) (i : Nat) : Nat := a (i / 8) / 2 ^ (7 - i % 8) % 2
theorem bit42 (a : Nat → Nat) (i : Nat) (w : World) (ha : ∀ i, i < 16 → a i < 256) (hi : i < 128) : Calls Try.prog 42 #[.agg (adrCells a), .int .i64 (i : Int)] w fun e w' => e = .returned (.int .u8 (bitA a i : Int)) ∧ Below w.heap.size w w' := by
  have h := heap_alloc_new w (.cells (adrCells a) 23)
  have c0 := cell_blk h (i / 8)
  rw [adrCells_get a (by omega)] at c0
  have b0 := ha (i / 8) (by omega)
  clear ha h
  go_enter Try.func42, Try.ntmps42
  go_wp2_with fail
  go_ret
  have e := bit_and ⟨a (i / 8), b0⟩ ⟨7 - i % 8, by omega⟩
  exact ⟨by show Ending.returned (Value.int .u8 (bits .and .u8 ((a (i / 8) : Int) / 2 ^ (7 - i % 8)) 1)) = _; rw [e]; rfl, (Below.refl _ _).alloc (Nat.le_refl _) _⟩
def withinR (a p : Nat → Nat) (n : Nat) : Bool := decide (∀ i, i < min n 128 → bitA a i = bitA p i)
structure WInv (B k n : Nat) (a p : Nat → Nat) (w wr : World) : Prop where
  h1 : wr.heap[B]? = some (.cells (adrCells a) 23 (0, 0))
  h2 : wr.heap[B + 1]? = some (.cells (preCells p n) 25 (0, 0))
  below : Below B w wr
  so : ∀ i, i < k → bitA a i = bitA p i
theorem WInv.step {B k n : Nat} {a p : Nat → Nat} {w wr w2 : World} (h : WInv B k n a p w wr) (b : Below wr.heap.size wr w2) : WInv B k n a p w w2 :=
  ⟨(b.block _ (lt_of_blk h.h1)).trans h.h1, (b.block _ (lt_of_blk h.h2)).trans h.h2, h.below.trans (b.mono (by have := lt_of_blk h.h1; omega)), h.so⟩
set_option maxRecDepth 100000 in
set_option maxHeartbeats 2000000 in
theorem within36 (a p : Nat → Nat) (n : Nat) (w : World) (ha : ∀ i, i < 16 → a i < 256) (hp : ∀ i, i < 16 → p i < 256) (hn : n < 256) :
    Calls Try.prog 36 #[.agg (adrCells a), .agg (preCells p n)] w fun e w' => e = .returned (.bool (withinR a p n)) ∧ Below w.heap.size w w' := by
  have I0 : WInv w.heap.size 0 n a p w ((w.alloc (.cells (adrCells a) 23)).alloc (.cells (preCells p n) 25)) :=
    ⟨heap_alloc2_old _ _ _, heap_alloc2_new _ _ _, ((Below.refl _ _).alloc (Nat.le_refl _) _).alloc (by simp) _, fun i hi => by omega⟩
  have I := Lib.hid I0
  have HA := Lib.hid ha; have HP := Lib.hid hp
  clear I0 ha hp
  go_enter Try.func36, Try.ntmps36
  go_wp2_with fail
  obtain ⟨B, hB⟩ : ∃ B, B = w.heap.size := ⟨_, rfl⟩
  rw [← hB] at I ⊢
  have NB := Lib.hid hB; clear hB
  go_loopw [5] (fun i wr => ∃ k : Nat, k ≤ 128 ∧ k ≤ n ∧ i = .int .i64 k ∧ WInv B k n a p w wr) (fun i _ => 128 - (intOf i).toNat)
  case atStart => exact ⟨0, by omega, by omega, rfl, I.out⟩
  case round =>
    clear I
    obtain ⟨k, hk, hkn, rfl, I⟩ := hrel
    have cn : wr.cell? ⟨B + 1, 16, none⟩ = some (.int .u8 (n : Int)) := by rw [cell_blk I.h2]; exact preCells_last _ _
    have HI := Lib.hid I
    clear I
    by_cases h1 : k < n
    · have t1 : decide ((k : Int) < n) = true := by simp; omega
      by_cases hk2 : k < 128
      · have HNE := Lib.hid (show ((bitA a k : Int) != bitA p k) = !decide (bitA a k = bitA p k) from by rw [Bool.eq_iff_iff]; simp; omega)
        go_wp2_with fail
        refine wp_region_held_drew (S := fun w' => WInv B k n a p w w') (by kernel_rfl) (HI.out.step (Below.refl _ _).drew) ?_
        intro HS
        refine wpAnyH_take (i := 0) (v := .agg (adrL a).toArray) rfl (by kernel_rfl) (by kernel_rfl) (by kernel_rfl) (fun _ _ _ h => h) (by refine yieldsIf_load_mid ?_ 23 (.tmp 2) rfl B 0 ?_ (adrL a) _ (fun W hW => range_adr hW.h1) Try.underlying23 rfl (info23 _); (go_simp); (go_simp)) HS ?_
        try simp only [List.getElem_toArray, List.getElem_cons_zero, List.getElem_cons_succ, Act.put, List.setIfInBounds_toArray, List.set_cons_zero, List.set_cons_succ]
        refine wpAnyH_take (i := 1) (v := .int .i64 (k : Int)) rfl (by kernel_rfl) (by kernel_rfl) (by kernel_rfl) (fun _ _ _ h => h) (Or.inl ⟨by rfl, fun W hW => by go_simp⟩) HS ?_
        try simp only [List.getElem_toArray, List.getElem_cons_zero, List.getElem_cons_succ, Act.put, List.setIfInBounds_toArray, List.set_cons_zero, List.set_cons_succ]
        refine wpAnyH_take (i := 3) (v := .pointer (some ⟨B + 1, 0, none⟩)) rfl (by kernel_rfl) (by kernel_rfl) (by kernel_rfl) (fun _ _ _ h => h) (Or.inl ⟨by rfl, fun W hW => by go_simp⟩) HS ?_
        try simp only [List.getElem_toArray, List.getElem_cons_zero, List.getElem_cons_succ, Act.put, List.setIfInBounds_toArray, List.set_cons_zero, List.set_cons_succ]
        refine wpAnyH_take (i := 4) (v := .agg (adrL p).toArray) rfl (by kernel_rfl) (by kernel_rfl) (by kernel_rfl) (fun _ _ _ h => h) (by refine yieldsIf_load_mid ?_ 23 (.tmp 20) rfl (B + 1) 0 ?_ (adrL p) _ (fun W hW => range_pre hW.h2) Try.underlying23 rfl (info23 _); (go_simp); (go_simp)) HS ?_
        try simp only [List.getElem_toArray, List.getElem_cons_zero, List.getElem_cons_succ, Act.put, List.setIfInBounds_toArray, List.set_cons_zero, List.set_cons_succ]
        refine wpAnyH_take (i := 5) (v := .int .i64 (k : Int)) rfl (by kernel_rfl) (by kernel_rfl) (by kernel_rfl) (fun _ _ _ h => h) (Or.inl ⟨by rfl, fun W hW => by go_simp⟩) HS ?_
        try simp only [List.getElem_toArray, List.getElem_cons_zero, List.getElem_cons_succ, Act.put, List.setIfInBounds_toArray, List.set_cons_zero, List.set_cons_succ]
        refine wpAnyH_ready (rs := [2]) (by kernel_rfl) (by simp) ?_
        refine AllReadyH.cons rfl (fun K hK => ?_) AllReadyH.nil
        rw [if_pos (by kernel_rfl)]
        simp only [List.getElem_toArray, List.getElem_cons_zero, List.getElem_cons_succ]
        go_simp
        refine (bit42 a k _ HA.out hk2).mono ?_
        rintro e w7 ⟨rfl, b7⟩
        refine hK.out _ _ (HS.step b7) (fun HS => ?_)
        clear hK b7
        try simp only [List.getElem_toArray, List.getElem_cons_zero, List.getElem_cons_succ, Act.put, List.setIfInBounds_toArray, List.set_cons_zero, List.set_cons_succ]
        refine wpAnyH_ready (rs := [6]) (by kernel_rfl) (by simp) ?_
        refine AllReadyH.cons rfl (fun K hK => ?_) AllReadyH.nil
        rw [if_pos (by kernel_rfl)]
        simp only [List.getElem_toArray, List.getElem_cons_zero, List.getElem_cons_succ]
        go_simp
        refine (bit42 p k _ HP.out hk2).mono ?_
        rintro e w8 ⟨rfl, b8⟩
        refine hK.out _ _ (HS.step b8) (fun HS => ?_)
        clear hK b8
        try simp only [List.getElem_toArray, List.getElem_cons_zero, List.getElem_cons_succ, Act.put, List.setIfInBounds_toArray, List.set_cons_zero, List.set_cons_succ]
        refine wpAnyH_take (i := 7) (v := .bool (!decide (bitA a k = bitA p k))) rfl (by kernel_rfl) (by kernel_rfl) (by kernel_rfl) (fun _ _ _ h => h) (Or.inl ⟨by rfl, fun W hW => by have := HNE.out; go_simp; try exact this⟩) HS ?_
        try simp only [List.getElem_toArray, List.getElem_cons_zero, List.getElem_cons_succ, Act.put, List.setIfInBounds_toArray, List.set_cons_zero, List.set_cons_succ]
        refine wpAnyH_done (by kernel_rfl) ?_ _
        have HW := Lib.hid HS; clear HS HI cn
        by_cases he : bitA a k = bitA p k
        · have HE := Lib.hid he
          rw [decide_eq_true he]
          clear he HNE
          go_wp2_with fail
          go_roundw
          case rel => exact ⟨k + 1, by omega, by omega, by go_num, HW.out.h1, HW.out.h2, HW.out.below, fun i hi => by
            by_cases e : i = k
            · rw [e]; exact HE.out
            · exact HW.out.so i (by omega)⟩
          case measure => simp [intOf]; omega
        · have e : withinR a p n = false := by
            unfold withinR
            exact decide_eq_false fun h => he (h k (by omega))
          rw [decide_eq_false he]
          have HE := Lib.hid e
          clear he HNE e
          go_wp2_with fail
          go_ret
          exact ⟨by rw [HE.out]; rfl, by rw [← NB.out]; exact HW.out.below⟩
      · obtain rfl : k = 128 := by omega
        have e : withinR a p n = true := by unfold withinR; exact decide_eq_true fun i hi => HI.out.so i (by omega)
        have HE := Lib.hid e
        clear e
        go_wp2_with fail
        go_ret
        exact ⟨by rw [HE.out]; rfl, by rw [← NB.out]; exact HI.out.below⟩
    · obtain rfl : k = n := by omega
      have t1 : decide ((k : Int) < k) = false := by simp
      have e : withinR a p k = true := by unfold withinR; exact decide_eq_true fun i hi => HI.out.so i (by omega)
      have HE := Lib.hid e
      clear e
      go_wp2_with fail
      go_ret
      exact ⟨by rw [HE.out]; rfl, by rw [← NB.out]; exact HI.out.below⟩
end Go.Proofs.Ytkhbchgocilclaa
