/- The document's Masked. No condition but that the numbers fit. -/
import Derived.Test.YtkhbchgocilclaaPlayA
namespace Go.Proofs.Ytkhbchgocilclaa
open Go.RowKit
set_option linter.unusedVariables false
set_option linter.unusedSimpArgs false
/-- an address whose bits from n on, ahead of k, are noughts -/
def clr (a : Nat → Nat) (n k : Nat) : Nat → Nat := fun b => top (a b) (own n b) + a b % 2 ^ (8 - own k b)
theorem clr_step : ∀ x : Fin 256, ∀ j : Fin 8, ∀ o : Fin 9, o.val ≤ j.val → bits .andNot .u8 ((x.val / 2 ^ (8 - o.val) * 2 ^ (8 - o.val) + x.val % 2 ^ (8 - j.val) : Nat) : Int) (2 ^ (7 - j.val) % 256) = (x.val / 2 ^ (8 - o.val) * 2 ^ (8 - o.val) + x.val % 2 ^ (8 - (j.val + 1)) : Nat) := by decide +kernel
theorem clr_start {a : Nat → Nat} (ha : ∀ i, i < 16 → a i < 256) (n : Nat) : ∀ i, i < 16 → clr a n n i = a i := fun i hi => by
  unfold clr top
  exact Nat.div_add_mod' _ _
theorem clr_end (a : Nat → Nat) (n : Nat) : ∀ i, i < 16 → clr a n 128 i = masked a n i := fun i hi => by
  unfold clr masked
  rw [show own 128 i = 8 from by unfold own; omega]
  simp [Nat.mod_one]
structure CInv (B k n : Nat) (a : Nat → Nat) (w wr : World) : Prop where
  h1 : wr.heap[B]? = some (.cells (adrCells (clr a n k)) 23 (0, 0))
  h2 : wr.heap[B + 1]? = some (.cells zeroCells 23 (0, 0))
  below : Below B w wr
set_option maxRecDepth 100000 in
set_option maxHeartbeats 2000000 in
theorem masked31 (a : Nat → Nat) (n : Nat) (w : World) (ha : ∀ i, i < 16 → a i < 256) (hn : n ≤ 128) :
    Calls Try.prog 31 #[.agg (adrCells a), .int .i64 (n : Int)] w fun e w' => e = .returned (.agg (adrCells (masked a n))) ∧ Below w.heap.size w w' := by
  have I0 : CInv w.heap.size n n a w ((w.alloc (.cells (adrCells a) 23)).alloc (.cells zeroCells 23)) := by
    refine ⟨?_, ?_, ((Below.refl _ _).alloc (Nat.le_refl _) _).alloc (by simp) _⟩
    · rw [heap_alloc2_old, adrCells_congr (clr_start ha n)]
    · rw [heap_alloc2_new]
  rw [zeroCells_eq] at I0
  have I := Lib.hid I0
  clear I0
  go_enter Try.func31, Try.ntmps31
  go_wp2_with fail
  obtain ⟨B, hB⟩ : ∃ B, B = w.heap.size := ⟨_, rfl⟩
  rw [← hB] at I ⊢
  have NB := Lib.hid hB; clear hB
  go_loopw [5] (fun i wr => ∃ k : Nat, n ≤ k ∧ k ≤ 128 ∧ i = .int .i64 k ∧ CInv B k n a w wr) (fun i _ => 128 - (intOf i).toNat)
  case atStart => exact ⟨n, by omega, hn, rfl, I.out⟩
  case round =>
    clear I
    obtain ⟨k, hnk, hk, rfl, I⟩ := hrel
    by_cases hlt : k < 128
    · have hc := cell_blk I.h1 (k / 8)
      rw [adrCells_get _ (show k / 8 < 16 by omega)] at hc
      have hf := frozen_blk I.h1 (k / 8)
      have hI := Lib.hid I
      have hak := ha (k / 8) (by omega)
      have ho : own n (k / 8) ≤ k % 8 := by unfold own; omega
      have hj : own k (k / 8) = k % 8 := by unfold own; omega
      have he := clr_step ⟨a (k / 8), hak⟩ ⟨k % 8, by omega⟩ ⟨own n (k / 8), by have := own_le n (k / 8); omega⟩ ho
      have e0 : clr a n k (k / 8) = a (k / 8) / 2 ^ (8 - own n (k / 8)) * 2 ^ (8 - own n (k / 8)) + a (k / 8) % 2 ^ (8 - k % 8) := by unfold clr top; rw [hj]
      have e1 : clr a n (k + 1) (k / 8) = a (k / 8) / 2 ^ (8 - own n (k / 8)) * 2 ^ (8 - own n (k / 8)) + a (k / 8) % 2 ^ (8 - (k % 8 + 1)) := by
        unfold clr top
        rw [show own (k + 1) (k / 8) = k % 8 + 1 from by unfold own; omega]
      have e2 : bits .andNot .u8 (clr a n k (k / 8) : Int) (2 ^ (7 - k % 8) % 256) = (clr a n (k + 1) (k / 8) : Int) := by rw [e0, e1]; exact he
      have e3 : ∀ i, i < 16 → (fun i => if i = k / 8 then clr a n (k + 1) (k / 8) else clr a n k i) i = clr a n (k + 1) i := fun i hi => by
        show (if i = k / 8 then _ else _) = _
        split
        · rename_i e; rw [e]
        · rename_i e
          unfold clr
          by_cases h2 : i < k / 8
          · rw [show own k i = 8 from by unfold own; omega, show own (k + 1) i = 8 from by unfold own; omega]
          · rw [show own k i = 0 from by unfold own; omega, show own (k + 1) i = 0 from by unfold own; omega]
      have HE2 := Lib.hid e2; have HE3 := Lib.hid e3
      clear hak ho hj he e0 e1 e2 e3 I
      generalize clr a n k (k / 8) = x at *
      go_wp2_with fail
      go_region
      rw [HE2.out]
      have I9 : CInv B (k + 1) n a w ((wr.setCell ⟨B, k / 8, none⟩ (.int .u8 (clr a n (k + 1) (k / 8) : Nat))).drew) := by
        have t := Turned.setCell hI.out.h1 (k / 8) (.int .u8 (clr a n (k + 1) (k / 8) : Nat))
        rw [adrCells_set _ _ _ (show k / 8 < 16 by omega), adrCells_congr HE3.out] at t
        exact ⟨t.get (lt_of_blk hI.out.h1), t.keep hI.out.h2 (by omega), hI.out.below.trans (t.drew.below (Nat.le_refl _))⟩
      have HI9 := Lib.hid I9
      clear hI hc hf I9
      go_wp2_with fail
      go_roundw
      case rel => exact ⟨k + 1, by omega, by omega, by go_num, HI9.out⟩
      case measure => simp [intOf]; omega
    · obtain rfl : k = 128 := by omega
      have g1 := I.h1
      rw [adrCells_congr (clr_end a n)] at g1
      have g2 := I.h2
      have hsz : (Try.prog.info? 23).map (·.size) = some (adrCells (masked a n)).size := by rw [adrCells_size]; kernel_rfl
      have G1 := Lib.hid g1; have G2 := Lib.hid g2; have GB := Lib.hid I.below
      clear g1 g2 I
      have HS := Lib.hid hsz; clear hsz
      go_wp2_with (first | (refine wpList_load_row rfl 23 _ rfl B rfl 23 _ (0, 0) _ G1.out Try.underlying23 rfl HS.out ?_) | (refine wpList_store_row rfl 23 _ _ rfl (B + 1) (adrCells (masked a n)) rfl rfl 23 _ G2.out HS.out ?hold (adrCells_one _) ?_))
      case hold => rw [adrCells_size]; kernel_rfl
      have t := Turned.setRow G2.out (adrCells (masked a n))
      have hlast := t.get (lt_of_blk G2.out)
      have hB := GB.out.trans (t.below (by omega))
      rw [← NB.out]
      refine bodyPost_ret (results_cell_row rfl _ _ (B + 1) 23 _ (0, 0) _ rfl hlast Try.underlying23 rfl HS.out) rfl ⟨rfl, hB⟩
end Go.Proofs.Ytkhbchgocilclaa
