/- The groups of an address. No condition but that each byte is one. -/
import Derived.Test.YtepoaapadalnoaaDoorWords
import Derived.Laws.Bits64
namespace Go.Proofs.YtepoaapadalnoaaDoor
open Go.RowKit
set_option linter.unusedVariables false
set_option linter.unusedSimpArgs false
structure GInv (B k : Nat) (a : Nat → Nat) (w wr : World) : Prop where
  h1 : wr.heap[B]? = some (.cells (adrCells a) 23 (0, 0))
  h2 : wr.heap[B + 1]? = some (.cells (grpCells fun j => if j < k then grp a j else 0) 41 (0, 0))
  below : Below B w wr
theorem zeroGrp : #[Value.int .u16 0, .int .u16 0, .int .u16 0, .int .u16 0, .int .u16 0, .int .u16 0, .int .u16 0, .int .u16 0] = grpCells fun _ => 0 := by kernel_rfl
theorem grp_or {x y : Nat} (hx : x < 256) (hy : y < 256) : bits .or .u16 (IntKind.u16.wrap (IntKind.u16.wrap (x : Int) * 256)) (IntKind.u16.wrap (y : Int)) = ((256 * x + y : Nat) : Int) := by
  rw [u16_small (by omega), show (x : Int) * 256 = ((256 * x : Nat) : Int) by omega, u16_small (by omega), u16_small (by omega)]
  rw [(bits_nat .u16 16 (by decide) (fun n h0 h1 => by simp [IntKind.wrap, IntKind.signed, IntKind.bits]; omega) (256 * x) y (by omega) (by omega)).2]
  rw [show 256 * x = 2 ^ 8 * x by omega, Nat.two_pow_add_eq_or_of_lt (by omega)]
set_option maxRecDepth 100000 in
set_option maxHeartbeats 1000000 in
theorem groups17 (a : Nat → Nat) (w : World) (ha : ∀ i, i < 16 → a i < 256) :
    Calls Tryd.prog 17 #[.agg (adrCells a)] w fun e w' => e = .returned (.agg (grpCells (grp a))) ∧ Below w.heap.size w w' := by
  have I0 : GInv w.heap.size 0 a w ((w.alloc (.cells (adrCells a) 23)).alloc (.cells (grpCells fun _ => 0) 41)) := by
    refine ⟨?_, ?_, ((Below.refl _ _).alloc (Nat.le_refl _) _).alloc (by simp) _⟩
    · rw [heap_alloc2_old]
    · rw [heap_alloc2_new]; rfl
  rw [← zeroGrp] at I0
  have I := Lib.hid I0
  clear I0
  go_enter Tryd.func17, Tryd.ntmps17
  go_wp2_with fail
  go_loopw [4] (fun i wr => ∃ k : Nat, k ≤ 8 ∧ i = .int .i64 k ∧ GInv w.heap.size k a w wr) (fun i _ => 8 - (intOf i).toNat)
  case atStart => exact ⟨0, by omega, rfl, I.out⟩
  case round =>
    clear I
    obtain ⟨k, hk, rfl, I⟩ := hrel
    by_cases hlt : k < 8
    · have c1 := cell_blk I.h1 (2 * k)
      rw [adrCells_get _ (by omega)] at c1
      have c2 := cell_blk I.h1 (2 * k + 1)
      rw [adrCells_get _ (by omega)] at c2
      have c3 := cell_blk I.h2 k
      rw [grpCells_get _ hlt] at c3
      have hf := frozen_blk I.h2 k
      have o1 : ¬ ((16 : Int) ≤ 2 * k) := by omega
      have o2 : ¬ ((16 : Int) ≤ 2 * k + 1) := by omega
      go_wp2_with fail
      go_region
      have e9 := grp_or (ha (2 * k) (by omega)) (ha (2 * k + 1) (by omega))
      rw [e9]
      have I9 : GInv w.heap.size (k + 1) a w ((wr.setCell ⟨w.heap.size + 1, k, none⟩ (.int .u16 ((256 * a (2 * k) + a (2 * k + 1) : Nat) : Int))).drew) := by
        have t := Turned.setCell I.h2 k (.int .u16 ((256 * a (2 * k) + a (2 * k + 1) : Nat) : Int))
        rw [grpCells_set] at t
        have hB := lt_of_blk I.h2
        refine ⟨t.keep I.h1 (by omega), ?_, I.below.trans (t.drew.below (by omega))⟩
        rw [show (fun j => if j < k + 1 then grp a j else 0) = (fun j => if j = k then 256 * a (2 * k) + a (2 * k + 1) else if j < k then grp a j else 0) from ?_]
        · exact t.get hB
        · funext i
          by_cases h1 : i = k
          · subst h1; simp [grp]
          · by_cases h2 : i < k
            · rw [if_pos (by omega), if_neg h1, if_pos h2]
            · rw [if_neg (by omega), if_neg h1, if_neg h2]
      have I := Lib.hid I9
      clear I9 c1 c2 c3 hf o1 o2 e9
      go_wp2_with fail
      go_roundw
      case rel => exact ⟨k + 1, by omega, by go_num, I.out⟩
      case measure => simp [intOf]; omega
    · obtain rfl : k = 8 := by omega
      have g2 := I.h2
      rw [show grpCells (fun j => if j < 8 then grp a j else 0) = grpCells (grp a) from by
        unfold grpCells grpL
        rw [rowL_congr .u16 (n := 8) (g := grp a) (fun i hi => if_pos hi)]] at g2
      have G2 := Lib.hid g2
      have B2 := Lib.hid I.below
      clear g2 I
      have hsz : (Tryd.prog.info? 41).map (·.size) = some (grpCells (grp a)).size := by rw [grpCells_size]; kernel_rfl
      have HS := Lib.hid hsz; clear hsz
      go_wp2_with (first | (refine wpList_load_row rfl 41 _ rfl (w.heap.size + 1) rfl 41 _ (0, 0) _ G2.out Tryd.underlying41 rfl HS.out ?_) | (refine wpList_store_row rfl 41 _ _ rfl (w.heap.size + 1) (grpCells (grp a)) rfl rfl 41 _ G2.out HS.out ?hold (cells_one _ _ _) ?_))
      case hold => first | exact Eq.trans (grpCells_size _) (by kernel_rfl) | exact Eq.trans (by kernel_rfl) (grpCells_size _).symm
      have t := Turned.setRow G2.out (grpCells (grp a))
      have hlast := t.get (lt_of_blk G2.out)
      have hB := B2.out.trans (t.below (by omega))
      refine bodyPost_ret (results_cell_row rfl _ _ (w.heap.size + 1) 41 _ (0, 0) _ rfl hlast Tryd.underlying41 rfl HS.out) rfl ⟨rfl, hB⟩
end Go.Proofs.YtepoaapadalnoaaDoor
