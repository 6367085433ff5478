/- The longest run of groups. No condition. -/
import Derived.Test.YtepoaapadalnoaaDoorPutA
import Derived.WalkMore
namespace Go.Proofs.YtepoaapadalnoaaDoor
open Go.RowKit
set_option linter.unusedVariables false
set_option linter.unusedSimpArgs false
structure LongInv (B : Nat) (g : Nat → Nat) (w wr : World) : Prop where
  h1 : wr.heap[B]? = some (.cells (grpCells g) 41 (0, 0))
  below : Below B w wr
theorem longTo_le (z : Nat → Bool) : ∀ n, n ≤ 8 → (longTo z n).1 ≤ (longTo z n).2 ∧ (longTo z n).2 ≤ 8
  | 0, _ => ⟨Nat.le_refl _, Nat.zero_le _⟩
  | n + 1, h => by
    have ih := longTo_le z n (by omega)
    have hb : ∀ f e, e + f ≤ 8 → e ≤ endFrom z e f ∧ endFrom z e f ≤ 8 := by
      intro f
      induction f with
      | zero => intro e h; exact ⟨Nat.le_refl _, h⟩
      | succ f i2 =>
        intro e h
        unfold endFrom
        split
        · have := i2 (e + 1) (by omega); omega
        · omega
    have h2 := hb (8 - n) n (by omega)
    unfold longTo longStep
    split
    · split
      · exact h2
      · exact ih
    · exact ih
theorem endFrom_le (z : Nat → Bool) : ∀ f e, e + f ≤ 8 → e ≤ endFrom z e f ∧ endFrom z e f ≤ 8 := by
  intro f
  induction f with
  | zero => intro e h; exact ⟨Nat.le_refl _, h⟩
  | succ f i2 =>
    intro e h
    unfold endFrom
    split
    · have := i2 (e + 1) (by omega); omega
    · omega
set_option maxRecDepth 100000 in
set_option maxHeartbeats 1000000 in
theorem longest18 (g : Nat → Nat) (w : World) :
    Calls Tryd.prog 18 #[.agg (grpCells g)] w fun e w' => e = .returned (.tuple #[.int .i64 ((longP fun i => g i == 0).1 : Nat), .int .i64 ((longP fun i => g i == 0).2 : Nat)]) ∧ Below w.heap.size w w' := by
  have I := Lib.hid (show LongInv w.heap.size g w (w.alloc (.cells (grpCells g) 41)) from ⟨heap_alloc_new _ _, (Below.refl _ _).alloc (Nat.le_refl _) _⟩)
  go_enter Tryd.func18, Tryd.ntmps18
  go_wp2_with fail
  go_step3
  go_wp2_with fail
  go_step3
  go_wp2_with fail
  go_loopw [2, 3, 6] (fun fr to i wr => ∃ k : Nat, k ≤ 8 ∧ i = .int .i64 k ∧ fr = .int .i64 ((longTo (fun i => g i == 0) k).1 : Nat) ∧ to = .int .i64 ((longTo (fun i => g i == 0) k).2 : Nat) ∧ LongInv w.heap.size g w wr) (fun _ _ i _ => 8 - (intOf i).toNat)
  case atStart => exact ⟨0, by omega, rfl, rfl, rfl, I.out⟩
  case round =>
    clear I
    obtain ⟨k, hk, rfl, rfl, rfl, I⟩ := hrel
    by_cases hlt : k < 8
    · have c1 := cell_blk I.h1 k
      rw [grpCells_get _ hlt] at c1
      have HI := Lib.hid I
      clear I
      by_cases hz : g k = 0
      · have t1 : ((g k : Int) == 0) = true := by simp [hz]
        have t2 : ((g k : Int) != 0) = false := by simp [hz]
        go_wp2_with fail
        have hzk : (fun i => g i == 0) k = true := by simp [hz]
        have hle := longTo_le (fun i => g i == 0) k hk
        have hst : longTo (fun i => g i == 0) (k + 1) = longStep (fun i => g i == 0) (longTo (fun i => g i == 0) k) k := rfl
        generalize longTo (fun i => g i == 0) k = p at *
        clear c1 t1 t2
        go_loopw [5] (fun e wr => ∃ e' : Nat, k ≤ e' ∧ e' ≤ 8 ∧ e = .int .i64 e' ∧ endFrom (fun i => g i == 0) k (8 - k) = endFrom (fun i => g i == 0) e' (8 - e') ∧ LongInv w.heap.size g w wr) (fun e _ => 8 - (intOf e).toNat)
        case atStart => exact ⟨k, by omega, by omega, rfl, rfl, HI.out⟩
        case round =>
          clear HI
          obtain ⟨e, hke, he8, rfl, hend, I⟩ := hrel
          have HI := Lib.hid I
          have fin : endFrom (fun i => g i == 0) k (8 - k) = e → ∀ (p' : Nat × Nat), (p' = if max 1 (p.2 - p.1) < e - k then (k, e) else p) → longTo (fun i => g i == 0) (k + 1) = p' := fun h1 p' h2 => by
            rw [hst, h2]; unfold longStep; rw [if_pos hzk, h1]
          by_cases he : e < 8
          · have c1 := cell_blk I.h1 e
            rw [grpCells_get _ he] at c1
            clear I
            have o1 : ¬ ((8 : Int) ≤ e) := by omega
            by_cases hze : g e = 0
            · have t1 : ((g e : Int) == 0) = true := by simp [hze]
              have hend2 : endFrom (fun i => g i == 0) k (8 - k) = endFrom (fun i => g i == 0) (e + 1) (8 - (e + 1)) := by
                rw [hend, show 8 - e = (8 - (e + 1)) + 1 from by omega, endFrom, if_pos (by simp [hze])]
              have HE := Lib.hid hend2
              clear fin hst hend hend2
              go_wp2_with fail
              go_roundw
              case rel => exact ⟨e + 1, by omega, by omega, by go_num, HE.out, HI.out⟩
              case measure => simp [intOf]; omega
            · have t1 : ((g e : Int) == 0) = false := by simp; omega
              have hE : endFrom (fun i => g i == 0) k (8 - k) = e := by
                rw [hend, show 8 - e = (8 - (e + 1)) + 1 from by omega, endFrom, if_neg (by simp [hze])]
              have fin := fin hE
              clear hst hend
              by_cases hm : max 1 (p.2 - p.1) < e - k
              · have t3 : decide (max (1 : Int) ((p.2 : Int) - p.1) < (e : Int) - k) = true := by simp; omega
                have F := Lib.hid (fin (k, e) (by rw [if_pos hm]))
                clear fin
                go_wp2_with fail
                refine ⟨⟨k + 1, by omega, by go_num, by rw [F.out], by rw [F.out], HI.out⟩, ?_⟩
                simp [intOf]; omega
              · have t3 : decide (max (1 : Int) ((p.2 : Int) - p.1) < (e : Int) - k) = false := by simp; omega
                have F := Lib.hid (fin p (by rw [if_neg hm]))
                clear fin
                go_wp2_with fail
                refine ⟨⟨k + 1, by omega, by go_num, by rw [F.out], by rw [F.out], HI.out⟩, ?_⟩
                simp [intOf]; omega
          · obtain rfl : e = 8 := by omega
            have hE : endFrom (fun i => g i == 0) k (8 - k) = 8 := by rw [hend]; rfl
            have fin := fin hE
            clear hst hend I
            by_cases hm : max 1 (p.2 - p.1) < 8 - k
            · have t3 : decide (max (1 : Int) ((p.2 : Int) - p.1) < (8 : Int) - k) = true := by simp; omega
              have t4 : decide (max (1 : Int) ((p.2 : Int) - p.1) < ((8 : Nat) : Int) - k) = true := by simp; omega
              have F := Lib.hid (fin (k, 8) (by rw [if_pos hm]))
              clear fin
              go_wp2_with fail
              refine ⟨⟨k + 1, by omega, by go_num, by rw [F.out], by rw [F.out], HI.out⟩, ?_⟩
              simp [intOf]; omega
            · have t3 : decide (max (1 : Int) ((p.2 : Int) - p.1) < (8 : Int) - k) = false := by simp; omega
              have t4 : decide (max (1 : Int) ((p.2 : Int) - p.1) < ((8 : Nat) : Int) - k) = false := by simp; omega
              have F := Lib.hid (fin p (by rw [if_neg hm]))
              clear fin
              go_wp2_with fail
              refine ⟨⟨k + 1, by omega, by go_num, by rw [F.out], by rw [F.out], HI.out⟩, ?_⟩
              simp [intOf]; omega
      · have t1 : ((g k : Int) == 0) = false := by simp; omega
        have t2 : ((g k : Int) != 0) = true := by simp; omega
        have hst : longTo (fun i => g i == 0) (k + 1) = longTo (fun i => g i == 0) k := by
          show longStep _ _ _ = _
          unfold longStep; rw [if_neg (by simp [hz])]
        go_wp2_with fail
        refine ⟨⟨k + 1, by omega, by go_num, by rw [hst], by rw [hst], HI.out⟩, ?_⟩
        simp [intOf]; omega
    · obtain rfl : k = 8 := by omega
      have HI := Lib.hid I
      clear I
      go_wp2_with fail
      rw [Exit.noGoto_ret]
      go_ret2
      exact ⟨rfl, HI.out.below⟩
end Go.Proofs.YtepoaapadalnoaaDoor
