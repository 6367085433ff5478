/- The law on the text of an address: the walk. No condition. -/
import Derived.Test.YtepoaapadalnoaaDoorLives
namespace Go.Proofs.YtepoaapadalnoaaDoor
open Go.RowKit
set_option linter.unusedVariables false
set_option linter.unusedSimpArgs false
/-- an address in its block -/
structure PS (B : Nat) (a : Nat → Nat) (w W : World) : Prop where
  lay : Lay07 W
  h : W.heap[B]? = some (.cells (adrCells a) 23 (0, 0))
  below : Below B w W
theorem PS.step {B : Nat} {a : Nat → Nat} {w wr w2 : World} (I : PS B a w wr) (hb : Below wr.heap.size wr w2) : PS B a w w2 :=
  ⟨I.lay.step hb, (hb.block _ (lt_of_blk I.h)).trans I.h, I.below.trans (hb.mono (Nat.le_of_lt (lt_of_blk I.h)))⟩
set_option maxRecDepth 100000 in
set_option maxHeartbeats 1000000 in
theorem textsPut_walk (a : Nat → Nat) (ha : ∀ i, i < 16 → a i < 256) (w : World) (L : Lay07 w) : Calls Tryd.prog 3 #[.agg (adrCells a)] w fun e w' => e = .returned (.bool true) ∧ Below w.heap.size w w' := by
  have B0 : Below w.heap.size w (w.alloc (.cells (adrCells a) 23)) := (Below.refl _ _).alloc (Nat.le_refl _) _
  have I := Lib.hid (show PS w.heap.size a w (w.alloc (.cells (adrCells a) 23)) from ⟨L.step B0, heap_alloc_new _ _, B0⟩)
  clear L B0
  go_enter Tryd.func3, Tryd.ntmps3
  go_wp2_with fail
  obtain ⟨B, hB⟩ : ∃ B, B = w.heap.size := ⟨_, rfl⟩
  rw [← hB] at I ⊢
  have NB := Lib.hid hB; clear hB
  have hS := I.out.step (Below.refl _ _).drew
  clear I
  refine wp_region_held_drew (S := fun W => PS B a w W) (by kernel_rfl) hS ?_
  clear hS
  intro HS
  refine wpAnyH_take (i := 0) (v := .agg (adrL a).toArray) rfl (by kernel_rfl) (by kernel_rfl) (by kernel_rfl) (fun _ _ _ h => h) (by refine yieldsIf_load_mid ?_ 23 (.tmp 1) rfl B 0 ?_ (adrL a) _ (fun W hW => range_row hW.h) Tryd.underlying23 rfl (info23 _); (go_simp); (go_simp)) HS ?_
  try simp only [List.getElem_toArray, List.getElem_cons_zero, List.getElem_cons_succ, Act.put, List.setIfInBounds_toArray, List.set_cons_zero, List.set_cons_succ]
  refine wpAnyH_take (i := 2) (v := .agg (adrL a).toArray) rfl (by kernel_rfl) (by kernel_rfl) (by kernel_rfl) (fun _ _ _ h => h) (by refine yieldsIf_load_mid ?_ 23 (.tmp 1) rfl B 0 ?_ (adrL a) _ (fun W hW => range_row hW.h) Tryd.underlying23 rfl (info23 _); (go_simp); (go_simp)) HS ?_
  try simp only [List.getElem_toArray, List.getElem_cons_zero, List.getElem_cons_succ, Act.put, List.setIfInBounds_toArray, List.set_cons_zero, List.set_cons_succ]
  refine wpAnyH_ready (rs := [1]) (by kernel_rfl) (by simp) ?_
  refine AllReadyH.cons rfl (fun K hK => ?_) AllReadyH.nil
  rw [if_pos (by kernel_rfl)]
  simp only [List.getElem_toArray, List.getElem_cons_zero, List.getElem_cons_succ]
  go_simp
  refine (put8 a _ HS.lay ha).mono ?_
  rintro e w5 ⟨rfl, I9⟩
  refine hK.out _ _ (HS.step I9) (fun HS => ?_)
  clear hK I9
  try simp only [List.getElem_toArray, List.getElem_cons_zero, List.getElem_cons_succ, Act.put, List.setIfInBounds_toArray, List.set_cons_zero, List.set_cons_succ]
  refine wpAnyH_ready (rs := [3]) (by kernel_rfl) (by simp) ?_
  refine AllReadyH.cons rfl (fun K hK => ?_) AllReadyH.nil
  rw [if_pos (by kernel_rfl)]
  simp only [List.getElem_toArray, List.getElem_cons_zero, List.getElem_cons_succ]
  go_simp
  refine (put9 a _ ha).mono ?_
  rintro e w6 ⟨rfl, I9⟩
  refine hK.out _ _ (HS.step I9) (fun HS => ?_)
  clear hK I9
  try simp only [List.getElem_toArray, List.getElem_cons_zero, List.getElem_cons_succ, Act.put, List.setIfInBounds_toArray, List.set_cons_zero, List.set_cons_succ]
  refine wpAnyH_take (i := 4) (v := .bool true) rfl (by kernel_rfl) (by kernel_rfl) (by kernel_rfl) (fun _ _ _ h => h) (Or.inl ⟨by go_simp, fun W hW => by go_simp⟩) HS ?_
  try simp only [List.getElem_toArray, List.getElem_cons_zero, List.getElem_cons_succ, Act.put, List.setIfInBounds_toArray, List.set_cons_zero, List.set_cons_succ]
  refine wpAnyH_take (i := 5) (v := .bool true) rfl (by kernel_rfl) (by kernel_rfl) (by kernel_rfl) (fun _ _ _ h => h) (Or.inl ⟨by go_simp, fun W hW => by go_simp⟩) HS ?_
  try simp only [List.getElem_toArray, List.getElem_cons_zero, List.getElem_cons_succ, Act.put, List.setIfInBounds_toArray, List.set_cons_zero, List.set_cons_succ]
  refine wpAnyH_ready (rs := [6]) (by kernel_rfl) (by simp) ?_
  refine AllReadyH.cons rfl (fun K hK => ?_) AllReadyH.nil
  rw [if_pos (by kernel_rfl)]
  simp only [List.getElem_toArray, List.getElem_cons_zero, List.getElem_cons_succ]
  go_simp
  refine (lives10 _ HS.lay).mono ?_
  rintro e w7 ⟨rfl, I9⟩
  refine hK.out _ _ (HS.step I9) (fun HS => ?_)
  clear hK I9
  try simp only [List.getElem_toArray, List.getElem_cons_zero, List.getElem_cons_succ, Act.put, List.setIfInBounds_toArray, List.set_cons_zero, List.set_cons_succ]
  refine wpAnyH_take (i := 7) (v := .bool true) rfl (by kernel_rfl) (by kernel_rfl) (by kernel_rfl) (fun _ _ _ h => h) (Or.inl ⟨by go_simp, fun W hW => by go_simp⟩) HS ?_
  try simp only [List.getElem_toArray, List.getElem_cons_zero, List.getElem_cons_succ, Act.put, List.setIfInBounds_toArray, List.set_cons_zero, List.set_cons_succ]
  refine wpAnyH_take (i := 8) (v := .bool true) rfl (by kernel_rfl) (by kernel_rfl) (by kernel_rfl) (fun _ _ _ h => h) (Or.inl ⟨by go_simp, fun W hW => by go_simp⟩) HS ?_
  try simp only [List.getElem_toArray, List.getElem_cons_zero, List.getElem_cons_succ, Act.put, List.setIfInBounds_toArray, List.set_cons_zero, List.set_cons_succ]
  refine wpAnyH_done (by kernel_rfl) ?_ _
  have HW := Lib.hid HS.below
  clear HS
  go_wp2_with fail
  go_ret
  rw [← NB.out]
  exact ⟨rfl, HW.out⟩
end Go.Proofs.YtepoaapadalnoaaDoor
