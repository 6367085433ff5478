/- The text of an address. No condition but that each byte is one. -/
import Derived.Test.YtepoaapadalnoaaDoorPutD
namespace Go.Proofs.YtepoaapadalnoaaDoor
open Go.RowKit
set_option linter.unusedVariables false
set_option linter.unusedSimpArgs false
theorem grp_lt {a : Nat → Nat} (ha : ∀ i, i < 16 → a i < 256) : ∀ i, i < 8 → grp a i < 65536 := fun i hi => by
  have h1 := ha (2 * i) (by omega); have h2 := ha (2 * i + 1) (by omega)
  unfold grp; omega
theorem Lay07.step' {w w' : World} (h : Lay07 w) {S : Nat} (hb : Below S w w') (h3 : 3 < S) : Lay07 w' :=
  ⟨by obtain ⟨m, hm⟩ := h.maxlen; exact ⟨m, (hb.cell (p := ⟨0, 0, none⟩) (by show 0 < S; omega)).trans hm⟩,
   (hb.cell (p := ⟨3, 15, none⟩) h3).trans h.deb, Nat.lt_of_lt_of_le h.lt hb.size⟩
structure PutS (B : Nat) (g : Nat → Nat) (w wr : World) : Prop where
  lay : Lay07 wr
  h : wr.heap[B]? = some (.cells (grpCells g) 41 (0, 0))
  below : Below w.heap.size w wr
theorem PutS.step {B : Nat} {g : Nat → Nat} {w wr w2 : World} (I : PutS B g w wr) (hb : Below wr.heap.size wr w2) : PutS B g w w2 :=
  ⟨I.lay.step hb, (hb.block _ (lt_of_blk I.h)).trans I.h, I.below.trans (hb.mono I.below.size)⟩
theorem PutS.row {B : Nat} {g : Nat → Nat} {w wr : World} (I : PutS B g w wr) (hg : ∀ i, i < 8 → g i < 65536) {f n : Nat} (h : f + n ≤ 8) : Row16 wr B f n fun j => g (f + j) :=
  ⟨lt_of_blk I.h, fun j hj => ⟨by rw [cell_blk I.h, grpCells_get _ (by omega)], hg _ (by omega)⟩⟩
theorem PutS.setRow {B : Nat} {g : Nat → Nat} {w wr : World} (I : PutS B g w wr) (hB : w.heap.size ≤ B) (g2 : Nat → Nat) (h3 : 3 < B) : PutS B g2 w (wr.setRow B (grpCells g2)) := by
  have t := Turned.setRow I.h (grpCells g2)
  exact ⟨I.lay.step' (t.below (Nat.le_refl _)) h3, t.get (lt_of_blk I.h), I.below.trans (t.below hB)⟩
theorem joinG_eq (g : Nat → Nat) (f t : Nat) : joinG g f t = Lib.join ((List.range (t - f)).map fun j => hexS (g (f + j))) [58] := by
  unfold joinG
  rw [List.range'_eq_map_range, List.map_map]; rfl
theorem catB (x y : List UInt8) : ((⟨x.toArray⟩ : ByteArray) ++ (⟨y.toArray⟩ : ByteArray)) = ⟨(x ++ y).toArray⟩ := by
  apply ByteArray.ext
  rw [ByteArray.data_append, List.append_toArray]
theorem joinG_len (g : Nat → Nat) (f t : Nat) : (joinG g f t).length ≤ 5 * (t - f) := by
  have := join_le ((List.range (t - f)).map fun j => hexS (g (f + j))) [58] (fun x hx => by
    obtain ⟨j, _, rfl⟩ := List.mem_map.1 hx
    exact hexS_le _) (Nat.le_refl _)
  rw [List.length_map, List.length_range] at this
  rwa [joinG_eq]
theorem putw (g : Nat → Nat) (f t n B cap : Nat) (P : Addr) {w wr : World} (I : PutS B g w wr) (hg : ∀ i, i < 8 → g i < 65536) (hn : n = t - f) (hP : ∃ off, P = ⟨B, off, none⟩ ∧ (0 < n → off = f)) (hft : f ≤ t) (ht : t ≤ 8) :
    Calls Tryd.prog 19 #[.slice (some P) n cap] wr fun e w' => e = .returned (.string ⟨(joinG g f t).toArray⟩) ∧ PutS B g w w' := by
  subst hn
  obtain ⟨off, rfl, ho⟩ := hP
  have R : Row16 wr B off (t - f) fun j => g (f + j) := by
    rcases Nat.eq_zero_or_pos (t - f) with h | h
    · rw [h]; exact ⟨lt_of_blk I.h, fun j hj => absurd hj (by omega)⟩
    · rw [ho h]; exact I.row hg (by omega)
  refine (written19 B off (t - f) cap _ wr I.lay R (by omega)).mono ?_
  rintro e w' ⟨rfl, hb⟩
  exact ⟨by rw [joinG_eq], I.step hb⟩
set_option maxRecDepth 100000 in
set_option maxHeartbeats 1000000 in
theorem put8 (a : Nat → Nat) (w : World) (L : Lay07 w) (ha : ∀ i, i < 16 → a i < 256) :
    Calls Tryd.prog 8 #[.agg (adrCells a)] w fun e w' => e = .returned (.string ⟨(putL a).toArray⟩) ∧ Below w.heap.size w w' := by
  have B0 : Below w.heap.size w (w.alloc (.cells (adrCells a) 23)) := (Below.refl _ _).alloc (Nat.le_refl _) _
  have h0 : (w.alloc (.cells (adrCells a) 23)).heap[w.heap.size]? = some (.cells (adrL a).toArray 23 (0, 0)) := heap_alloc_new _ _
  have h3 := L.lt
  have R0 := Lib.hid (range_row h0)
  have L0 := Lib.hid (L.step B0)
  have HB0 := Lib.hid B0
  clear L B0 h0
  go_enter Tryd.func8, Tryd.ntmps8
  go_wp2_with (refine wpList_load_mid rfl 23 _ rfl w.heap.size 0 rfl (adrL a) _ R0.out Tryd.underlying23 rfl (info23 _) ?_)
  refine (groups17 a _ ha).mono ?_
  rintro e w1 ⟨rfl, b1⟩
  have B1 : Below w.heap.size w w1 := HB0.out.trans (b1.mono HB0.out.size)
  have HL1 := L0.out.step b1
  have B2 : Below w1.heap.size w1 (w1.alloc (.cells (grpCells fun _ => 0) 41)) := (Below.refl _ _).alloc (Nat.le_refl _) _
  have I0 : PutS w1.heap.size (fun _ => 0) w (w1.alloc (.cells (grpCells fun _ => 0) 41)) := ⟨HL1.step B2, heap_alloc_new _ _, B1.trans (B2.mono B1.size)⟩
  rw [← zeroGrp] at I0
  have I1 := Lib.hid I0
  have hsz : (Tryd.prog.info? 41).map (·.size) = some (grpCells (grp a)).size := by rw [grpCells_size]; kernel_rfl
  have HS := Lib.hid hsz
  have I2 := Lib.hid (I1.out.setRow B1.size (grp a) (Nat.lt_of_lt_of_le h3 B1.size))
  have R2 := Lib.hid (range_row I2.out.h)
  clear I0 B2 HL1 B1 b1 hsz R0 L0 HB0
  go_wp2_with (first
    | (refine wpList_store_row rfl 41 _ _ rfl w1.heap.size (grpCells (grp a)) rfl rfl 41 _ I1.out.h HS.out ?hold (cells_one _ _ _) ?_)
    | (refine wpList_load_mid rfl 41 _ rfl w1.heap.size 0 rfl (grpL (grp a)) _ R2.out Tryd.underlying41 rfl (info41 _) ?_))
  case hold => exact (grpCells_size _).symm
  generalize (w1.alloc _).setRow _ _ = w2 at *
  obtain ⟨B, hB⟩ : ∃ B, B = w1.heap.size := ⟨_, rfl⟩
  rw [← hB] at I2 ⊢
  clear I1 R2 HS hB
  refine (longest18 (grp a) w2).mono ?_
  rintro e w3 ⟨rfl, b3⟩
  have I3 := Lib.hid (I2.out.step b3)
  clear I2 b3
  have hlong := long_is (fun i => grp a i == 0)
  have hput : putL a = let p := longP fun i => grp a i == 0; if p.1 = p.2 then joinG (grp a) 0 8 else joinG (grp a) 0 p.1 ++ [58, 58] ++ joinG (grp a) p.2 8 := rfl
  generalize longP (fun i => grp a i == 0) = p at *
  obtain ⟨f, t⟩ := p
  obtain ⟨hft, ht, -⟩ := hlong
  replace hft : f ≤ t := hft
  replace ht : t ≤ 8 := ht
  by_cases hq : f = t
  · have q1 : ((f : Int) == t) = true := by simp [hq]
    have HP := Lib.hid (show putL a = joinG (grp a) 0 8 from hput.trans (if_pos hq))
    clear hft ht hq hput
    go_wp2_with fail
    refine (putw (grp a) 0 8 8 B 8 _ I3.out (grp_lt ha) (by decide) ⟨0, rfl, fun _ => rfl⟩ (by decide) (by decide)).mono ?_
    rintro e w4 ⟨rfl, I4⟩
    have HB := Lib.hid I4.below
    rw [← HP.out]
    clear I4 I3 HP
    go_wp2_with fail
    go_ret
    exact ⟨rfl, HB.out⟩
  · have q1 : ((f : Int) == t) = false := by simp; omega
    have HP := Lib.hid (show putL a = joinG (grp a) 0 f ++ [58, 58] ++ joinG (grp a) t 8 from hput.trans (if_neg hq))
    clear hput
    have l1 := joinG_len (grp a) 0 f
    have l2 := joinG_len (grp a) t 8
    have o1 : (0 : Int) ≤ f ∧ (f : Int) ≤ 8 := by omega
    have o2 : (0 : Int) ≤ t ∧ (t : Int) ≤ 8 := by omega
    go_wp2_with fail
    have hS : PutS B (grp a) w w3.drew := (I3.out.step (Below.refl _ _).drew)
    clear I3 q1
    refine wp_region_held_drew (S := fun W => PutS B (grp a) w W) (by kernel_rfl) hS ?_
    clear hS
    intro HS
    refine wpAnyH_take (i := 0) (v := .int .i64 f) rfl (by kernel_rfl) (by kernel_rfl) (by kernel_rfl) (fun _ _ _ h => h) (Or.inl ⟨by go_simp, fun W hW => by go_simp⟩) HS ?_
    try simp only [List.getElem_toArray, List.getElem_cons_zero, List.getElem_cons_succ, Act.put, List.setIfInBounds_toArray, List.set_cons_zero, List.set_cons_succ]
    refine wpAnyH_take (i := 4) (v := .int .i64 t) rfl (by kernel_rfl) (by kernel_rfl) (by kernel_rfl) (fun _ _ _ h => h) (Or.inl ⟨by go_simp, fun W hW => by go_simp⟩) HS ?_
    try simp only [List.getElem_toArray, List.getElem_cons_zero, List.getElem_cons_succ, Act.put, List.setIfInBounds_toArray, List.set_cons_zero, List.set_cons_succ]
    refine wpAnyH_take (i := 1) (v := .slice (some ⟨B, 0, none⟩) f 8) rfl (by kernel_rfl) (by kernel_rfl) (by kernel_rfl) (fun _ _ _ h => h) (Or.inl ⟨by go_simp, fun W hW => by go_simp⟩) HS ?_
    try simp only [List.getElem_toArray, List.getElem_cons_zero, List.getElem_cons_succ, Act.put, List.setIfInBounds_toArray, List.set_cons_zero, List.set_cons_succ]
    refine wpAnyH_take (i := 5) (v := .slice (some (if 8 = t then ⟨B, 0, none⟩ else ⟨B, t, none⟩)) (8 - t) (8 - t)) rfl (by kernel_rfl) (by kernel_rfl) (by kernel_rfl) (fun _ _ _ h => h) (Or.inl ⟨by go_simp, fun W hW => by go_simp⟩) HS ?_
    try simp only [List.getElem_toArray, List.getElem_cons_zero, List.getElem_cons_succ, Act.put, List.setIfInBounds_toArray, List.set_cons_zero, List.set_cons_succ]
    have hP : ∃ off, (if 8 = t then (⟨B, 0, none⟩ : Addr) else ⟨B, t, none⟩) = ⟨B, off, none⟩ ∧ (0 < 8 - t → off = t) := by
      by_cases h : 8 = t
      · exact ⟨0, by rw [if_pos h], fun h2 => by omega⟩
      · exact ⟨t, by rw [if_neg h], fun _ => rfl⟩
    generalize (if 8 = t then (⟨B, 0, none⟩ : Addr) else ⟨B, t, none⟩) = P at *
    have HP2 := Lib.hid hP
    clear hP
    refine wpAnyH_ready (rs := [2]) (by kernel_rfl) (by simp) ?_
    refine AllReadyH.cons rfl (fun K hK => ?_) AllReadyH.nil
    rw [if_pos (by kernel_rfl)]
    simp only [List.getElem_toArray, List.getElem_cons_zero, List.getElem_cons_succ]
    go_simp
    refine (putw (grp a) 0 f f B 8 _ HS (grp_lt ha) rfl ⟨0, rfl, fun _ => rfl⟩ (Nat.zero_le _) (by omega)).mono ?_
    rintro e w5 ⟨rfl, I9⟩
    refine hK.out _ _ I9 (fun HS => ?_)
    clear hK I9
    try simp only [List.getElem_toArray, List.getElem_cons_zero, List.getElem_cons_succ, Act.put, List.setIfInBounds_toArray, List.set_cons_zero, List.set_cons_succ]
    have LA := Lib.hid l1
    have LB := Lib.hid l2
    clear l1 l2
    refine wpAnyH_take (i := 3) (v := .string ⟨(joinG (grp a) 0 f ++ [58, 58]).toArray⟩) rfl (by kernel_rfl) (by kernel_rfl) (by kernel_rfl) (fun _ _ _ h => h) (Or.inl ⟨by go_simp, fun W hW => by go_simp; rw [if_neg (by have := LA.out; omega), ← catB]⟩) HS ?_
    try simp only [List.getElem_toArray, List.getElem_cons_zero, List.getElem_cons_succ, Act.put, List.setIfInBounds_toArray, List.set_cons_zero, List.set_cons_succ]
    refine wpAnyH_ready (rs := [6]) (by kernel_rfl) (by simp) ?_
    refine AllReadyH.cons rfl (fun K hK => ?_) AllReadyH.nil
    rw [if_pos (by kernel_rfl)]
    simp only [List.getElem_toArray, List.getElem_cons_zero, List.getElem_cons_succ]
    go_simp
    refine (putw (grp a) t 8 (8 - t) B (8 - t) P HS (grp_lt ha) rfl HP2.out ht (by decide)).mono ?_
    rintro e w6 ⟨rfl, I9⟩
    refine hK.out _ _ I9 (fun HS => ?_)
    clear hK I9
    try simp only [List.getElem_toArray, List.getElem_cons_zero, List.getElem_cons_succ, Act.put, List.setIfInBounds_toArray, List.set_cons_zero, List.set_cons_succ]
    rw [show ((⟨(joinG (grp a) t 8).toArray⟩ : ByteArray)) = ⟨(joinG (grp a) t 8).toArray⟩ from rfl]
    refine wpAnyH_take (i := 7) (v := .string ⟨(putL a).toArray⟩) rfl (by kernel_rfl) (by kernel_rfl) (by kernel_rfl) (fun _ _ _ h => h) (Or.inl ⟨by go_simp, fun W hW => by go_simp; rw [if_neg (by have := LA.out; have := LB.out; omega), HP.out, catB]⟩) HS ?_
    try simp only [List.getElem_toArray, List.getElem_cons_zero, List.getElem_cons_succ, Act.put, List.setIfInBounds_toArray, List.set_cons_zero, List.set_cons_succ]
    refine wpAnyH_take (i := 8) (v := .string ⟨(putL a).toArray⟩) rfl (by kernel_rfl) (by kernel_rfl) (by kernel_rfl) (fun _ _ _ h => h) (Or.inl ⟨by go_simp, fun W hW => by go_simp⟩) HS ?_
    try simp only [List.getElem_toArray, List.getElem_cons_zero, List.getElem_cons_succ, Act.put, List.setIfInBounds_toArray, List.set_cons_zero, List.set_cons_succ]
    refine wpAnyH_done (by kernel_rfl) ?_ _
    have HW := Lib.hid HS.below
    clear HS
    go_wp2_with fail
    go_ret
    exact ⟨rfl, HW.out⟩
end Go.Proofs.YtepoaapadalnoaaDoor
