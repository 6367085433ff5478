/- The text of an address, by the document. No condition but that each byte is one. -/
import Derived.Test.YtepoaapadalnoaaDoorPutG
namespace Go.Proofs.YtepoaapadalnoaaDoor
open Go.RowKit
set_option linter.unusedVariables false
set_option linter.unusedSimpArgs false
theorem own_below {w w' : World} {B e n : Nat} {v : Value} {xs : List Value} (h : w.ownsRow B e 1 v n xs) (hb : Below w.heap.size w w') : w'.ownsRow B e 1 v n xs := by
  refine ⟨h.1, ?_⟩
  rcases h.2 with h1 | ⟨g, cap, cur, e1, h2, h3, h4⟩
  · exact .inl h1
  · exact .inr ⟨g, cap, cur, e1, h2, (hb.block _ (lt_of_blk h3)).trans h3, h4⟩
theorem own_ge {w : World} {B e n : Nat} {v : Value} {xs : List Value} (h : w.ownsRow B e 1 v n xs) (k : Nat) (hk : v.ownBlock = some k) : B ≤ k := by
  rcases h.2 with ⟨e, _⟩ | ⟨g, cap, cur, e, hg, _⟩
  · rw [e] at hk; cases hk
  · rw [e] at hk
    have e' : g = k := by injection hk
    omega
/-- what the call's own row reads as -/
theorem own_slice {w : World} {B e n : Nat} {v : Value} {xs : List Value} (h : w.ownsRow B e 1 v n xs) : ∃ p cap, v = .slice p n cap ∧ n ≤ cap ∧ (0 < n → ∃ g, p = some ⟨g, 0, none⟩ ∧ B ≤ g ∧ g < w.heap.size ∧ ∀ j u, xs[j]? = some u → w.cell? ⟨g, j, none⟩ = some u) := by
  have hl := h.1
  rcases h.2 with ⟨e1, hn⟩ | ⟨g, cap, cur, e1, hb, hg, hn, hm, hs, ht⟩
  · exact ⟨none, 0, by rw [e1, hn], by omega, fun hp => by omega⟩
  · refine ⟨_, _, e1, hn, fun hp => ⟨g, rfl, hb, lt_of_blk hg, fun j u hj => ?_⟩⟩
    have hj2 := (List.getElem?_eq_some_iff.1 hj).1
    rw [cell_blk hg]
    rw [← ht, List.getElem?_take_of_lt (by omega)] at hj
    simpa using hj
theorem info3 : (Tryd.prog.info? 3).map (fun i => (i.zero, i.size, i.bytes)) = some (some (.int .i64 0), 1, 8) := by kernel_rfl
theorem rowL_succ (k : IntKind) (n : Nat) (f : Nat → Nat) : rowL k (n + 1) f = rowL k n f ++ [.int k (f n : Int)] := by simp [rowL, List.range_succ]
/-- the document's search from a length on -/
def rf (z : Nat → Bool) : Nat → Option (Nat × Nat)
  | 0 => none
  | l + 1 => if l = 0 then none else match (List.range (8 - l)).find? (fun f => allZ z f (f + (l + 1))) with | some f => some (f, f + (l + 1)) | none => rf z l
theorem rf_step (z : Nat → Bool) (l : Nat) (L : List Nat) (hl : 1 ≤ l) (h : L.findSome? (fun l => ((List.range (9 - l)).find? fun f => allZ z f (f + l)).map fun f => (f, f + l)) = rf z l) :
    ((l + 1) :: L).findSome? (fun l => ((List.range (9 - l)).find? fun f => allZ z f (f + l)).map fun f => (f, f + l)) = rf z (l + 1) := by
  rw [List.findSome?_cons, h, rf, if_neg (by omega), show 9 - (l + 1) = 8 - l by omega]
  cases (List.range (8 - l)).find? (fun f => allZ z f (f + (l + 1))) <;> rfl
theorem rf_all (z : Nat → Bool) : refRun z = rf z 8 :=
  rf_step z 7 _ (by decide) (rf_step z 6 _ (by decide) (rf_step z 5 _ (by decide) (rf_step z 4 _ (by decide) (rf_step z 3 _ (by decide) (rf_step z 2 _ (by decide) (rf_step z 1 _ (by decide) rfl))))))
theorem rf_one (z : Nat → Bool) : rf z 1 = none := rfl
/-- the search of one length, from a place on -/
def ff (z : Nat → Bool) (l f : Nat) : Option (Nat × Nat) := match (List.range' f (9 - l - f)).find? (fun f => allZ z f (f + l)) with | some f => some (f, f + l) | none => rf z (l - 1)
theorem ff_all (z : Nat → Bool) {l : Nat} (h : 2 ≤ l) : rf z l = ff z l 0 := by
  obtain ⟨m, rfl⟩ : ∃ m, l = m + 1 := ⟨l - 1, by omega⟩
  rw [rf, if_neg (by omega), ff, List.range_eq_range', show 9 - (m + 1) - 0 = 8 - m by omega]
  rfl
theorem ff_end (z : Nat → Bool) {l f : Nat} (h : 9 ≤ l + f) : ff z l f = rf z (l - 1) := by
  rw [ff, show 9 - l - f = 0 by omega]; rfl
theorem ff_yes (z : Nat → Bool) {l f : Nat} (h : l + f < 9) (hz : allZ z f (f + l) = true) : ff z l f = some (f, f + l) := by
  rw [ff, show 9 - l - f = (8 - l - f) + 1 by omega, List.range'_succ, List.find?_cons, hz]
theorem ff_no (z : Nat → Bool) {l f : Nat} (h : l + f < 9) (hz : allZ z f (f + l) = false) : ff z l f = ff z l (f + 1) := by
  rw [ff, show 9 - l - f = (9 - l - (f + 1)) + 1 by omega, List.range'_succ, List.find?_cons, hz]; rfl
structure AInv (B : Nat) (a : Nat → Nat) (w wr : World) : Prop where
  h : wr.heap[B]? = some (.cells (adrCells a) 23 (0, 0))
  below : Below B w wr
theorem AInv.step {B : Nat} {a : Nat → Nat} {w wr w2 : World} (I : AInv B a w wr) (hB : B < wr.heap.size) (hb : Below wr.heap.size wr w2) : AInv B a w w2 :=
  ⟨(hb.block _ hB).trans I.h, I.below.trans (hb.mono (Nat.le_of_lt hB))⟩
set_option maxRecDepth 100000 in
set_option maxHeartbeats 1000000 in
theorem put9 (a : Nat → Nat) (w : World) (ha : ∀ i, i < 16 → a i < 256) :
    Calls Tryd.prog 9 #[.agg (adrCells a)] w fun e w' => e = .returned (.string ⟨(putL a).toArray⟩) ∧ Below w.heap.size w w' := by
  obtain ⟨i3, hi3, hz3, hs3, hb3⟩ := info_parts info3
  have I := Lib.hid (show AInv w.heap.size a w (w.alloc (.cells (adrCells a) 23)) from ⟨heap_alloc_new _ _, (Below.refl _ _).alloc (Nat.le_refl _) _⟩)
  go_enter Tryd.func9, Tryd.ntmps9
  go_wp2_with fail
  obtain ⟨B, hB⟩ : ∃ B, B = w.heap.size := ⟨_, rfl⟩
  rw [← hB] at I ⊢
  have NB := Lib.hid hB; clear hB
  go_loopw [3, 4] (fun v i wr => ∃ k : Nat, k ≤ 8 ∧ i = .int .i64 ((2 * k : Nat) : Int) ∧ wr.ownsRow (B + 1) 3 1 v k (rowL .i64 k (grp a)) ∧ AInv B a w wr) (fun _ i _ => 16 - (intOf i).toNat)
  case atStart => exact ⟨0, by omega, rfl, World.ownsRow_nil _ _ _ _, I.out⟩
  case round =>
    clear I
    obtain ⟨k, hk, rfl, hown, I⟩ := hrel
    by_cases hlt : k < 8
    · have c1 := fun (W : World) (h : AInv B a w W) => (cell_blk h.h (2 * k)).trans (adrCells_get a (by omega))
      have c2 := fun (W : World) (h : AInv B a w W) => (cell_blk h.h (2 * k + 1)).trans (adrCells_get a (by omega))
      have o1 : 0 ≤ 2 * (k : Int) ∧ 2 * (k : Int) < 16 := by omega
      have o2 : 0 ≤ 2 * (k : Int) + 1 ∧ 2 * (k : Int) + 1 < 16 := by omega
      have o3 : ¬ ((16 : Int) ≤ 2 * k) := by omega
      have o4 : ¬ ((16 : Int) ≤ 2 * k + 1) := by omega
      have hl1 := ha (2 * k) (by omega)
      have hl2 := ha (2 * k + 1) (by omega)
      have gk : 256 * a (2 * k) + a (2 * k + 1) = grp a k := rfl
      have HI := Lib.hid I
      have HO := Lib.hid hown
      clear I hown
      go_wp2_with fail
      have hS : AInv B a w wr.drew := HI.out.step (lt_of_blk HI.out.h) (Below.refl _ _).drew
      refine wp_region_held_drew (S := fun W => AInv B a w W) (by kernel_rfl) hS ?_
      clear hS
      intro HS
      refine wpAnyH_take (i := 0) (v := ?_) rfl (by kernel_rfl) (by kernel_rfl) (by kernel_rfl) (fun _ _ _ h => h) (Or.inl ⟨by go_simp, ?hy⟩) HS ?_
      case hy => intro W hW; go_simp; (try with_reducible rfl)
      try simp only [List.getElem_toArray, List.getElem_cons_zero, List.getElem_cons_succ, Act.put, List.setIfInBounds_toArray, List.set_cons_zero, List.set_cons_succ]
      refine wpAnyH_take (i := 1) (v := ?_) rfl (by kernel_rfl) (by kernel_rfl) (by kernel_rfl) (fun _ _ _ h => h) (Or.inl ⟨by go_simp, ?hy⟩) HS ?_
      case hy => intro W hW; go_simp; (try with_reducible rfl)
      try simp only [List.getElem_toArray, List.getElem_cons_zero, List.getElem_cons_succ, Act.put, List.setIfInBounds_toArray, List.set_cons_zero, List.set_cons_succ]
      refine wpAnyH_take (i := 6) (v := ?_) rfl (by kernel_rfl) (by kernel_rfl) (by kernel_rfl) (fun _ _ _ h => h) (Or.inl ⟨by go_simp, ?hy⟩) HS ?_
      case hy => intro W hW; go_simp; (try with_reducible rfl)
      try simp only [List.getElem_toArray, List.getElem_cons_zero, List.getElem_cons_succ, Act.put, List.setIfInBounds_toArray, List.set_cons_zero, List.set_cons_succ]
      refine wpAnyH_take (i := 2) (v := .pointer (some ⟨B, 2 * k, none⟩)) rfl (by kernel_rfl) (by kernel_rfl) (by kernel_rfl) (fun _ _ _ h => h) (Or.inl ⟨by go_simp, fun W hW => by go_simp; (try omega)⟩) HS ?_
      try simp only [List.getElem_toArray, List.getElem_cons_zero, List.getElem_cons_succ, Act.put, List.setIfInBounds_toArray, List.set_cons_zero, List.set_cons_succ]
      refine wpAnyH_take (i := 7) (v := .int .i64 (2 * (k : Int) + 1)) rfl (by kernel_rfl) (by kernel_rfl) (by kernel_rfl) (fun _ _ _ h => h) (Or.inl ⟨by go_simp, fun W hW => by go_simp; (try exact i64_small (m := 2 * k + 1) (by omega))⟩) HS ?_
      try simp only [List.getElem_toArray, List.getElem_cons_zero, List.getElem_cons_succ, Act.put, List.setIfInBounds_toArray, List.set_cons_zero, List.set_cons_succ]
      refine wpAnyH_take (i := 8) (v := .pointer (some ⟨B, 2 * k + 1, none⟩)) rfl (by kernel_rfl) (by kernel_rfl) (by kernel_rfl) (fun _ _ _ h => h) (Or.inl ⟨by go_simp, fun W hW => by go_simp; (try omega)⟩) HS ?_
      try simp only [List.getElem_toArray, List.getElem_cons_zero, List.getElem_cons_succ, Act.put, List.setIfInBounds_toArray, List.set_cons_zero, List.set_cons_succ]
      refine wpAnyH_take (i := 3) (v := ?_) rfl (by kernel_rfl) (by kernel_rfl) (by kernel_rfl) (fun _ _ _ h => h) (Or.inl ⟨by go_simp, ?hy⟩) HS ?_
      case hy => intro W hW; have c := c1 W hW; go_simp; (try with_reducible rfl)
      try simp only [List.getElem_toArray, List.getElem_cons_zero, List.getElem_cons_succ, Act.put, List.setIfInBounds_toArray, List.set_cons_zero, List.set_cons_succ]
      refine wpAnyH_take (i := 9) (v := ?_) rfl (by kernel_rfl) (by kernel_rfl) (by kernel_rfl) (fun _ _ _ h => h) (Or.inl ⟨by go_simp, ?hy⟩) HS ?_
      case hy => intro W hW; have c := c2 W hW; go_simp; (try with_reducible rfl)
      try simp only [List.getElem_toArray, List.getElem_cons_zero, List.getElem_cons_succ, Act.put, List.setIfInBounds_toArray, List.set_cons_zero, List.set_cons_succ]
      refine wpAnyH_take (i := 4) (v := .int .i64 (a (2 * k) : Int)) rfl (by kernel_rfl) (by kernel_rfl) (by kernel_rfl) (fun _ _ _ h => h) (Or.inl ⟨by go_simp, fun W hW => by go_simp; (try exact i64_small (by omega))⟩) HS ?_
      try simp only [List.getElem_toArray, List.getElem_cons_zero, List.getElem_cons_succ, Act.put, List.setIfInBounds_toArray, List.set_cons_zero, List.set_cons_succ]
      refine wpAnyH_take (i := 10) (v := .int .i64 (a (2 * k + 1) : Int)) rfl (by kernel_rfl) (by kernel_rfl) (by kernel_rfl) (fun _ _ _ h => h) (Or.inl ⟨by go_simp, fun W hW => by go_simp; (try exact i64_small (by omega))⟩) HS ?_
      try simp only [List.getElem_toArray, List.getElem_cons_zero, List.getElem_cons_succ, Act.put, List.setIfInBounds_toArray, List.set_cons_zero, List.set_cons_succ]
      refine wpAnyH_take (i := 5) (v := .int .i64 (256 * (a (2 * k) : Int))) rfl (by kernel_rfl) (by kernel_rfl) (by kernel_rfl) (fun _ _ _ h => h) (Or.inl ⟨by go_simp, fun W hW => by go_simp; (try exact i64_small (m := 256 * a (2 * k)) (by omega))⟩) HS ?_
      try simp only [List.getElem_toArray, List.getElem_cons_zero, List.getElem_cons_succ, Act.put, List.setIfInBounds_toArray, List.set_cons_zero, List.set_cons_succ]
      refine wpAnyH_take (i := 11) (v := .int .i64 (grp a k : Int)) rfl (by kernel_rfl) (by kernel_rfl) (by kernel_rfl) (fun _ _ _ h => h) (Or.inl ⟨by go_simp, fun W hW => by go_simp; rw [← gk]; (try exact i64_small (m := 256 * a (2 * k) + a (2 * k + 1)) (by omega))⟩) HS ?_
      try simp only [List.getElem_toArray, List.getElem_cons_zero, List.getElem_cons_succ, Act.put, List.setIfInBounds_toArray, List.set_cons_zero, List.set_cons_succ]
      refine wpAnyH_ready (rs := [12]) (by kernel_rfl) (by simp) ?_
      refine AllReadyH.cons rfl (fun K hK => ?_) AllReadyH.nil
      rw [if_pos (by kernel_rfl)]
      simp only [List.getElem_toArray, List.getElem_cons_zero, List.getElem_cons_succ]
      go_simp
      refine hK.out _ _ (HS.step (lt_of_blk HS.h) ((Below.refl _ _).alloc (Nat.le_refl _) _)) (fun HS => ?_)
      clear hK
      try simp only [List.getElem_toArray, List.getElem_cons_zero, List.getElem_cons_succ, Act.put, List.setIfInBounds_toArray, List.set_cons_zero, List.set_cons_succ]
      refine wpAnyH_ready (rs := [13]) (by kernel_rfl) (by simp) ?_
      refine AllReadyH.cons rfl (fun K hK => ?_) AllReadyH.nil
      rw [if_pos (by kernel_rfl)]
      simp only [List.getElem_toArray, List.getElem_cons_zero, List.getElem_cons_succ]
      have HO2 := own_below HO.out (Below.refl _ _).drew
      refine wp_append_own _ (.tmp 11) (.tmp 23) 47 rfl (B + 1) 3 i3 (.int .i64 0) 1 8 Tryd.underlying47 hi3 hz3 hs3 hb3 rfl (by decide) _ k _ rfl (HO2.alloc _) ⟨wr.drew.heap.size, 0, none⟩ 1 1 [.int .i64 (grp a k : Int)] rfl rfl ?news ?one (by unfold maxLen; omega) (by omega) ?base ?_
      case news =>
        intro j u hj
        rw [Addr.add_mid, Nat.zero_add]
        have c := cell_blk (heap_alloc_new wr (.cells #[.int .i64 (grp a k : Int)] 3)) j
        exact c.trans (by simpa using hj)
      case one => intro u hu; rw [List.mem_singleton] at hu; subst hu; rfl
      case base => have := HS.below.size; have := lt_of_blk HS.h; omega
      intro v' w9 hown9 hgr9 hnil9
      have hown9 : w9.ownsRow (B + 1) 3 1 v' (k + 1) (rowL .i64 (k + 1) (grp a)) := by rw [rowL_succ]; exact hown9
      have B9 : Below (B + 1) wr w9 := (((Below.refl (B + 1) wr).drew.alloc (by have := lt_of_blk HI.out.h; show B + 1 ≤ wr.heap.size; omega) _)).grown hgr9 (by have := lt_of_blk HI.out.h; simp; omega) (fun q hq => own_ge HO.out q hq)
      have I9 : AInv B a w w9 := ⟨(B9.block B (by omega)).trans HI.out.h, HI.out.below.trans (B9.mono (by omega))⟩
      have HO9 := Lib.hid hown9
      clear hown9 hgr9 hnil9 B9 HO2
      refine hK.out _ _ (I9) (fun HS => ?_)
      clear hK I9
      try simp only [List.getElem_toArray, List.getElem_cons_zero, List.getElem_cons_succ, Act.put, List.setIfInBounds_toArray, List.set_cons_zero, List.set_cons_succ]
      refine wpAnyH_take (i := 14) (v := ?_) rfl (by kernel_rfl) (by kernel_rfl) (by kernel_rfl) (fun _ _ _ h => h) (Or.inl ⟨by go_simp, ?hy⟩) HS ?_
      case hy => intro W hW; go_simp; (try with_reducible rfl)
      try simp only [List.getElem_toArray, List.getElem_cons_zero, List.getElem_cons_succ, Act.put, List.setIfInBounds_toArray, List.set_cons_zero, List.set_cons_succ]
      refine wpAnyH_done (by kernel_rfl) ?_ _
      have HI9 := Lib.hid HS
      clear HS
      go_wp2_with fail
      refine ⟨⟨k + 1, by omega, by congr 1, HO9.out, HI9.out⟩, by simp [intOf]; omega⟩
    · obtain rfl : k = 8 := by omega
      have hb8 : Below w.heap.size w wr := I.below.mono (by rw [NB.out]; exact Nat.le_refl _)
      obtain ⟨p, cap, rfl, -, hsl⟩ := own_slice hown
      obtain ⟨G, rfl, -, hG, hcell⟩ := hsl (by omega)
      have R := Lib.hid (show RowN wr G 8 (grp a) from ⟨hG, fun j hj => ⟨hcell j _ (rowL_get .i64 _ hj), grp_lt ha j hj⟩⟩)
      have HB := Lib.hid hb8
      clear hown I hcell hG hb8 hsl NB
      have hz0 := rf_all (fun i => grp a i == 0)
      rw [show ((2 * 8 : Nat) : Int) = 16 from rfl]
      go_wp2_with fail
      go_loopw [5] (fun l wr => ∃ k : Nat, 1 ≤ k ∧ k ≤ 8 ∧ l = .int .i64 k ∧ RowN wr G 8 (grp a) ∧ Below w.heap.size w wr ∧ refRun (fun i => grp a i == 0) = rf (fun i => grp a i == 0) k) (fun l _ => (intOf l).toNat)
      case atStart => exact ⟨8, by omega, by omega, rfl, R.out, HB.out, hz0⟩
      case round =>
        clear R HB hz0
        obtain ⟨k, hk1, hk8, rfl, R, B1, E⟩ := hrel
        by_cases h2 : 2 ≤ k
        · have o1 : decide ((2 : Int) ≤ k) = true := by simp; omega
          have R1 := Lib.hid R
          have HB1 := Lib.hid B1
          have E1 := Lib.hid (E.trans (ff_all _ h2))
          clear R B1 E
          go_wp2_with fail
          go_loopw [6] (fun f wr => ∃ j : Nat, j + k ≤ 9 ∧ f = .int .i64 j ∧ RowN wr G 8 (grp a) ∧ Below w.heap.size w wr ∧ refRun (fun i => grp a i == 0) = ff (fun i => grp a i == 0) k j) (fun f _ => 9 - (intOf f).toNat)
          case atStart => exact ⟨0, by omega, rfl, R1.out, HB1.out, E1.out⟩
          case round =>
            clear R1 HB1 E1
            obtain ⟨j, hj, rfl, R, B1, E⟩ := hrel
            have R1 := Lib.hid R
            have HB1 := Lib.hid B1
            have E1 := Lib.hid E
            clear R B1 E
            by_cases hjk : j + k < 9
            · have o2 : decide ((j : Int) + k ≤ 8) = true := by simp; omega
              go_wp2_with fail
              refine (noughts20 G 8 cap j (j + k) (grp a) _ R1.out (by omega) (by omega) (by decide)).mono ?_
              rintro e w2 ⟨rfl, b2⟩
              have R2 := Lib.hid (R1.out.step b2)
              have HB2 := Lib.hid (HB1.out.trans (b2.mono HB1.out.size))
              clear R1 HB1 b2
              by_cases hzz : allZ (fun i => grp a i == 0) j (j + k) = true
              · have E2 := E1.out.trans (ff_yes _ (by omega) hzz)
                rw [run_is] at E2
                have hp : putL a = joinG (grp a) 0 j ++ [58, 58] ++ joinG (grp a) (j + k) 8 := by
                  by_cases hq : (longP fun i => grp a i == 0).1 = (longP fun i => grp a i == 0).2
                  · rw [if_pos hq] at E2; cases E2
                  · rw [if_neg hq] at E2
                    have E3 := Option.some.inj E2
                    unfold putL putG
                    rw [if_neg hq, E3]
                have HP := Lib.hid hp
                clear E1 E2 hp
                rw [hzz]
                go_wp2_with fail
                refine (joined21 G 8 cap 0 j (grp a) _ R2.out (Nat.zero_le _) (by omega) (by decide)).mono ?_
                rintro e w3 ⟨rfl, b3⟩
                have R3 := Lib.hid (R2.out.step b3)
                have HB3 := Lib.hid (HB2.out.trans (b3.mono HB2.out.size))
                have l3 := joinG_len (grp a) 0 j
                have l4 := joinG_len (grp a) (j + k) 8
                have q1 : ¬ (9223372036854775807 < (joinG (grp a) 0 j).length + 2) := by omega
                have q2 : ¬ (9223372036854775807 < (joinG (grp a) 0 j).length + 2 + (joinG (grp a) (j + k) 8).length) := by omega
                clear R2 HB2 b3 l3 l4
                go_wp2_with fail
                refine (joined21 G 8 cap (j + k) 8 (grp a) _ R3.out (by omega) (by decide) (by decide)).mono ?_
                rintro e w4 ⟨rfl, b4⟩
                have HB4 := Lib.hid (HB3.out.trans (b4.mono HB3.out.size))
                clear R3 HB3 b4
                go_wp2_with fail
                go_ret
                exact ⟨by rw [HP.out, show (⟨#[58, 58]⟩ : ByteArray) = ⟨[58, 58].toArray⟩ from rfl, catB, catB]; rfl, HB4.out⟩
              · have hzf : allZ (fun i => grp a i == 0) j (j + k) = false := by simpa using hzz
                have E2 := Lib.hid (E1.out.trans (ff_no _ (by omega) hzf))
                rw [hzf]
                clear E1 hzz hzf
                go_wp2_with fail
                go_roundw
                case rel => exact ⟨j + 1, by omega, by go_num, R2.out, HB2.out, E2.out⟩
                case measure => simp [intOf]; omega
            · have E2 := Lib.hid (E1.out.trans (ff_end _ (by omega)))
              have o2 : decide ((j : Int) + k ≤ 8) = false := by simp; omega
              clear E1
              go_wp2_with fail
              refine ⟨⟨k - 1, by omega, by omega, by congr 1; omega, R1.out, HB1.out, E2.out⟩, by simp [intOf]; omega⟩
        · obtain rfl : k = 1 := by omega
          rw [rf_one, run_is] at E
          have hp : putL a = joinG (grp a) 0 8 := by
            by_cases hq : (longP fun i => grp a i == 0).1 = (longP fun i => grp a i == 0).2
            · unfold putL putG
              rw [if_pos hq]
            · rw [if_neg hq] at E; cases E
          have HP := Lib.hid hp
          have R2 := Lib.hid R
          have HB2 := Lib.hid B1
          have o1 : decide ((2 : Int) ≤ 1) = false := by decide
          clear E hp R B1
          go_wp2_with fail
          refine (joined21 G 8 cap 0 8 (grp a) _ R2.out (Nat.zero_le _) (by decide) (by decide)).mono ?_
          rintro e w3 ⟨rfl, b3⟩
          have HB3 := Lib.hid (HB2.out.trans (b3.mono HB2.out.size))
          clear R2 HB2 b3
          go_wp2_with fail
          go_ret
          exact ⟨by rw [HP.out]; rfl, HB3.out⟩
end Go.Proofs.YtepoaapadalnoaaDoor
