/- An option of names: the document's walk. No condition but that they are few. -/
import Derived.Test.YtfolamkjlgpgmaaDoorParts
import Derived.Test.YtfolamkjlgpgmaaDoorServR
namespace Go.Proofs.YtfolamkjlgpgmaaDoor
open Go.RowKit
set_option linter.unusedVariables false
set_option linter.unusedSimpArgs false
/-- the parts' block stands -/
structure PS (w w9 : World) (g : Nat) (cur : Array Value) (W : World) : Prop where
  blk : W.heap[g]? = some (.cells cur 9 (0, 0))
  below : Below (w.heap.size + 1) w9 W
  low : w.heap.size + 1 ≤ W.heap.size
theorem PS.step {w w9 W W' : World} {g : Nat} {cur : Array Value} (h : PS w w9 g cur W) (hb : Below W.heap.size W W') : PS w w9 g cur W' :=
  ⟨(hb.block _ (lt_of_blk h.blk)).trans h.blk, h.below.trans (hb.mono h.low), Nat.le_trans h.low hb.size⟩
theorem PS.grown {w w9 W W' : World} {g n : Nat} {cur : Array Value} {v : Value} {xs : List Value} (h : PS w w9 g cur W) (ho : W.ownsRow (w.heap.size + 1) 5 1 v n xs) (hg : W.grownBy W' v.ownBlock) : PS w w9 g cur W' :=
  ⟨Keep5.grown ho hg _ _ _ _ h.blk (by decide), Below.grown' h.below hg h.low (fun k hk => (ho.lt k hk).1), by have := hg.size; have := h.low; omega⟩
theorem lenT_data {ps : List ByteArray} {s : ByteArray} (h : ps.map (·.data.toList) = spl 46 s.data.toList) : lenT ps = (spl 46 s.data.toList).flatMap lenB := by
  rw [← h, List.flatMap_map]
  rfl
theorem part_short2 {s p : ByteArray} {ps : List ByteArray} (h : domOk s.data.toList = true) (hps : ps.map (·.data.toList) = spl 46 s.data.toList) (hp : p ∈ ps) : p.size ≤ 63 := by
  unfold domOk at h
  simp only [Bool.and_eq_true] at h
  have h1 : p.data.toList ∈ spl 46 s.data.toList := by rw [← hps]; exact List.mem_map.2 ⟨p, hp, rfl⟩
  have h2 := List.all_eq_true.1 h.2 _ h1
  unfold partOk at h2
  simp only [Bool.and_eq_true, decide_eq_true_eq] at h2
  have h3 := h2.1.2
  simpa using h3
set_option maxRecDepth 100000 in
set_option maxHeartbeats 4000000 in
theorem dom42 {A : Option Addr} {c n : Nat} {L : List ByteArray} (hn : n < 4294967296) (w : World) (h : DomsAt w w.heap.size A L) :
    Calls Tryd.prog 42 #[.int .u32 (n : Int), .slice A L.length c] w (MadePost 31 (domsB n L) w) := by
  obtain ⟨i5, hi, hz0, hz1, hz2⟩ := info_parts info5
  obtain ⟨hb, h1, h0⟩ := two_new w (.cells #[.int .u8 0, .slice none 0 0] 41) (.cells (row8 [0, 0]).toArray 5)
  have HP := Lib.hid (four70 n hn ((w.alloc (.cells #[.int .u8 0, .slice none 0 0] 41)).alloc (.cells (row8 [0, 0]).toArray 5)))
  have HOZ := Lib.hid (blk_own (l := [0, 0]) h0 (base := w.heap.size + 1) (Nat.le_refl _) (by simp))
  have hm := h.many
  have HO := Lib.hid h
  obtain ⟨m, hm0⟩ : ∃ m, L.length = m := ⟨_, rfl⟩
  have HM := Lib.hid hm0
  rw [hm0] at hm ⊢
  have hsz2 : ((w.alloc (.cells #[.int .u8 0, .slice none 0 0] 41)).alloc (.cells (row8 [0, 0]).toArray 5)).heap.size = w.heap.size + 1 + 1 := by simp
  have HB := Lib.hid hb
  have H1 := Lib.hid h1
  clear h h1 h0 hb hm0
  go_enter Tryd.func42, Tryd.ntmps42
  go_wp2_with fail
  refine (HP.out).mono ?_
  rintro e w1 ⟨A5, c5, k5, rfl, h1, h2, h3, h4⟩
  rw [hsz2] at h4
  have h3 : w1.ownsRow _ 5 1 (.slice A5 4 k5) 4 (row8 (be4 n)) := h3
  obtain ⟨g, rfl, hg, hcell⟩ := own_adds h3 (by decide)
  have e4 : (be4 n).length = 4 := rfl
  rw [e4]
  have HZ : Hid (w1.ownsRow (w.heap.size + 1) 5 1 (.slice (some ⟨w.heap.size + 1, 0, none⟩) 2 2) 2 (row8 [0, 0])) := Lib.hid (own_below HOZ.out (by rw [hsz2]; exact h4))
  have HC := Lib.hid hcell
  have hb1 : Below w.heap.size w w1 := HB.out.trans (h4.mono (by omega))
  have hlow : w.heap.size + 1 ≤ w1.heap.size := by have := h4.size; omega
  have HQ1 := Lib.hid ((h4.block _ (by omega)).trans H1.out)
  have HB1 := Lib.hid hb1
  clear h1 h2 h3 h4 hcell hb1 HP hsz2
  go_wp2_with (at_builtin; refine wpList_append_own _ rfl _ _ 22 rfl (w.heap.size + 1) 5 i5 (.int .u8 0) 1 1 Tryd.underlying22 hi hz0 hz1 hz2 rfl (by decide) _ 2 _ rfl HZ.out ⟨g, 0, none⟩ 4 c5 (row8 (be4 n)) rfl rfl HC.out (row8_one _) ?c3 ?c4 hlow ?_)
  case c3 => unfold maxLen; omega
  case c4 => omega
  intro v9 w9 ho9 hg9 _
  have HI : Hid (w9.ownsRow (w.heap.size + 1) 5 1 v9 (domsB n (L.take 0)).length (row8 (domsB n (L.take 0)))) := Lib.hid ho9
  have hb9 : Below (w.heap.size + 1) w1 w9 := Below.grown' (Below.refl _ _) hg9 hlow (fun k hk => (HZ.out.lt k hk).1)
  have HQ9 := Lib.hid ((hb9.block _ (Nat.lt_succ_self _)).trans HQ1.out)
  have HB9 := Lib.hid (HB1.out.trans (hb9.mono (Nat.le_succ _)))
  have hlow9 : w.heap.size + 1 ≤ w9.heap.size := by have := hb9.size; omega
  clear ho9 hg9 hb9 HC HZ
  go_wp2_with fail
  go_loopw [5, 6] (fun v i wr => ∃ k : Nat, k ≤ m ∧ i = .int .i64 k ∧ wr.ownsRow (w.heap.size + 1) 5 1 v (domsB n (L.take k)).length (row8 (domsB n (L.take k))) ∧ Below (w.heap.size + 1) w9 wr) (fun _ i _ => m - (intOf i).toNat)
  case atStart => exact ⟨0, Nat.zero_le _, rfl, HI.out, Below.refl _ _⟩
  case round =>
    clear HI
    obtain ⟨k, hk, rfl, hO, hW⟩ := hrel
    obtain ⟨Y, hY⟩ : ∃ Y, Y = wr := ⟨_, rfl⟩
    subst hY
    have hszr := hW.size
    have HW := Lib.hid hW
    have HOC := Lib.hid hO
    by_cases hlt : k < m
    · obtain ⟨s, hs⟩ : ∃ s, L[k]? = some s := ⟨L[k]'(by rw [HM.out]; exact hlt), List.getElem?_eq_getElem _⟩
      have hb0r : Below w.heap.size w Y := HB9.out.trans (hW.mono (by omega))
      have hO2 := HO.out.below hb0r
      obtain ⟨b, o, rfl, hb, hc⟩ := hO2.at_ (by rintro rfl; simp at hs)
      have c0 := hc k s hs
      have hss := HO.out.size s (List.mem_of_getElem? hs)
      have HS := Lib.hid (domsB_succ (n := n) hs)
      have hdl := domsB_le (n := n) (L := L.take k) (fun t ht => HO.out.size t (List.mem_of_mem_take ht))
      rw [List.length_take, HM.out, Nat.min_eq_left hk] at hdl
      have HSP := Lib.hid (parts71 s (by omega) Y)
      clear hs hO2 hc hb0r hO hW
      go_wp2_with fail
      refine (HSP.out).mono ?_
      rintro e w2 ⟨vp, ps, rfl, hop, hb2, hcase⟩
      obtain ⟨Ap, cp, rfl, hcp⟩ := own_slice2 hop
      have HO2 := Lib.hid (own_below HOC.out hb2)
      have HW2 := Lib.hid (HW.out.trans (hb2.mono (by omega)))
      have hsz2 := hb2.size
      rcases hcase with ⟨hdk, hps⟩ | ⟨hdk, rfl⟩
      · obtain ⟨np, hnp⟩ : ∃ np, ps.length = np := ⟨_, rfl⟩
        have hnp0 : 0 < np := by
          rw [← hnp]
          have := congrArg List.length hps
          rw [List.length_map] at this
          rw [this]
          exact List.length_pos_iff.2 (spl_ne _ _)
        obtain ⟨g, cur, rfl, hgb, hcells⟩ : ∃ g cur, Ap = some ⟨g, 0, none⟩ ∧ w2.heap[g]? = some (.cells cur 9 (0, 0)) ∧ ∀ (i : Nat) (p : ByteArray), ps[i]? = some p → cur[i]? = some (Value.string p) := by
          rcases hop.2 with ⟨_, h0⟩ | ⟨g, cap, cur, e, hb, hg, hn2, hm2, hs2, ht⟩
          · omega
          · cases e
            refine ⟨g, cur, rfl, hg, fun i p hp => ?_⟩
            have h1 : (ps.map Value.string)[i]? = some (Value.string p) := by simp [hp]
            have hi := (List.getElem?_eq_some_iff.1 hp).1
            rw [← ht, List.getElem?_take_of_lt (by omega), Array.getElem?_toList] at h1
            exact h1
        have hnpl : np ≤ 254 := by
          rw [← hnp]
          have h1 := congrArg List.length hps
          rw [List.length_map] at h1
          have h2 := spl_length 46 s.data.toList
          unfold domOk at hdk
          simp only [Bool.and_eq_true, decide_eq_true_eq] at hdk
          omega
        have hlt9 : (domsB n (L.take k) ++ lenT ps ++ [0]).length ≤ 100000000 := by
          rw [List.length_append, List.length_append, lenT_data hps, spl_total]
          have el : s.data.toList.length = s.size := by simp
          rw [el]
          simp only [List.length_singleton]
          omega
        have HDK := Lib.hid hdk
        have HPS := Lib.hid hps
        have HNP := Lib.hid hnp
        have HCL := Lib.hid hcells
        have HLT := Lib.hid hlt9
        have HS0 : Hid (PS w w9 g cur w2) := Lib.hid ⟨hgb, HW2.out, by omega⟩
        have e0 : domsB n (L.take k) ++ lenT (ps.take 0) = domsB n (L.take k) := List.append_nil _
        have HO3 : Hid (w2.ownsRow (w.heap.size + 1) 5 1 u5 (domsB n (L.take k) ++ lenT (ps.take 0)).length (row8 (domsB n (L.take k) ++ lenT (ps.take 0)))) := Lib.hid (by rw [e0]; exact HO2.out)
        rw [hnp] at hcp ⊢
        clear hop hb2 hdk hps hnp hcells hgb hlt9 e0 HSP
        go_wp2_with fail
        go_loopw [5, 8] (fun v i W => ∃ j : Nat, j ≤ np ∧ i = .int .i64 j ∧ W.ownsRow (w.heap.size + 1) 5 1 v (domsB n (L.take k) ++ lenT (ps.take j)).length (row8 (domsB n (L.take k) ++ lenT (ps.take j))) ∧ PS w w9 g cur W) (fun _ i _ => np - (intOf i).toNat)
        case atStart => exact ⟨0, Nat.zero_le _, rfl, HO3.out, HS0.out⟩
        case round =>
          clear HO3 HS0
          obtain ⟨j, hj, rfl, hO, hP⟩ := hrel
          have hdlj : (domsB n (L.take k) ++ lenT (ps.take j)).length + 66 ≤ 1000000000 := by
            have h1 := lenT_le ps j
            have h2 := HLT.out
            rw [List.length_append, List.length_append] at h2
            rw [List.length_append]
            simp only [List.length_singleton] at h2
            omega
          by_cases hlj : j < np
          · obtain ⟨p, hp⟩ : ∃ p, ps[j]? = some p := ⟨ps[j]'(by rw [HNP.out]; exact hlj), List.getElem?_eq_getElem _⟩
            have hps := part_short2 HDK.out HPS.out (List.mem_of_getElem? hp)
            have HLS := Lib.hid (lenT_succ hp)
            have cg : ∀ W, PS w w9 g cur W → W.cell? ⟨g, j, none⟩ = some (.string p) := fun W hW => by rw [cell_blk hW.blk]; exact HCL.out j p hp
            obtain ⟨D, hD⟩ : ∃ D, D = domsB n (L.take k) ++ lenT (ps.take j) := ⟨_, rfl⟩
            obtain ⟨nD, hnD⟩ : ∃ nD, D.length = nD := ⟨_, rfl⟩
            rw [← hD, hnD] at hO hdlj
            have HO := Lib.hid hO
            have HDD := Lib.hid hD
            have HND := Lib.hid hnD
            have HFW : Hid (nD + 1 + p.size ≤ 1000000000) := Lib.hid (by omega)
            have hp8 : (p.size : Int) % 256 = p.size := by omega
            obtain ⟨A6, c6, hv6, -⟩ := own_slice2 hO
            subst hv6
            have hS : PS w w9 g cur wr.drew := hP.step (Below.refl _ _).drew
            clear hp hD hnD hO hP
            go_wp2_with fail
            refine wp_region_held_drew (S := fun W => PS w w9 g cur W) (by kernel_rfl) hS ?_
            clear hS
            intro HS
            refine wpAnyH_take (i := 0) (v := ?_) rfl (by kernel_rfl) (by kernel_rfl) (by kernel_rfl) (fun _ _ _ h => h) (Or.inl ⟨by go_simp, ?hy⟩) HS ?_
            case hy => intro W hW; go_simp; (try with_reducible rfl)
            try simp only [List.getElem_toArray, List.getElem_cons_zero, List.getElem_cons_succ, Act.put, List.setIfInBounds_toArray, List.set_cons_zero, List.set_cons_succ]
            refine wpAnyH_take (i := 1) (v := ?_) rfl (by kernel_rfl) (by kernel_rfl) (by kernel_rfl) (fun _ _ _ h => h) (Or.inl ⟨by go_simp, ?hy⟩) HS ?_
            case hy => intro W hW; go_simp; (try with_reducible rfl)
            try simp only [List.getElem_toArray, List.getElem_cons_zero, List.getElem_cons_succ, Act.put, List.setIfInBounds_toArray, List.set_cons_zero, List.set_cons_succ]
            refine wpAnyH_take (i := 2) (v := ?_) rfl (by kernel_rfl) (by kernel_rfl) (by kernel_rfl) (fun _ _ _ h => h) (Or.inl ⟨by go_simp, ?hy⟩) HS ?_
            case hy => intro W hW; go_simp; (try with_reducible rfl)
            try simp only [List.getElem_toArray, List.getElem_cons_zero, List.getElem_cons_succ, Act.put, List.setIfInBounds_toArray, List.set_cons_zero, List.set_cons_succ]
            refine wpAnyH_take (i := 3) (v := .pointer (some ⟨g, j, none⟩)) rfl (by kernel_rfl) (by kernel_rfl) (by kernel_rfl) (fun _ _ _ h => h) (Or.inl ⟨by go_simp, fun W hW => by go_simp; (try omega)⟩) HS ?_
            try simp only [List.getElem_toArray, List.getElem_cons_zero, List.getElem_cons_succ, Act.put, List.setIfInBounds_toArray, List.set_cons_zero, List.set_cons_succ]
            refine wpAnyH_take (i := 4) (v := ?_) rfl (by kernel_rfl) (by kernel_rfl) (by kernel_rfl) (fun _ _ _ h => h) (Or.inl ⟨by go_simp, ?hy⟩) HS ?_
            case hy => intro W hW; have c := cg W hW; go_simp; (try with_reducible rfl)
            try simp only [List.getElem_toArray, List.getElem_cons_zero, List.getElem_cons_succ, Act.put, List.setIfInBounds_toArray, List.set_cons_zero, List.set_cons_succ]
            refine wpAnyH_take (i := 5) (v := ?_) rfl (by kernel_rfl) (by kernel_rfl) (by kernel_rfl) (fun _ _ _ h => h) (Or.inl ⟨by go_simp, ?hy⟩) HS ?_
            case hy => intro W hW; go_simp; (try with_reducible rfl)
            try simp only [List.getElem_toArray, List.getElem_cons_zero, List.getElem_cons_succ, Act.put, List.setIfInBounds_toArray, List.set_cons_zero, List.set_cons_succ]
            refine wpAnyH_take (i := 6) (v := .int .u8 (p.size : Int)) rfl (by kernel_rfl) (by kernel_rfl) (by kernel_rfl) (fun _ _ _ h => h) (Or.inl ⟨by go_simp, fun W hW => by go_simp; (try exact u8_small (by omega))⟩) HS ?_
            try simp only [List.getElem_toArray, List.getElem_cons_zero, List.getElem_cons_succ, Act.put, List.setIfInBounds_toArray, List.set_cons_zero, List.set_cons_succ]
            refine wpAnyH_take (i := 9) (v := ?_) rfl (by kernel_rfl) (by kernel_rfl) (by kernel_rfl) (fun _ _ _ h => h) (Or.inl ⟨by go_simp, ?hy⟩) HS ?_
            case hy => intro W hW; go_simp; (try with_reducible rfl)
            try simp only [List.getElem_toArray, List.getElem_cons_zero, List.getElem_cons_succ, Act.put, List.setIfInBounds_toArray, List.set_cons_zero, List.set_cons_succ]
            refine wpAnyH_take (i := 10) (v := ?_) rfl (by kernel_rfl) (by kernel_rfl) (by kernel_rfl) (fun _ _ _ h => h) (Or.inl ⟨by go_simp, ?hy⟩) HS ?_
            case hy => intro W hW; go_simp; (try with_reducible rfl)
            try simp only [List.getElem_toArray, List.getElem_cons_zero, List.getElem_cons_succ, Act.put, List.setIfInBounds_toArray, List.set_cons_zero, List.set_cons_succ]
            refine wpAnyH_take (i := 11) (v := .pointer (some ⟨g, j, none⟩)) rfl (by kernel_rfl) (by kernel_rfl) (by kernel_rfl) (fun _ _ _ h => h) (Or.inl ⟨by go_simp, fun W hW => by go_simp; (try omega)⟩) HS ?_
            try simp only [List.getElem_toArray, List.getElem_cons_zero, List.getElem_cons_succ, Act.put, List.setIfInBounds_toArray, List.set_cons_zero, List.set_cons_succ]
            refine wpAnyH_take (i := 12) (v := ?_) rfl (by kernel_rfl) (by kernel_rfl) (by kernel_rfl) (fun _ _ _ h => h) (Or.inl ⟨by go_simp, ?hy⟩) HS ?_
            case hy => intro W hW; have c := cg W hW; go_simp; (try with_reducible rfl)
            try simp only [List.getElem_toArray, List.getElem_cons_zero, List.getElem_cons_succ, Act.put, List.setIfInBounds_toArray, List.set_cons_zero, List.set_cons_succ]
            refine wpAnyH_ready (rs := [7]) (by kernel_rfl) (by simp) ?_
            refine AllReadyH.cons rfl (fun K hK => ?_) AllReadyH.nil
            rw [if_pos (by kernel_rfl)]
            simp only [List.getElem_toArray, List.getElem_cons_zero, List.getElem_cons_succ]
            go_simp
            have hal7 : Below wr.drew.heap.size wr.drew (wr.drew.alloc (.cells (row8 [p.size]).toArray 5)) := (Below.refl _ _).alloc (Nat.le_refl _) _
            have HO7 := Lib.hid (own_below HO.out ((Below.refl wr.heap.size wr).drew.trans hal7))
            refine hK.out _ _ (HS.step hal7) (fun HS => ?_)
            clear hK hal7
            try simp only [List.getElem_toArray, List.getElem_cons_zero, List.getElem_cons_succ, Act.put, List.setIfInBounds_toArray, List.set_cons_zero, List.set_cons_succ]
            refine wpAnyH_ready (rs := [8]) (by kernel_rfl) (by simp) ?_
            refine AllReadyH.cons rfl (fun K hK => ?_) AllReadyH.nil
            rw [if_pos (by kernel_rfl)]
            simp only [List.getElem_toArray, List.getElem_cons_zero, List.getElem_cons_succ]
            have HAD : Hid (∀ i u, (row8 [p.size])[i]? = some u → (wr.drew.alloc (.cells (row8 [p.size]).toArray 5)).cell? ((⟨wr.drew.heap.size, 0, none⟩ : Addr).add i) = some u) := Lib.hid (by
              intro i u hu
              rw [Addr.add_mid, Nat.zero_add, cell_blk (heap_alloc_new _ _), List.getElem?_toArray]
              exact hu)
            refine wp_append_own _ (.tmp 30) (.tmp 37) 22 rfl (w.heap.size + 1) 5 i5 (.int .u8 0) 1 1 Tryd.underlying22 hi hz0 hz1 hz2 rfl (by decide) _ nD _ rfl HO7.out ⟨wr.drew.heap.size, 0, none⟩ 1 1 (row8 [p.size]) rfl rfl HAD.out (row8_one _) (by unfold maxLen; omega) (by omega) HS.low ?_
            intro v8 w8 ho8 hg8 _
            rw [← row8_append] at ho8
            have hs8 := HS.grown HO7.out hg8
            obtain ⟨A8, c8, rfl, -⟩ := own_slice2 ho8
            have HO8 := Lib.hid ho8
            refine hK.out _ _ hs8 (fun HS => ?_)
            clear hK ho8 hg8
            try simp only [List.getElem_toArray, List.getElem_cons_zero, List.getElem_cons_succ, Act.put, List.setIfInBounds_toArray, List.set_cons_zero, List.set_cons_succ]
            refine wpAnyH_ready (rs := [13]) (by kernel_rfl) (by simp) ?_
            refine AllReadyH.cons rfl (fun K hK => ?_) AllReadyH.nil
            rw [if_pos (by kernel_rfl)]
            simp only [List.getElem_toArray, List.getElem_cons_zero, List.getElem_cons_succ]
            refine appSw (.tmp 38) (.tmp 42) rfl (w.heap.size + 1) _ (D ++ [p.size]) (nD + 1) rfl HO8.out p rfl HFW.out HS.low ?_
            intro v13 w13 ho13 hg13
            have hs13 := HS.grown HO8.out hg13
            have HO13 := Lib.hid ho13
            refine hK.out _ _ hs13 (fun HS => ?_)
            clear hK ho13 hg13
            try simp only [List.getElem_toArray, List.getElem_cons_zero, List.getElem_cons_succ, Act.put, List.setIfInBounds_toArray, List.set_cons_zero, List.set_cons_succ]
            refine wpAnyH_take (i := 14) (v := ?_) rfl (by kernel_rfl) (by kernel_rfl) (by kernel_rfl) (fun _ _ _ h => h) (Or.inl ⟨by go_simp, ?hy⟩) HS ?_
            case hy => intro W hW; go_simp; (try with_reducible rfl)
            try simp only [List.getElem_toArray, List.getElem_cons_zero, List.getElem_cons_succ, Act.put, List.setIfInBounds_toArray, List.set_cons_zero, List.set_cons_succ]
            refine wpAnyH_done (by kernel_rfl) ?_ _
            have HS13 := Lib.hid HS
            have HR : Hid (w13.ownsRow (w.heap.size + 1) 5 1 v13 (domsB n (L.take k) ++ lenT (ps.take (j + 1))).length (row8 (domsB n (L.take k) ++ lenT (ps.take (j + 1))))) := Lib.hid (by
              have e : domsB n (L.take k) ++ lenT (ps.take (j + 1)) = D ++ [p.size] ++ bytesS p := by rw [HLS.out, HDD.out]; simp
              have e2 : (D ++ [p.size] ++ bytesS p).length = nD + 1 + p.size := by rw [List.length_append, List.length_append, bytesS_length, HND.out]; rfl
              rw [e, e2]
              exact HO13.out)
            clear HS
            go_wp2_with fail
            go_roundw
            case rel => exact ⟨j + 1, by omega, by go_num, HR.out, HS13.out⟩
            case measure => simp [intOf]; omega
          · obtain rfl : j = np := by omega
            have ej : ps.take j = ps := List.take_of_length_le (by rw [HNP.out]; exact Nat.le_refl _)
            rw [ej] at hO hdlj
            obtain ⟨D, hD⟩ : ∃ D, D = domsB n (L.take k) ++ lenT ps := ⟨_, rfl⟩
            rw [← hD] at hO hdlj
            have HOA : Hid (OwnC (wr.alloc (.cells (row8 [0]).toArray 5)) (w.heap.size + 1) u5 D) := Lib.hid ((OwnC.of_own hO).below ((Below.refl _ _).alloc (Nat.le_refl _) _))
            have HAD : Hid (∀ i u, (row8 [0])[i]? = some u → (wr.alloc (.cells (row8 [0]).toArray 5)).cell? ((⟨wr.heap.size, 0, none⟩ : Addr).add i) = some u) := Lib.hid (by
              intro i u hu
              rw [Addr.add_mid, Nat.zero_add, cell_blk (heap_alloc_new _ _), List.getElem?_toArray]
              exact hu)
            have HDD := Lib.hid hD
            have HPP := Lib.hid hP
            have hszP := hP.low
            obtain ⟨A6, c6, hv6, -⟩ := own_slice2 hO
            subst hv6
            clear hO hP hD ej
            go_wp2_with (at_builtin; refine app8k rfl _ _ rfl (w.heap.size + 1) _ D rfl HOA.out ⟨wr.heap.size, 0, none⟩ 1 1 [0] rfl rfl (by decide) HAD.out ?c3 ?c4 ?_)
            case c3 => omega
            case c4 => simp; omega
            intro v5 w5 ho5 hb5 hk5
            have HR5 : Hid (w5.ownsRow (w.heap.size + 1) 5 1 v5 (domsB n (L.take (k + 1))).length (row8 (domsB n (L.take (k + 1))))) := Lib.hid (by
              have ed : domB s.data.toList = lenT ps ++ [0] := by unfold domB; rw [if_pos HDK.out, lenT_data HPS.out]
              have e : domsB n (L.take (k + 1)) = D ++ [0] := by rw [HS.out, ed, HDD.out]; simp
              rw [e, List.length_append]
              exact ho5)
            have HW5 := Lib.hid ((HPP.out.below.trans (((Below.refl wr.heap.size wr).alloc (Nat.le_refl _) (.cells (row8 [0]).toArray 5)).mono (by omega))).trans hb5)
            clear ho5 hb5 hk5
            go_wp2_with fail
            go_roundw
            case rel => exact ⟨k + 1, by omega, by go_num, HR5.out, HW5.out⟩
            case measure => simp [intOf]; omega
      · have HE : Hid (domB s.data.toList = []) := Lib.hid (by unfold domB; rw [hdk]; rfl)
        have HR5 : Hid (w2.ownsRow (w.heap.size + 1) 5 1 u5 (domsB n (L.take (k + 1))).length (row8 (domsB n (L.take (k + 1))))) := Lib.hid (by rw [HS.out, HE.out, List.append_nil]; exact HO2.out)
        clear hop hb2 hdk HSP
        go_wp2_with fail
        obtain ⟨v5, hv5⟩ : ∃ v5, v5 = u5 := ⟨_, rfl⟩
        go_loop [5, 8] (fun v i => v = u5 ∧ i = .int .i64 0) (fun _ i => 0)
        case atStart => exact ⟨rfl, rfl⟩
        case round =>
          obtain ⟨rfl, rfl⟩ := hrel
          go_wp2_with fail
          go_roundw
          case rel => exact ⟨k + 1, by omega, by go_num, HR5.out, HW2.out⟩
          case measure => simp [intOf]; omega
    · obtain rfl : k = m := by omega
      have e : L.take k = L := List.take_of_length_le (by rw [HM.out]; exact Nat.le_refl _)
      rw [e] at hO
      obtain ⟨q, hq⟩ : ∃ q, (domsB n L).length = q := ⟨_, rfl⟩
      have HLL := Lib.hid hq
      rw [hq] at hO
      obtain ⟨A9, c9, hv9, g3⟩ := own_slice2 hO
      subst hv9
      have hq := (hW.block _ (Nat.lt_succ_self _)).trans HQ9.out
      have d0 := cell_blk hq 0
      have d1 := cell_blk hq 1
      have f0 := frozen_blk hq 0
      have f1 := frozen_blk hq 1
      simp only [List.getElem?_toArray, List.getElem?_cons_zero, List.getElem?_cons_succ] at d0 d1
      have HO5 := Lib.hid (own_mono hO (Nat.le_succ _))
      have HB5 := Lib.hid (HB9.out.trans (hW.mono (by omega)))
      have HQ := Lib.hid hq
      clear hO hq hW HOC
      go_wp2_with fail
      obtain ⟨g0, g1⟩ := end_cells (v0 := .int .u8 (31 : Int)) (v1 := .slice A9 q c9) HQ.out
      refine bodyPost_ret (v := .agg #[.int .u8 (31 : Int), .slice A9 q c9]) ?_ rfl ?_
      · simp [results, Tryd.results42, go_sem, g0, g1]
        try rfl
      · exact made_end HO5.out HLL.out g3 (Nat.le_refl _) HQ.out (Nat.le_refl _) HB5.out
end Go.Proofs.YtfolamkjlgpgmaaDoor
