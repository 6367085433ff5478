/- An option of a prefix: the document's walk. No condition. -/
import Derived.Test.YtfolamkjlgpgmaaDoorInfo
namespace Go.Proofs.YtfolamkjlgpgmaaDoor
open Go.RowKit
set_option linter.unusedVariables false
set_option linter.unusedSimpArgs false
theorem three_new (w : World) (a b c : Obj) : Below w.heap.size w (((w.alloc a).alloc b).alloc c) ∧ (((w.alloc a).alloc b).alloc c).heap[w.heap.size]? = some a ∧ (((w.alloc a).alloc b).alloc c).heap[w.heap.size + 1]? = some b ∧
    (((w.alloc a).alloc b).alloc c).heap[w.heap.size + 1 + 1]? = some c ∧ (((w.alloc a).alloc b).alloc c).heap.size = w.heap.size + 1 + 1 + 1 := by
  obtain ⟨h1, h2, h3, h4, h5, h6⟩ := four_new w a b c c
  obtain ⟨k1, k2, k3⟩ := two_new w a b
  have hs : ((w.alloc a).alloc b).heap.size = w.heap.size + 1 + 1 := by simp
  have hn := heap_alloc_new ((w.alloc a).alloc b) c
  rw [hs] at hn
  have hb : Below (w.heap.size + 1 + 1) ((w.alloc a).alloc b) (((w.alloc a).alloc b).alloc c) := (Below.refl _ _).alloc (by rw [hs]; exact Nat.le_refl _) _
  exact ⟨k1.trans (hb.mono (by omega)), (hb.block _ (by omega)).trans k2, (hb.block _ (by omega)).trans k3, hn, by simp⟩
/-- the box of a prefix, and the result's block -/
structure RS (w : World) (c : Array Value) (W : World) : Prop where
  box : W.heap[w.heap.size]? = some (.cells c 56 (0, 0))
  res : W.heap[w.heap.size + 1]? = some (.cells #[.int .u8 0, .slice none 0 0] 41 (0, 0))
  below : Below w.heap.size w W
theorem RS.step {w W W' : World} {c : Array Value} (h : RS w c W) (hb : Below W.heap.size W W') : RS w c W' :=
  ⟨(hb.block _ (lt_of_blk h.box)).trans h.box, (hb.block _ (lt_of_blk h.res)).trans h.res, h.below.trans (hb.mono h.below.size)⟩
theorem RS.grown {w W W' : World} {c : Array Value} {v : Value} {n : Nat} {xs : List Value} (h : RS w c W) (ho : W.ownsRow w.heap.size 5 1 v n xs) (hg : W.grownBy W' v.ownBlock) : RS w c W' := by
  refine ⟨(hg.block _ (lt_of_blk h.box) (fun e => ?_)).trans h.box, (hg.block _ (lt_of_blk h.res) (fun e => ?_)).trans h.res, Below.grown' h.below hg h.below.size (fun k hk => (ho.lt k hk).1)⟩
  · rcases own_blk2 ho h.box (by decide) with h1 | h1
    · rw [h1] at e; cases e
    · exact h1 e.symm
  · rcases own_blk2 ho h.res (by decide) with h1 | h1
    · rw [h1] at e; cases e
    · exact h1 e.symm
/-- the noughts' block, apart from one's own row -/
structure ZB (W : World) (z : Nat) (v : Value) : Prop where
  blk : W.heap[z]? = some (.cells (row8 (be4 0)).toArray 5 (0, 0))
  ne : v.ownBlock = none ∨ v.ownBlock ≠ some z
theorem z_new {w W : World} {c : Array Value} {v : Value} {n : Nat} {xs : List Value} (h : RS w c W) (ho : W.ownsRow w.heap.size 5 1 v n xs) : Hid (ZB (W.alloc (.cells (row8 (be4 0)).toArray 5)) W.heap.size v) ∧ Hid ((W.alloc (.cells (row8 (be4 0)).toArray 5)).ownsRow w.heap.size 5 1 v n xs) ∧ RS w c (W.alloc (.cells (row8 (be4 0)).toArray 5)) := by
  have hal : Below W.heap.size W (W.alloc (.cells (row8 (be4 0)).toArray 5)) := (Below.refl _ _).alloc (Nat.le_refl _) _
  refine ⟨Lib.hid ⟨heap_alloc_new _ _, ?_⟩, Lib.hid (own_below ho hal), h.step hal⟩
  cases hv : v.ownBlock with
  | none => exact .inl rfl
  | some k => right; intro e; cases e; have := (ho.lt _ hv).2; omega
theorem ZB.step {W W' : World} {z : Nat} {v : Value} (h : ZB W z v) (hb : Below W.heap.size W W') : ZB W' z v := ⟨(hb.block _ (lt_of_blk h.blk)).trans h.blk, h.ne⟩
theorem ZB.grown {W W' : World} {z n base : Nat} {v v' : Value} {xs : List Value} (h : ZB W z v) (hg : W.grownBy W' v.ownBlock) (ho : W'.ownsRow base 5 1 v' n xs) (hn : 4 < n) : ZB W' z v' := by
  have hb : W'.heap[z]? = some (.cells (row8 (be4 0)).toArray 5 (0, 0)) := (hg.block _ (lt_of_blk h.blk) (fun e => by
    rcases h.ne with h1 | h1
    · rw [h1] at e; cases e
    · exact h1 e.symm)).trans h.blk
  refine ⟨hb, ?_⟩
  rcases ho.2 with ⟨rfl, _⟩ | ⟨g, cap, cur, rfl, _, hg2, hnc, _, hs, _⟩
  · exact .inl rfl
  · right
    intro e
    simp only [Value.ownBlock, Option.some.injEq] at e
    subst e
    rw [hb] at hg2
    cases hg2
    rw [List.size_toArray, row8_length] at hs
    have h4 : (be4 0).length = 4 := rfl
    omega
theorem adds_step {W W' : World} {g : Nat} {d : List Nat} (h : ∀ j u, (row8 d)[j]? = some u → W.cell? ((⟨g, 0, none⟩ : Addr).add j) = some u) (hb : Below W.heap.size W W') : ∀ j u, (row8 d)[j]? = some u → W'.cell? ((⟨g, 0, none⟩ : Addr).add j) = some u := by
  intro j u hu
  have h1 := h j u hu
  rw [Addr.add_mid] at h1 ⊢
  exact (hb.cell (p := ⟨g, 0 + j, none⟩) (lt_of_cell h1)).trans h1
theorem ZB.adds {W : World} {z : Nat} {v : Value} (h : ZB W z v) : ∀ j u, (row8 (be4 0))[j]? = some u → W.cell? ((⟨z, 0, none⟩ : Addr).add j) = some u := by
  intro j u hu
  rw [Addr.add_mid, Nat.zero_add, cell_blk h.blk, List.getElem?_toArray]
  exact hu
set_option maxRecDepth 100000 in
set_option maxHeartbeats 4000000 in
theorem info37 (x : Nat → Nat) (bits v p : Nat) (on auto : Bool) (hv : v < 4294967296) (hp : p < 4294967296) (w : World) :
    Calls Tryd.prog 37 #[.agg #[.int .u8 (x 0 : Int), .int .u8 (x 1 : Int), .int .u8 (x 2 : Int), .int .u8 (x 3 : Int), .int .u8 (x 4 : Int), .int .u8 (x 5 : Int), .int .u8 (x 6 : Int), .int .u8 (x 7 : Int), .int .u8 (x 8 : Int), .int .u8 (x 9 : Int), .int .u8 (x 10 : Int), .int .u8 (x 11 : Int), .int .u8 (x 12 : Int), .int .u8 (x 13 : Int), .int .u8 (x 14 : Int), .int .u8 (x 15 : Int), .int .u8 (bits : Int), .bool on, .bool auto, .int .u32 (v : Int), .int .u32 (p : Int)]] w (MadePost 3 (infoB x bits v p (flagO on auto)) w) := by
  obtain ⟨i5, hi, hz0, hz1, hz2⟩ := info_parts info5
  go_enter Tryd.func37, Tryd.ntmps37
  go_upto_if 6 with (fail)
  go_cut [3] (fun u wx => u = .int .u8 ((if on then 128 else 0 : Nat) : Int) ∧ wx = (w.alloc (.cells #[.int .u8 (x 0 : Int), .int .u8 (x 1 : Int), .int .u8 (x 2 : Int), .int .u8 (x 3 : Int), .int .u8 (x 4 : Int), .int .u8 (x 5 : Int), .int .u8 (x 6 : Int), .int .u8 (x 7 : Int), .int .u8 (x 8 : Int), .int .u8 (x 9 : Int), .int .u8 (x 10 : Int), .int .u8 (x 11 : Int), .int .u8 (x 12 : Int), .int .u8 (x 13 : Int), .int .u8 (x 14 : Int), .int .u8 (x 15 : Int), .int .u8 (bits : Int), .bool on, .bool auto, .int .u32 (v : Int), .int .u32 (p : Int)] 56)).alloc (.cells #[.int .u8 0, .slice none 0 0] 41))
  case first =>
    cases on
    · go_wp2_with fail
      go_meet
      case rel => exact ⟨rfl, rfl⟩
    · go_wp2_with fail
      go_meet
      case rel => exact ⟨rfl, rfl⟩
  case rest =>
    obtain ⟨rfl, rfl⟩ := hcut
    go_upto_if 10 with (fail)
    go_cut [3] (fun u wx => u = .int .u8 ((flagO on auto : Nat) : Int) ∧ wx = (w.alloc (.cells #[.int .u8 (x 0 : Int), .int .u8 (x 1 : Int), .int .u8 (x 2 : Int), .int .u8 (x 3 : Int), .int .u8 (x 4 : Int), .int .u8 (x 5 : Int), .int .u8 (x 6 : Int), .int .u8 (x 7 : Int), .int .u8 (x 8 : Int), .int .u8 (x 9 : Int), .int .u8 (x 10 : Int), .int .u8 (x 11 : Int), .int .u8 (x 12 : Int), .int .u8 (x 13 : Int), .int .u8 (x 14 : Int), .int .u8 (x 15 : Int), .int .u8 (bits : Int), .bool on, .bool auto, .int .u32 (v : Int), .int .u32 (p : Int)] 56)).alloc (.cells #[.int .u8 0, .slice none 0 0] 41))
    case first =>
      cases on <;> cases auto
      all_goals
        go_wp2_with fail
        go_meet
        case rel => exact ⟨rfl, rfl⟩
    case rest =>
      obtain ⟨rfl, rfl⟩ := hcut
      obtain ⟨F, hF⟩ : ∃ F, F = flagO on auto := ⟨_, rfl⟩
      have hF8 : F < 256 := by rw [hF]; unfold flagO; cases on <;> cases auto <;> decide
      rw [← hF]
      have HF := Lib.hid hF
      clear hF
      obtain ⟨hb, h0, h1, h2, hs⟩ := three_new w (.cells #[.int .u8 (x 0 : Int), .int .u8 (x 1 : Int), .int .u8 (x 2 : Int), .int .u8 (x 3 : Int), .int .u8 (x 4 : Int), .int .u8 (x 5 : Int), .int .u8 (x 6 : Int), .int .u8 (x 7 : Int), .int .u8 (x 8 : Int), .int .u8 (x 9 : Int), .int .u8 (x 10 : Int), .int .u8 (x 11 : Int), .int .u8 (x 12 : Int), .int .u8 (x 13 : Int), .int .u8 (x 14 : Int), .int .u8 (x 15 : Int), .int .u8 (bits : Int), .bool on, .bool auto, .int .u32 (v : Int), .int .u32 (p : Int)] 56) (.cells #[.int .u8 0, .slice none 0 0] 41) (.cells #[.int .u8 (bits : Int), .int .u8 (F : Int)] 5)
      obtain ⟨W, hW⟩ : ∃ W, W = ((w.alloc (.cells #[.int .u8 (x 0 : Int), .int .u8 (x 1 : Int), .int .u8 (x 2 : Int), .int .u8 (x 3 : Int), .int .u8 (x 4 : Int), .int .u8 (x 5 : Int), .int .u8 (x 6 : Int), .int .u8 (x 7 : Int), .int .u8 (x 8 : Int), .int .u8 (x 9 : Int), .int .u8 (x 10 : Int), .int .u8 (x 11 : Int), .int .u8 (x 12 : Int), .int .u8 (x 13 : Int), .int .u8 (x 14 : Int), .int .u8 (x 15 : Int), .int .u8 (bits : Int), .bool on, .bool auto, .int .u32 (v : Int), .int .u32 (p : Int)] 56)).alloc (.cells #[.int .u8 0, .slice none 0 0] 41)).alloc (.cells #[.int .u8 (bits : Int), .int .u8 (F : Int)] 5) := ⟨_, rfl⟩
      rw [← hW] at hb h0 h1 h2 hs
      have hS : RS w #[.int .u8 (x 0 : Int), .int .u8 (x 1 : Int), .int .u8 (x 2 : Int), .int .u8 (x 3 : Int), .int .u8 (x 4 : Int), .int .u8 (x 5 : Int), .int .u8 (x 6 : Int), .int .u8 (x 7 : Int), .int .u8 (x 8 : Int), .int .u8 (x 9 : Int), .int .u8 (x 10 : Int), .int .u8 (x 11 : Int), .int .u8 (x 12 : Int), .int .u8 (x 13 : Int), .int .u8 (x 14 : Int), .int .u8 (x 15 : Int), .int .u8 (bits : Int), .bool on, .bool auto, .int .u32 (v : Int), .int .u32 (p : Int)] W.drew := ⟨h0, h1, hb.drew⟩
      have HO : Hid (W.drew.ownsRow w.heap.size 5 1 (.slice (some ⟨w.heap.size + 1 + 1, 0, none⟩) 2 2) 2 (row8 [bits, F])) := Lib.hid (own_below (blk_own (l := [bits, F]) h2 (base := w.heap.size) (by omega) (by simp)) (Below.refl _ _).drew)
      have cv : ∀ W, RS w #[.int .u8 (x 0 : Int), .int .u8 (x 1 : Int), .int .u8 (x 2 : Int), .int .u8 (x 3 : Int), .int .u8 (x 4 : Int), .int .u8 (x 5 : Int), .int .u8 (x 6 : Int), .int .u8 (x 7 : Int), .int .u8 (x 8 : Int), .int .u8 (x 9 : Int), .int .u8 (x 10 : Int), .int .u8 (x 11 : Int), .int .u8 (x 12 : Int), .int .u8 (x 13 : Int), .int .u8 (x 14 : Int), .int .u8 (x 15 : Int), .int .u8 (bits : Int), .bool on, .bool auto, .int .u32 (v : Int), .int .u32 (p : Int)] W → W.cell? ⟨w.heap.size, 19, none⟩ = some (.int .u32 (v : Int)) := fun W hW => by rw [cell_blk hW.box]; rfl
      have cp : ∀ W, RS w #[.int .u8 (x 0 : Int), .int .u8 (x 1 : Int), .int .u8 (x 2 : Int), .int .u8 (x 3 : Int), .int .u8 (x 4 : Int), .int .u8 (x 5 : Int), .int .u8 (x 6 : Int), .int .u8 (x 7 : Int), .int .u8 (x 8 : Int), .int .u8 (x 9 : Int), .int .u8 (x 10 : Int), .int .u8 (x 11 : Int), .int .u8 (x 12 : Int), .int .u8 (x 13 : Int), .int .u8 (x 14 : Int), .int .u8 (x 15 : Int), .int .u8 (bits : Int), .bool on, .bool auto, .int .u32 (v : Int), .int .u32 (p : Int)] W → W.cell? ⟨w.heap.size, 20, none⟩ = some (.int .u32 (p : Int)) := fun W hW => by rw [cell_blk hW.box]; rfl
      clear hb h0 h1 h2 hs
      go_wp2_with fail
      rw [← hW]
      clear hW
      refine wp_region_held_drew (S := fun W => RS w #[.int .u8 (x 0 : Int), .int .u8 (x 1 : Int), .int .u8 (x 2 : Int), .int .u8 (x 3 : Int), .int .u8 (x 4 : Int), .int .u8 (x 5 : Int), .int .u8 (x 6 : Int), .int .u8 (x 7 : Int), .int .u8 (x 8 : Int), .int .u8 (x 9 : Int), .int .u8 (x 10 : Int), .int .u8 (x 11 : Int), .int .u8 (x 12 : Int), .int .u8 (x 13 : Int), .int .u8 (x 14 : Int), .int .u8 (x 15 : Int), .int .u8 (bits : Int), .bool on, .bool auto, .int .u32 (v : Int), .int .u32 (p : Int)] W) (by kernel_rfl) hS ?_
      clear hS
      intro HS
      refine wpAnyH_take (i := 0) (v := ?_) rfl (by kernel_rfl) (by kernel_rfl) (by kernel_rfl) (fun _ _ _ h => h) (Or.inl ⟨by go_simp, ?hy⟩) HS ?_
      case hy => intro W hW; go_simp; (try with_reducible rfl)
      try simp only [List.getElem_toArray, List.getElem_cons_zero, List.getElem_cons_succ, Act.put, List.setIfInBounds_toArray, List.set_cons_zero, List.set_cons_succ]
      refine wpAnyH_take (i := 1) (v := ?_) rfl (by kernel_rfl) (by kernel_rfl) (by kernel_rfl) (fun _ _ _ h => h) (Or.inl ⟨by go_simp, ?hy⟩) HS ?_
      case hy => intro W hW; go_simp; (try with_reducible rfl)
      try simp only [List.getElem_toArray, List.getElem_cons_zero, List.getElem_cons_succ, Act.put, List.setIfInBounds_toArray, List.set_cons_zero, List.set_cons_succ]
      refine wpAnyH_take (i := 2) (v := ?_) rfl (by kernel_rfl) (by kernel_rfl) (by kernel_rfl) (fun _ _ _ h => h) (Or.inl ⟨by go_simp, ?hy⟩) HS ?_
      case hy => intro W hW; have c := cv W hW; go_simp; (try with_reducible rfl)
      try simp only [List.getElem_toArray, List.getElem_cons_zero, List.getElem_cons_succ, Act.put, List.setIfInBounds_toArray, List.set_cons_zero, List.set_cons_succ]
      refine wpAnyH_take (i := 5) (v := ?_) rfl (by kernel_rfl) (by kernel_rfl) (by kernel_rfl) (fun _ _ _ h => h) (Or.inl ⟨by go_simp, ?hy⟩) HS ?_
      case hy => intro W hW; go_simp; (try with_reducible rfl)
      try simp only [List.getElem_toArray, List.getElem_cons_zero, List.getElem_cons_succ, Act.put, List.setIfInBounds_toArray, List.set_cons_zero, List.set_cons_succ]
      refine wpAnyH_take (i := 6) (v := ?_) rfl (by kernel_rfl) (by kernel_rfl) (by kernel_rfl) (fun _ _ _ h => h) (Or.inl ⟨by go_simp, ?hy⟩) HS ?_
      case hy => intro W hW; have c := cp W hW; go_simp; (try with_reducible rfl)
      try simp only [List.getElem_toArray, List.getElem_cons_zero, List.getElem_cons_succ, Act.put, List.setIfInBounds_toArray, List.set_cons_zero, List.set_cons_succ]
      refine wpAnyH_ready (rs := [3, 9]) (by kernel_rfl) (by simp) ?_
      refine AllReadyH.cons rfl (fun K hK => ?_) (AllReadyH.cons rfl (fun K hK => ?_) AllReadyH.nil)
      · rw [if_pos (by kernel_rfl)]
        simp only [List.getElem_toArray, List.getElem_cons_zero, List.getElem_cons_succ]
        go_simp
        refine (four70 v (by omega) _).mono ?_
        rintro e w3 ⟨B3, d3, m3, rfl, e3, -, h3, hb3⟩
        replace h3 : w3.ownsRow _ 5 1 (.slice B3 4 m3) 4 (row8 (be4 v)) := h3
        replace e3 : d3 = 4 := e3
        subst e3
        obtain ⟨g3, rfl, -, hc3⟩ := own_adds h3 (by decide)
        have HO := Lib.hid (own_below HO.out hb3)
        have HC := Lib.hid hc3
        refine hK.out _ _ (HS.step hb3) (fun HS => ?_)
        clear hK h3 hb3 hc3
        try simp only [List.getElem_toArray, List.getElem_cons_zero, List.getElem_cons_succ, Act.put, List.setIfInBounds_toArray, List.set_cons_zero, List.set_cons_succ]
        refine wpAnyH_ready (rs := [4, 9]) (by kernel_rfl) (by simp) ?_
        refine AllReadyH.cons rfl (fun K hK => ?_) (AllReadyH.cons rfl (fun K hK => ?_) AllReadyH.nil)
        · rw [if_pos (by kernel_rfl)]
          simp only [List.getElem_toArray, List.getElem_cons_zero, List.getElem_cons_succ]
          refine wp_append_own _ (.tmp 18) (.tmp 21) 22 rfl w.heap.size 5 i5 (.int .u8 0) 1 1 Tryd.underlying22 hi hz0 hz1 hz2 rfl (by decide) _ 2 _ rfl HO.out ⟨g3, 0, none⟩ 4 4 (row8 (be4 v)) rfl rfl HC.out (row8_one _) (by unfold maxLen; omega) (by omega) HS.below.size ?_
          intro v4 w4 ho4 hg4 _
          replace ho4 : w4.ownsRow w.heap.size 5 1 v4 6 (row8 ([bits, F] ++ be4 v)) := ho4
          have hs4 := HS.grown HO.out hg4
          obtain ⟨A4, c4, rfl, hcc4⟩ := own_slice2 ho4
          have HO := Lib.hid ho4
          refine hK.out _ _ hs4 (fun HS => ?_)
          clear hK ho4 hg4
          try simp only [List.getElem_toArray, List.getElem_cons_zero, List.getElem_cons_succ, Act.put, List.setIfInBounds_toArray, List.set_cons_zero, List.set_cons_succ]
          refine wpAnyH_ready (rs := [7, 9]) (by kernel_rfl) (by simp) ?_
          refine AllReadyH.cons rfl (fun K hK => ?_) (AllReadyH.cons rfl (fun K hK => ?_) AllReadyH.nil)
          · rw [if_pos (by kernel_rfl)]
            simp only [List.getElem_toArray, List.getElem_cons_zero, List.getElem_cons_succ]
            go_simp
            refine (four70 p (by omega) _).mono ?_
            rintro e w7 ⟨B7, d7, m7, rfl, e7, -, h7, hb7⟩
            replace h7 : w7.ownsRow _ 5 1 (.slice B7 4 m7) 4 (row8 (be4 p)) := h7
            replace e7 : d7 = 4 := e7
            subst e7
            obtain ⟨g7, rfl, -, hc7⟩ := own_adds h7 (by decide)
            have HO := Lib.hid (own_below HO.out hb7)
            have HC := Lib.hid hc7
            refine hK.out _ _ (HS.step hb7) (fun HS => ?_)
            clear hK h7 hb7 hc7
            try simp only [List.getElem_toArray, List.getElem_cons_zero, List.getElem_cons_succ, Act.put, List.setIfInBounds_toArray, List.set_cons_zero, List.set_cons_succ]
            refine wpAnyH_ready (rs := [8, 9]) (by kernel_rfl) (by simp) ?_
            refine AllReadyH.cons rfl (fun K hK => ?_) (AllReadyH.cons rfl (fun K hK => ?_) AllReadyH.nil)
            · rw [if_pos (by kernel_rfl)]
              simp only [List.getElem_toArray, List.getElem_cons_zero, List.getElem_cons_succ]
              refine wp_append_own _ (.tmp 22) (.tmp 25) 22 rfl w.heap.size 5 i5 (.int .u8 0) 1 1 Tryd.underlying22 hi hz0 hz1 hz2 rfl (by decide) _ 6 _ rfl HO.out ⟨g7, 0, none⟩ 4 4 (row8 (be4 p)) rfl rfl HC.out (row8_one _) (by unfold maxLen; omega) (by omega) HS.below.size ?_
              intro v8 w8 ho8 hg8 _
              replace ho8 : w8.ownsRow w.heap.size 5 1 v8 10 (row8 (([bits, F] ++ be4 v) ++ be4 p)) := ho8
              have hs8 := HS.grown HO.out hg8
              obtain ⟨A8, c8, rfl, hcc8⟩ := own_slice2 ho8
              have HO := Lib.hid ho8
              refine hK.out _ _ hs8 (fun HS => ?_)
              clear hK ho8 hg8
              try simp only [List.getElem_toArray, List.getElem_cons_zero, List.getElem_cons_succ, Act.put, List.setIfInBounds_toArray, List.set_cons_zero, List.set_cons_succ]
              refine wpAnyH_ready (rs := [9]) (by kernel_rfl) (by simp) ?_
              refine AllReadyH.cons rfl (fun K hK => ?_) AllReadyH.nil
              rw [if_pos (by kernel_rfl)]
              simp only [List.getElem_toArray, List.getElem_cons_zero, List.getElem_cons_succ]
              go_simp
              obtain ⟨HZ, HO, hsW⟩ := z_new HS HO.out
              refine hK.out _ _ hsW (fun HS => ?_)
              clear hK hsW
              try simp only [List.getElem_toArray, List.getElem_cons_zero, List.getElem_cons_succ, Act.put, List.setIfInBounds_toArray, List.set_cons_zero, List.set_cons_succ]
              refine wpAnyH_ready (rs := [10]) (by kernel_rfl) (by simp) ?_
              refine AllReadyH.cons rfl (fun K hK => ?_) AllReadyH.nil
              have HCZ := Lib.hid HZ.out.adds
              rw [if_pos (by kernel_rfl)]
              simp only [List.getElem_toArray, List.getElem_cons_zero, List.getElem_cons_succ]
              refine wp_append_own _ (.tmp 26) (.tmp 27) 22 rfl w.heap.size 5 i5 (.int .u8 0) 1 1 Tryd.underlying22 hi hz0 hz1 hz2 rfl (by decide) _ 10 _ rfl HO.out ⟨_, 0, none⟩ 4 4 (row8 (be4 0)) rfl rfl HCZ.out (row8_one _) (by unfold maxLen; omega) (by omega) HS.below.size ?_
              intro v10 w10 ho10 hg10 _
              replace ho10 : w10.ownsRow w.heap.size 5 1 v10 14 (row8 ((([bits, F] ++ be4 v) ++ be4 p) ++ be4 0)) := ho10
              have hs10 := HS.grown HO.out hg10
              obtain ⟨A10, c10, rfl, hcc10⟩ := own_slice2 ho10
              have HO := Lib.hid ho10
              refine hK.out _ _ hs10 (fun HS => ?_)
              clear hK ho10 hg10
              try simp only [List.getElem_toArray, List.getElem_cons_zero, List.getElem_cons_succ, Act.put, List.setIfInBounds_toArray, List.set_cons_zero, List.set_cons_succ]
              refine wpAnyH_take (i := 11) (v := ?_) rfl (by kernel_rfl) (by kernel_rfl) (by kernel_rfl) (fun _ _ _ h => h) (Or.inl ⟨by go_simp, ?hy⟩) HS ?_
              case hy => intro W hW; go_simp; (try with_reducible rfl)
              try simp only [List.getElem_toArray, List.getElem_cons_zero, List.getElem_cons_succ, Act.put, List.setIfInBounds_toArray, List.set_cons_zero, List.set_cons_succ]
              refine wpAnyH_done (by kernel_rfl) ?_ _
              have HS := Lib.hid HS
              have hcell : ∀ j u, (row8 (adr16 x))[j]? = some u → w10.cell? ((⟨w.heap.size, 0, none⟩ : Addr).add j) = some u := by
                intro j u hu
                have hj := (List.getElem?_eq_some_iff.1 hu).1
                have hh : (row8 (adr16 x) ++ [.int .u8 (bits : Int), .bool on, .bool auto, .int .u32 (v : Int), .int .u32 (p : Int)])[j]? = some u := by rw [List.getElem?_append_left hj]; exact hu
                rw [Addr.add_mid, Nat.zero_add, cell_blk HS.out.box]
                show (List.toArray _)[j]? = some u
                rw [List.getElem?_toArray]
                exact hh
              have HC16 := Lib.hid hcell
              have hszz := HS.out.below.size
              clear hcell
              go_wp2_with (at_builtin; refine wpList_append_own _ rfl _ _ 22 rfl w.heap.size 5 i5 (.int .u8 0) 1 1 Tryd.underlying22 hi hz0 hz1 hz2 rfl (by decide) _ 14 _ rfl HO.out ⟨w.heap.size, 0, none⟩ 16 16 (row8 (adr16 x)) rfl rfl HC16.out (row8_one _) (by unfold maxLen; omega) (by omega) hszz ?_)
              intro v5 w5 ho5 hg5 _
              have HS5 := Lib.hid (HS.out.grown HO.out hg5)
              have ho5 : w5.ownsRow w.heap.size 5 1 v5 30 (row8 (infoB x bits v p F)) := ho5
              obtain ⟨A5, c5, rfl, hc5⟩ := own_slice2 ho5
              have HO5 := Lib.hid ho5
              have hq := HS5.out.res
              have d0 := cell_blk hq 0
              have d1 := cell_blk hq 1
              have f0 := frozen_blk hq 0
              have f1 := frozen_blk hq 1
              simp only [List.getElem?_toArray, List.getElem?_cons_zero, List.getElem?_cons_succ] at d0 d1
              have HQ := Lib.hid hq
              clear ho5 hg5 hq
              go_wp2_with fail
              obtain ⟨g0, g1⟩ := end_cells (v0 := .int .u8 (3 : Int)) (v1 := .slice A5 30 c5) HQ.out
              refine bodyPost_ret (v := .agg #[.int .u8 (3 : Int), .slice A5 30 c5]) ?_ rfl ?_
              · simp [results, Tryd.results37, go_sem, g0, g1]
                try rfl
              · rw [← HF.out]
                exact made_end HO5.out rfl hc5 (Nat.le_refl _) HQ.out (Nat.le_succ _) HS5.out.below
            · rw [if_pos (by kernel_rfl)]
              simp only [List.getElem_toArray, List.getElem_cons_zero, List.getElem_cons_succ]
              go_simp
              obtain ⟨HZ, HO, hsW⟩ := z_new HS HO.out
              have HC := Lib.hid (adds_step HC.out ((Below.refl _ _).alloc (Nat.le_refl _) (.cells (row8 (be4 0)).toArray 5)))
              refine hK.out _ _ hsW (fun HS => ?_)
              clear hK hsW
              try simp only [List.getElem_toArray, List.getElem_cons_zero, List.getElem_cons_succ, Act.put, List.setIfInBounds_toArray, List.set_cons_zero, List.set_cons_succ]
              refine wpAnyH_ready (rs := [8]) (by kernel_rfl) (by simp) ?_
              refine AllReadyH.cons rfl (fun K hK => ?_) AllReadyH.nil
              rw [if_pos (by kernel_rfl)]
              simp only [List.getElem_toArray, List.getElem_cons_zero, List.getElem_cons_succ]
              refine wp_append_own _ (.tmp 22) (.tmp 25) 22 rfl w.heap.size 5 i5 (.int .u8 0) 1 1 Tryd.underlying22 hi hz0 hz1 hz2 rfl (by decide) _ 6 _ rfl HO.out ⟨g7, 0, none⟩ 4 4 (row8 (be4 p)) rfl rfl HC.out (row8_one _) (by unfold maxLen; omega) (by omega) HS.below.size ?_
              intro v8 w8 ho8 hg8 _
              replace ho8 : w8.ownsRow w.heap.size 5 1 v8 10 (row8 (([bits, F] ++ be4 v) ++ be4 p)) := ho8
              have hs8 := HS.grown HO.out hg8
              have HZ := Lib.hid (HZ.out.grown hg8 ho8 (by decide))
              obtain ⟨A8, c8, rfl, hcc8⟩ := own_slice2 ho8
              have HO := Lib.hid ho8
              refine hK.out _ _ hs8 (fun HS => ?_)
              clear hK ho8 hg8
              try simp only [List.getElem_toArray, List.getElem_cons_zero, List.getElem_cons_succ, Act.put, List.setIfInBounds_toArray, List.set_cons_zero, List.set_cons_succ]
              refine wpAnyH_ready (rs := [10]) (by kernel_rfl) (by simp) ?_
              refine AllReadyH.cons rfl (fun K hK => ?_) AllReadyH.nil
              have HCZ := Lib.hid HZ.out.adds
              rw [if_pos (by kernel_rfl)]
              simp only [List.getElem_toArray, List.getElem_cons_zero, List.getElem_cons_succ]
              refine wp_append_own _ (.tmp 26) (.tmp 27) 22 rfl w.heap.size 5 i5 (.int .u8 0) 1 1 Tryd.underlying22 hi hz0 hz1 hz2 rfl (by decide) _ 10 _ rfl HO.out ⟨_, 0, none⟩ 4 4 (row8 (be4 0)) rfl rfl HCZ.out (row8_one _) (by unfold maxLen; omega) (by omega) HS.below.size ?_
              intro v10 w10 ho10 hg10 _
              replace ho10 : w10.ownsRow w.heap.size 5 1 v10 14 (row8 ((([bits, F] ++ be4 v) ++ be4 p) ++ be4 0)) := ho10
              have hs10 := HS.grown HO.out hg10
              obtain ⟨A10, c10, rfl, hcc10⟩ := own_slice2 ho10
              have HO := Lib.hid ho10
              refine hK.out _ _ hs10 (fun HS => ?_)
              clear hK ho10 hg10
              try simp only [List.getElem_toArray, List.getElem_cons_zero, List.getElem_cons_succ, Act.put, List.setIfInBounds_toArray, List.set_cons_zero, List.set_cons_succ]
              refine wpAnyH_take (i := 11) (v := ?_) rfl (by kernel_rfl) (by kernel_rfl) (by kernel_rfl) (fun _ _ _ h => h) (Or.inl ⟨by go_simp, ?hy⟩) HS ?_
              case hy => intro W hW; go_simp; (try with_reducible rfl)
              try simp only [List.getElem_toArray, List.getElem_cons_zero, List.getElem_cons_succ, Act.put, List.setIfInBounds_toArray, List.set_cons_zero, List.set_cons_succ]
              refine wpAnyH_done (by kernel_rfl) ?_ _
              have HS := Lib.hid HS
              have hcell : ∀ j u, (row8 (adr16 x))[j]? = some u → w10.cell? ((⟨w.heap.size, 0, none⟩ : Addr).add j) = some u := by
                intro j u hu
                have hj := (List.getElem?_eq_some_iff.1 hu).1
                have hh : (row8 (adr16 x) ++ [.int .u8 (bits : Int), .bool on, .bool auto, .int .u32 (v : Int), .int .u32 (p : Int)])[j]? = some u := by rw [List.getElem?_append_left hj]; exact hu
                rw [Addr.add_mid, Nat.zero_add, cell_blk HS.out.box]
                show (List.toArray _)[j]? = some u
                rw [List.getElem?_toArray]
                exact hh
              have HC16 := Lib.hid hcell
              have hszz := HS.out.below.size
              clear hcell
              go_wp2_with (at_builtin; refine wpList_append_own _ rfl _ _ 22 rfl w.heap.size 5 i5 (.int .u8 0) 1 1 Tryd.underlying22 hi hz0 hz1 hz2 rfl (by decide) _ 14 _ rfl HO.out ⟨w.heap.size, 0, none⟩ 16 16 (row8 (adr16 x)) rfl rfl HC16.out (row8_one _) (by unfold maxLen; omega) (by omega) hszz ?_)
              intro v5 w5 ho5 hg5 _
              have HS5 := Lib.hid (HS.out.grown HO.out hg5)
              have ho5 : w5.ownsRow w.heap.size 5 1 v5 30 (row8 (infoB x bits v p F)) := ho5
              obtain ⟨A5, c5, rfl, hc5⟩ := own_slice2 ho5
              have HO5 := Lib.hid ho5
              have hq := HS5.out.res
              have d0 := cell_blk hq 0
              have d1 := cell_blk hq 1
              have f0 := frozen_blk hq 0
              have f1 := frozen_blk hq 1
              simp only [List.getElem?_toArray, List.getElem?_cons_zero, List.getElem?_cons_succ] at d0 d1
              have HQ := Lib.hid hq
              clear ho5 hg5 hq
              go_wp2_with fail
              obtain ⟨g0, g1⟩ := end_cells (v0 := .int .u8 (3 : Int)) (v1 := .slice A5 30 c5) HQ.out
              refine bodyPost_ret (v := .agg #[.int .u8 (3 : Int), .slice A5 30 c5]) ?_ rfl ?_
              · simp [results, Tryd.results37, go_sem, g0, g1]
                try rfl
              · rw [← HF.out]
                exact made_end HO5.out rfl hc5 (Nat.le_refl _) HQ.out (Nat.le_succ _) HS5.out.below
          · rw [if_pos (by kernel_rfl)]
            simp only [List.getElem_toArray, List.getElem_cons_zero, List.getElem_cons_succ]
            go_simp
            obtain ⟨HZ, HO, hsW⟩ := z_new HS HO.out
            refine hK.out _ _ hsW (fun HS => ?_)
            clear hK hsW
            try simp only [List.getElem_toArray, List.getElem_cons_zero, List.getElem_cons_succ, Act.put, List.setIfInBounds_toArray, List.set_cons_zero, List.set_cons_succ]
            refine wpAnyH_ready (rs := [7]) (by kernel_rfl) (by simp) ?_
            refine AllReadyH.cons rfl (fun K hK => ?_) AllReadyH.nil
            rw [if_pos (by kernel_rfl)]
            simp only [List.getElem_toArray, List.getElem_cons_zero, List.getElem_cons_succ]
            go_simp
            refine (four70 p (by omega) _).mono ?_
            rintro e w7 ⟨B7, d7, m7, rfl, e7, -, h7, hb7⟩
            replace h7 : w7.ownsRow _ 5 1 (.slice B7 4 m7) 4 (row8 (be4 p)) := h7
            replace e7 : d7 = 4 := e7
            subst e7
            obtain ⟨g7, rfl, -, hc7⟩ := own_adds h7 (by decide)
            have HO := Lib.hid (own_below HO.out hb7)
            have HC := Lib.hid hc7
            have HZ := Lib.hid (HZ.out.step hb7)
            refine hK.out _ _ (HS.step hb7) (fun HS => ?_)
            clear hK h7 hb7 hc7
            try simp only [List.getElem_toArray, List.getElem_cons_zero, List.getElem_cons_succ, Act.put, List.setIfInBounds_toArray, List.set_cons_zero, List.set_cons_succ]
            refine wpAnyH_ready (rs := [8]) (by kernel_rfl) (by simp) ?_
            refine AllReadyH.cons rfl (fun K hK => ?_) AllReadyH.nil
            rw [if_pos (by kernel_rfl)]
            simp only [List.getElem_toArray, List.getElem_cons_zero, List.getElem_cons_succ]
            refine wp_append_own _ (.tmp 22) (.tmp 25) 22 rfl w.heap.size 5 i5 (.int .u8 0) 1 1 Tryd.underlying22 hi hz0 hz1 hz2 rfl (by decide) _ 6 _ rfl HO.out ⟨g7, 0, none⟩ 4 4 (row8 (be4 p)) rfl rfl HC.out (row8_one _) (by unfold maxLen; omega) (by omega) HS.below.size ?_
            intro v8 w8 ho8 hg8 _
            replace ho8 : w8.ownsRow w.heap.size 5 1 v8 10 (row8 (([bits, F] ++ be4 v) ++ be4 p)) := ho8
            have hs8 := HS.grown HO.out hg8
            have HZ := Lib.hid (HZ.out.grown hg8 ho8 (by decide))
            obtain ⟨A8, c8, rfl, hcc8⟩ := own_slice2 ho8
            have HO := Lib.hid ho8
            refine hK.out _ _ hs8 (fun HS => ?_)
            clear hK ho8 hg8
            try simp only [List.getElem_toArray, List.getElem_cons_zero, List.getElem_cons_succ, Act.put, List.setIfInBounds_toArray, List.set_cons_zero, List.set_cons_succ]
            refine wpAnyH_ready (rs := [10]) (by kernel_rfl) (by simp) ?_
            refine AllReadyH.cons rfl (fun K hK => ?_) AllReadyH.nil
            have HCZ := Lib.hid HZ.out.adds
            rw [if_pos (by kernel_rfl)]
            simp only [List.getElem_toArray, List.getElem_cons_zero, List.getElem_cons_succ]
            refine wp_append_own _ (.tmp 26) (.tmp 27) 22 rfl w.heap.size 5 i5 (.int .u8 0) 1 1 Tryd.underlying22 hi hz0 hz1 hz2 rfl (by decide) _ 10 _ rfl HO.out ⟨_, 0, none⟩ 4 4 (row8 (be4 0)) rfl rfl HCZ.out (row8_one _) (by unfold maxLen; omega) (by omega) HS.below.size ?_
            intro v10 w10 ho10 hg10 _
            replace ho10 : w10.ownsRow w.heap.size 5 1 v10 14 (row8 ((([bits, F] ++ be4 v) ++ be4 p) ++ be4 0)) := ho10
            have hs10 := HS.grown HO.out hg10
            obtain ⟨A10, c10, rfl, hcc10⟩ := own_slice2 ho10
            have HO := Lib.hid ho10
            refine hK.out _ _ hs10 (fun HS => ?_)
            clear hK ho10 hg10
            try simp only [List.getElem_toArray, List.getElem_cons_zero, List.getElem_cons_succ, Act.put, List.setIfInBounds_toArray, List.set_cons_zero, List.set_cons_succ]
            refine wpAnyH_take (i := 11) (v := ?_) rfl (by kernel_rfl) (by kernel_rfl) (by kernel_rfl) (fun _ _ _ h => h) (Or.inl ⟨by go_simp, ?hy⟩) HS ?_
            case hy => intro W hW; go_simp; (try with_reducible rfl)
            try simp only [List.getElem_toArray, List.getElem_cons_zero, List.getElem_cons_succ, Act.put, List.setIfInBounds_toArray, List.set_cons_zero, List.set_cons_succ]
            refine wpAnyH_done (by kernel_rfl) ?_ _
            have HS := Lib.hid HS
            have hcell : ∀ j u, (row8 (adr16 x))[j]? = some u → w10.cell? ((⟨w.heap.size, 0, none⟩ : Addr).add j) = some u := by
              intro j u hu
              have hj := (List.getElem?_eq_some_iff.1 hu).1
              have hh : (row8 (adr16 x) ++ [.int .u8 (bits : Int), .bool on, .bool auto, .int .u32 (v : Int), .int .u32 (p : Int)])[j]? = some u := by rw [List.getElem?_append_left hj]; exact hu
              rw [Addr.add_mid, Nat.zero_add, cell_blk HS.out.box]
              show (List.toArray _)[j]? = some u
              rw [List.getElem?_toArray]
              exact hh
            have HC16 := Lib.hid hcell
            have hszz := HS.out.below.size
            clear hcell
            go_wp2_with (at_builtin; refine wpList_append_own _ rfl _ _ 22 rfl w.heap.size 5 i5 (.int .u8 0) 1 1 Tryd.underlying22 hi hz0 hz1 hz2 rfl (by decide) _ 14 _ rfl HO.out ⟨w.heap.size, 0, none⟩ 16 16 (row8 (adr16 x)) rfl rfl HC16.out (row8_one _) (by unfold maxLen; omega) (by omega) hszz ?_)
            intro v5 w5 ho5 hg5 _
            have HS5 := Lib.hid (HS.out.grown HO.out hg5)
            have ho5 : w5.ownsRow w.heap.size 5 1 v5 30 (row8 (infoB x bits v p F)) := ho5
            obtain ⟨A5, c5, rfl, hc5⟩ := own_slice2 ho5
            have HO5 := Lib.hid ho5
            have hq := HS5.out.res
            have d0 := cell_blk hq 0
            have d1 := cell_blk hq 1
            have f0 := frozen_blk hq 0
            have f1 := frozen_blk hq 1
            simp only [List.getElem?_toArray, List.getElem?_cons_zero, List.getElem?_cons_succ] at d0 d1
            have HQ := Lib.hid hq
            clear ho5 hg5 hq
            go_wp2_with fail
            obtain ⟨g0, g1⟩ := end_cells (v0 := .int .u8 (3 : Int)) (v1 := .slice A5 30 c5) HQ.out
            refine bodyPost_ret (v := .agg #[.int .u8 (3 : Int), .slice A5 30 c5]) ?_ rfl ?_
            · simp [results, Tryd.results37, go_sem, g0, g1]
              try rfl
            · rw [← HF.out]
              exact made_end HO5.out rfl hc5 (Nat.le_refl _) HQ.out (Nat.le_succ _) HS5.out.below
        · rw [if_pos (by kernel_rfl)]
          simp only [List.getElem_toArray, List.getElem_cons_zero, List.getElem_cons_succ]
          go_simp
          obtain ⟨HZ, HO, hsW⟩ := z_new HS HO.out
          have HC := Lib.hid (adds_step HC.out ((Below.refl _ _).alloc (Nat.le_refl _) (.cells (row8 (be4 0)).toArray 5)))
          refine hK.out _ _ hsW (fun HS => ?_)
          clear hK hsW
          try simp only [List.getElem_toArray, List.getElem_cons_zero, List.getElem_cons_succ, Act.put, List.setIfInBounds_toArray, List.set_cons_zero, List.set_cons_succ]
          refine wpAnyH_ready (rs := [4]) (by kernel_rfl) (by simp) ?_
          refine AllReadyH.cons rfl (fun K hK => ?_) AllReadyH.nil
          rw [if_pos (by kernel_rfl)]
          simp only [List.getElem_toArray, List.getElem_cons_zero, List.getElem_cons_succ]
          refine wp_append_own _ (.tmp 18) (.tmp 21) 22 rfl w.heap.size 5 i5 (.int .u8 0) 1 1 Tryd.underlying22 hi hz0 hz1 hz2 rfl (by decide) _ 2 _ rfl HO.out ⟨g3, 0, none⟩ 4 4 (row8 (be4 v)) rfl rfl HC.out (row8_one _) (by unfold maxLen; omega) (by omega) HS.below.size ?_
          intro v4 w4 ho4 hg4 _
          replace ho4 : w4.ownsRow w.heap.size 5 1 v4 6 (row8 ([bits, F] ++ be4 v)) := ho4
          have hs4 := HS.grown HO.out hg4
          have HZ := Lib.hid (HZ.out.grown hg4 ho4 (by decide))
          obtain ⟨A4, c4, rfl, hcc4⟩ := own_slice2 ho4
          have HO := Lib.hid ho4
          refine hK.out _ _ hs4 (fun HS => ?_)
          clear hK ho4 hg4
          try simp only [List.getElem_toArray, List.getElem_cons_zero, List.getElem_cons_succ, Act.put, List.setIfInBounds_toArray, List.set_cons_zero, List.set_cons_succ]
          refine wpAnyH_ready (rs := [7]) (by kernel_rfl) (by simp) ?_
          refine AllReadyH.cons rfl (fun K hK => ?_) AllReadyH.nil
          rw [if_pos (by kernel_rfl)]
          simp only [List.getElem_toArray, List.getElem_cons_zero, List.getElem_cons_succ]
          go_simp
          refine (four70 p (by omega) _).mono ?_
          rintro e w7 ⟨B7, d7, m7, rfl, e7, -, h7, hb7⟩
          replace h7 : w7.ownsRow _ 5 1 (.slice B7 4 m7) 4 (row8 (be4 p)) := h7
          replace e7 : d7 = 4 := e7
          subst e7
          obtain ⟨g7, rfl, -, hc7⟩ := own_adds h7 (by decide)
          have HO := Lib.hid (own_below HO.out hb7)
          have HC := Lib.hid hc7
          have HZ := Lib.hid (HZ.out.step hb7)
          refine hK.out _ _ (HS.step hb7) (fun HS => ?_)
          clear hK h7 hb7 hc7
          try simp only [List.getElem_toArray, List.getElem_cons_zero, List.getElem_cons_succ, Act.put, List.setIfInBounds_toArray, List.set_cons_zero, List.set_cons_succ]
          refine wpAnyH_ready (rs := [8]) (by kernel_rfl) (by simp) ?_
          refine AllReadyH.cons rfl (fun K hK => ?_) AllReadyH.nil
          rw [if_pos (by kernel_rfl)]
          simp only [List.getElem_toArray, List.getElem_cons_zero, List.getElem_cons_succ]
          refine wp_append_own _ (.tmp 22) (.tmp 25) 22 rfl w.heap.size 5 i5 (.int .u8 0) 1 1 Tryd.underlying22 hi hz0 hz1 hz2 rfl (by decide) _ 6 _ rfl HO.out ⟨g7, 0, none⟩ 4 4 (row8 (be4 p)) rfl rfl HC.out (row8_one _) (by unfold maxLen; omega) (by omega) HS.below.size ?_
          intro v8 w8 ho8 hg8 _
          replace ho8 : w8.ownsRow w.heap.size 5 1 v8 10 (row8 (([bits, F] ++ be4 v) ++ be4 p)) := ho8
          have hs8 := HS.grown HO.out hg8
          have HZ := Lib.hid (HZ.out.grown hg8 ho8 (by decide))
          obtain ⟨A8, c8, rfl, hcc8⟩ := own_slice2 ho8
          have HO := Lib.hid ho8
          refine hK.out _ _ hs8 (fun HS => ?_)
          clear hK ho8 hg8
          try simp only [List.getElem_toArray, List.getElem_cons_zero, List.getElem_cons_succ, Act.put, List.setIfInBounds_toArray, List.set_cons_zero, List.set_cons_succ]
          refine wpAnyH_ready (rs := [10]) (by kernel_rfl) (by simp) ?_
          refine AllReadyH.cons rfl (fun K hK => ?_) AllReadyH.nil
          have HCZ := Lib.hid HZ.out.adds
          rw [if_pos (by kernel_rfl)]
          simp only [List.getElem_toArray, List.getElem_cons_zero, List.getElem_cons_succ]
          refine wp_append_own _ (.tmp 26) (.tmp 27) 22 rfl w.heap.size 5 i5 (.int .u8 0) 1 1 Tryd.underlying22 hi hz0 hz1 hz2 rfl (by decide) _ 10 _ rfl HO.out ⟨_, 0, none⟩ 4 4 (row8 (be4 0)) rfl rfl HCZ.out (row8_one _) (by unfold maxLen; omega) (by omega) HS.below.size ?_
          intro v10 w10 ho10 hg10 _
          replace ho10 : w10.ownsRow w.heap.size 5 1 v10 14 (row8 ((([bits, F] ++ be4 v) ++ be4 p) ++ be4 0)) := ho10
          have hs10 := HS.grown HO.out hg10
          obtain ⟨A10, c10, rfl, hcc10⟩ := own_slice2 ho10
          have HO := Lib.hid ho10
          refine hK.out _ _ hs10 (fun HS => ?_)
          clear hK ho10 hg10
          try simp only [List.getElem_toArray, List.getElem_cons_zero, List.getElem_cons_succ, Act.put, List.setIfInBounds_toArray, List.set_cons_zero, List.set_cons_succ]
          refine wpAnyH_take (i := 11) (v := ?_) rfl (by kernel_rfl) (by kernel_rfl) (by kernel_rfl) (fun _ _ _ h => h) (Or.inl ⟨by go_simp, ?hy⟩) HS ?_
          case hy => intro W hW; go_simp; (try with_reducible rfl)
          try simp only [List.getElem_toArray, List.getElem_cons_zero, List.getElem_cons_succ, Act.put, List.setIfInBounds_toArray, List.set_cons_zero, List.set_cons_succ]
          refine wpAnyH_done (by kernel_rfl) ?_ _
          have HS := Lib.hid HS
          have hcell : ∀ j u, (row8 (adr16 x))[j]? = some u → w10.cell? ((⟨w.heap.size, 0, none⟩ : Addr).add j) = some u := by
            intro j u hu
            have hj := (List.getElem?_eq_some_iff.1 hu).1
            have hh : (row8 (adr16 x) ++ [.int .u8 (bits : Int), .bool on, .bool auto, .int .u32 (v : Int), .int .u32 (p : Int)])[j]? = some u := by rw [List.getElem?_append_left hj]; exact hu
            rw [Addr.add_mid, Nat.zero_add, cell_blk HS.out.box]
            show (List.toArray _)[j]? = some u
            rw [List.getElem?_toArray]
            exact hh
          have HC16 := Lib.hid hcell
          have hszz := HS.out.below.size
          clear hcell
          go_wp2_with (at_builtin; refine wpList_append_own _ rfl _ _ 22 rfl w.heap.size 5 i5 (.int .u8 0) 1 1 Tryd.underlying22 hi hz0 hz1 hz2 rfl (by decide) _ 14 _ rfl HO.out ⟨w.heap.size, 0, none⟩ 16 16 (row8 (adr16 x)) rfl rfl HC16.out (row8_one _) (by unfold maxLen; omega) (by omega) hszz ?_)
          intro v5 w5 ho5 hg5 _
          have HS5 := Lib.hid (HS.out.grown HO.out hg5)
          have ho5 : w5.ownsRow w.heap.size 5 1 v5 30 (row8 (infoB x bits v p F)) := ho5
          obtain ⟨A5, c5, rfl, hc5⟩ := own_slice2 ho5
          have HO5 := Lib.hid ho5
          have hq := HS5.out.res
          have d0 := cell_blk hq 0
          have d1 := cell_blk hq 1
          have f0 := frozen_blk hq 0
          have f1 := frozen_blk hq 1
          simp only [List.getElem?_toArray, List.getElem?_cons_zero, List.getElem?_cons_succ] at d0 d1
          have HQ := Lib.hid hq
          clear ho5 hg5 hq
          go_wp2_with fail
          obtain ⟨g0, g1⟩ := end_cells (v0 := .int .u8 (3 : Int)) (v1 := .slice A5 30 c5) HQ.out
          refine bodyPost_ret (v := .agg #[.int .u8 (3 : Int), .slice A5 30 c5]) ?_ rfl ?_
          · simp [results, Tryd.results37, go_sem, g0, g1]
            try rfl
          · rw [← HF.out]
            exact made_end HO5.out rfl hc5 (Nat.le_refl _) HQ.out (Nat.le_succ _) HS5.out.below
      · rw [if_pos (by kernel_rfl)]
        simp only [List.getElem_toArray, List.getElem_cons_zero, List.getElem_cons_succ]
        go_simp
        obtain ⟨HZ, HO, hsW⟩ := z_new HS HO.out
        refine hK.out _ _ hsW (fun HS => ?_)
        clear hK hsW
        try simp only [List.getElem_toArray, List.getElem_cons_zero, List.getElem_cons_succ, Act.put, List.setIfInBounds_toArray, List.set_cons_zero, List.set_cons_succ]
        refine wpAnyH_ready (rs := [3]) (by kernel_rfl) (by simp) ?_
        refine AllReadyH.cons rfl (fun K hK => ?_) AllReadyH.nil
        rw [if_pos (by kernel_rfl)]
        simp only [List.getElem_toArray, List.getElem_cons_zero, List.getElem_cons_succ]
        go_simp
        refine (four70 v (by omega) _).mono ?_
        rintro e w3 ⟨B3, d3, m3, rfl, e3, -, h3, hb3⟩
        replace h3 : w3.ownsRow _ 5 1 (.slice B3 4 m3) 4 (row8 (be4 v)) := h3
        replace e3 : d3 = 4 := e3
        subst e3
        obtain ⟨g3, rfl, -, hc3⟩ := own_adds h3 (by decide)
        have HO := Lib.hid (own_below HO.out hb3)
        have HC := Lib.hid hc3
        have HZ := Lib.hid (HZ.out.step hb3)
        refine hK.out _ _ (HS.step hb3) (fun HS => ?_)
        clear hK h3 hb3 hc3
        try simp only [List.getElem_toArray, List.getElem_cons_zero, List.getElem_cons_succ, Act.put, List.setIfInBounds_toArray, List.set_cons_zero, List.set_cons_succ]
        refine wpAnyH_ready (rs := [4]) (by kernel_rfl) (by simp) ?_
        refine AllReadyH.cons rfl (fun K hK => ?_) AllReadyH.nil
        rw [if_pos (by kernel_rfl)]
        simp only [List.getElem_toArray, List.getElem_cons_zero, List.getElem_cons_succ]
        refine wp_append_own _ (.tmp 18) (.tmp 21) 22 rfl w.heap.size 5 i5 (.int .u8 0) 1 1 Tryd.underlying22 hi hz0 hz1 hz2 rfl (by decide) _ 2 _ rfl HO.out ⟨g3, 0, none⟩ 4 4 (row8 (be4 v)) rfl rfl HC.out (row8_one _) (by unfold maxLen; omega) (by omega) HS.below.size ?_
        intro v4 w4 ho4 hg4 _
        replace ho4 : w4.ownsRow w.heap.size 5 1 v4 6 (row8 ([bits, F] ++ be4 v)) := ho4
        have hs4 := HS.grown HO.out hg4
        have HZ := Lib.hid (HZ.out.grown hg4 ho4 (by decide))
        obtain ⟨A4, c4, rfl, hcc4⟩ := own_slice2 ho4
        have HO := Lib.hid ho4
        refine hK.out _ _ hs4 (fun HS => ?_)
        clear hK ho4 hg4
        try simp only [List.getElem_toArray, List.getElem_cons_zero, List.getElem_cons_succ, Act.put, List.setIfInBounds_toArray, List.set_cons_zero, List.set_cons_succ]
        refine wpAnyH_ready (rs := [7]) (by kernel_rfl) (by simp) ?_
        refine AllReadyH.cons rfl (fun K hK => ?_) AllReadyH.nil
        rw [if_pos (by kernel_rfl)]
        simp only [List.getElem_toArray, List.getElem_cons_zero, List.getElem_cons_succ]
        go_simp
        refine (four70 p (by omega) _).mono ?_
        rintro e w7 ⟨B7, d7, m7, rfl, e7, -, h7, hb7⟩
        replace h7 : w7.ownsRow _ 5 1 (.slice B7 4 m7) 4 (row8 (be4 p)) := h7
        replace e7 : d7 = 4 := e7
        subst e7
        obtain ⟨g7, rfl, -, hc7⟩ := own_adds h7 (by decide)
        have HO := Lib.hid (own_below HO.out hb7)
        have HC := Lib.hid hc7
        have HZ := Lib.hid (HZ.out.step hb7)
        refine hK.out _ _ (HS.step hb7) (fun HS => ?_)
        clear hK h7 hb7 hc7
        try simp only [List.getElem_toArray, List.getElem_cons_zero, List.getElem_cons_succ, Act.put, List.setIfInBounds_toArray, List.set_cons_zero, List.set_cons_succ]
        refine wpAnyH_ready (rs := [8]) (by kernel_rfl) (by simp) ?_
        refine AllReadyH.cons rfl (fun K hK => ?_) AllReadyH.nil
        rw [if_pos (by kernel_rfl)]
        simp only [List.getElem_toArray, List.getElem_cons_zero, List.getElem_cons_succ]
        refine wp_append_own _ (.tmp 22) (.tmp 25) 22 rfl w.heap.size 5 i5 (.int .u8 0) 1 1 Tryd.underlying22 hi hz0 hz1 hz2 rfl (by decide) _ 6 _ rfl HO.out ⟨g7, 0, none⟩ 4 4 (row8 (be4 p)) rfl rfl HC.out (row8_one _) (by unfold maxLen; omega) (by omega) HS.below.size ?_
        intro v8 w8 ho8 hg8 _
        replace ho8 : w8.ownsRow w.heap.size 5 1 v8 10 (row8 (([bits, F] ++ be4 v) ++ be4 p)) := ho8
        have hs8 := HS.grown HO.out hg8
        have HZ := Lib.hid (HZ.out.grown hg8 ho8 (by decide))
        obtain ⟨A8, c8, rfl, hcc8⟩ := own_slice2 ho8
        have HO := Lib.hid ho8
        refine hK.out _ _ hs8 (fun HS => ?_)
        clear hK ho8 hg8
        try simp only [List.getElem_toArray, List.getElem_cons_zero, List.getElem_cons_succ, Act.put, List.setIfInBounds_toArray, List.set_cons_zero, List.set_cons_succ]
        refine wpAnyH_ready (rs := [10]) (by kernel_rfl) (by simp) ?_
        refine AllReadyH.cons rfl (fun K hK => ?_) AllReadyH.nil
        have HCZ := Lib.hid HZ.out.adds
        rw [if_pos (by kernel_rfl)]
        simp only [List.getElem_toArray, List.getElem_cons_zero, List.getElem_cons_succ]
        refine wp_append_own _ (.tmp 26) (.tmp 27) 22 rfl w.heap.size 5 i5 (.int .u8 0) 1 1 Tryd.underlying22 hi hz0 hz1 hz2 rfl (by decide) _ 10 _ rfl HO.out ⟨_, 0, none⟩ 4 4 (row8 (be4 0)) rfl rfl HCZ.out (row8_one _) (by unfold maxLen; omega) (by omega) HS.below.size ?_
        intro v10 w10 ho10 hg10 _
        replace ho10 : w10.ownsRow w.heap.size 5 1 v10 14 (row8 ((([bits, F] ++ be4 v) ++ be4 p) ++ be4 0)) := ho10
        have hs10 := HS.grown HO.out hg10
        obtain ⟨A10, c10, rfl, hcc10⟩ := own_slice2 ho10
        have HO := Lib.hid ho10
        refine hK.out _ _ hs10 (fun HS => ?_)
        clear hK ho10 hg10
        try simp only [List.getElem_toArray, List.getElem_cons_zero, List.getElem_cons_succ, Act.put, List.setIfInBounds_toArray, List.set_cons_zero, List.set_cons_succ]
        refine wpAnyH_take (i := 11) (v := ?_) rfl (by kernel_rfl) (by kernel_rfl) (by kernel_rfl) (fun _ _ _ h => h) (Or.inl ⟨by go_simp, ?hy⟩) HS ?_
        case hy => intro W hW; go_simp; (try with_reducible rfl)
        try simp only [List.getElem_toArray, List.getElem_cons_zero, List.getElem_cons_succ, Act.put, List.setIfInBounds_toArray, List.set_cons_zero, List.set_cons_succ]
        refine wpAnyH_done (by kernel_rfl) ?_ _
        have HS := Lib.hid HS
        have hcell : ∀ j u, (row8 (adr16 x))[j]? = some u → w10.cell? ((⟨w.heap.size, 0, none⟩ : Addr).add j) = some u := by
          intro j u hu
          have hj := (List.getElem?_eq_some_iff.1 hu).1
          have hh : (row8 (adr16 x) ++ [.int .u8 (bits : Int), .bool on, .bool auto, .int .u32 (v : Int), .int .u32 (p : Int)])[j]? = some u := by rw [List.getElem?_append_left hj]; exact hu
          rw [Addr.add_mid, Nat.zero_add, cell_blk HS.out.box]
          show (List.toArray _)[j]? = some u
          rw [List.getElem?_toArray]
          exact hh
        have HC16 := Lib.hid hcell
        have hszz := HS.out.below.size
        clear hcell
        go_wp2_with (at_builtin; refine wpList_append_own _ rfl _ _ 22 rfl w.heap.size 5 i5 (.int .u8 0) 1 1 Tryd.underlying22 hi hz0 hz1 hz2 rfl (by decide) _ 14 _ rfl HO.out ⟨w.heap.size, 0, none⟩ 16 16 (row8 (adr16 x)) rfl rfl HC16.out (row8_one _) (by unfold maxLen; omega) (by omega) hszz ?_)
        intro v5 w5 ho5 hg5 _
        have HS5 := Lib.hid (HS.out.grown HO.out hg5)
        have ho5 : w5.ownsRow w.heap.size 5 1 v5 30 (row8 (infoB x bits v p F)) := ho5
        obtain ⟨A5, c5, rfl, hc5⟩ := own_slice2 ho5
        have HO5 := Lib.hid ho5
        have hq := HS5.out.res
        have d0 := cell_blk hq 0
        have d1 := cell_blk hq 1
        have f0 := frozen_blk hq 0
        have f1 := frozen_blk hq 1
        simp only [List.getElem?_toArray, List.getElem?_cons_zero, List.getElem?_cons_succ] at d0 d1
        have HQ := Lib.hid hq
        clear ho5 hg5 hq
        go_wp2_with fail
        obtain ⟨g0, g1⟩ := end_cells (v0 := .int .u8 (3 : Int)) (v1 := .slice A5 30 c5) HQ.out
        refine bodyPost_ret (v := .agg #[.int .u8 (3 : Int), .slice A5 30 c5]) ?_ rfl ?_
        · simp [results, Tryd.results37, go_sem, g0, g1]
          try rfl
        · rw [← HF.out]
          exact made_end HO5.out rfl hc5 (Nat.le_refl _) HQ.out (Nat.le_succ _) HS5.out.below
end Go.Proofs.YtfolamkjlgpgmaaDoor
