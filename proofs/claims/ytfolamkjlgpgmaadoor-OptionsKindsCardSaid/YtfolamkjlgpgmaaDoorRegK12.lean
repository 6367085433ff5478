/- A region of OptionsKinds: with a byte more. No condition but that the option reads. (Printed by gRegK.py.) -/
import Derived.Test.YtfolamkjlgpgmaaDoorKindsP
import Derived.Outline
namespace Go.Proofs.YtfolamkjlgpgmaaDoor
open Go.RowKit
set_option linter.unusedVariables false
set_option linter.unusedSimpArgs false
theorem row_adds {W : World} {b : Nat} {l : List Nat} {z : Nat × Nat} (h : W.heap[b]? = some (.cells (row8 l).toArray 5 z)) : ∀ j u, (row8 l)[j]? = some u → W.cell? ((⟨b, 0, none⟩ : Addr).add j) = some u := by
  intro i u hu
  rw [Addr.add_mid, Nat.zero_add, cell_blk h, List.getElem?_toArray]
  exact hu
theorem own_far {W : World} {B n b t : Nat} {v : Value} {xs : List Value} {cs : Array Value} {z : Nat × Nat} (ho : W.ownsRow B 5 1 v n xs) (h : W.heap[b]? = some (.cells cs t z)) (ht : t ≠ 5 := by decide) : v.ownBlock ≠ some b := by
  rcases ho.2 with ⟨rfl, rfl⟩ | ⟨g, cap, cur, rfl, hb, hg, hn, _⟩
  · intro e; cases e
  · intro e
    cases e
    rw [hg] at h
    injection h with h
    injection h with _ h2 _
    exact ht h2.symm
theorem own_turn {W W' : World} {B n b t : Nat} {v : Value} {xs : List Value} {cs : Array Value} {z : Nat × Nat} {o : Obj} (ho : W.ownsRow B 5 1 v n xs) (h : W.heap[b]? = some (.cells cs t z)) (ht : Turned b o W W') (h5 : t ≠ 5 := by decide) : W'.ownsRow B 5 1 v n xs :=
  ho.kept ht.grown (by
    cases hv : v.ownBlock with
    | none => exact .inl rfl
    | some k => right; intro e; cases e; exact own_far ho h h5 hv)
theorem own_bs1 {w : World} {base c m : Nat} {A : Option Addr} {l : List Nat} (h : w.ownsRow base 5 1 (.slice A m c) m (row8 l)) (hm : l.length = m) : Bs w w.heap.size A c l := by
  subst hm
  exact own_bs0 h
set_option maxRecDepth 100000 in
set_option maxHeartbeats 20000000 in
theorem regK12 {a kd0 n c : Nat} {A : Option Addr} {w : World} (ha : w.heap[a]? = some (.cells #[.int .u8 (kd0 : Int), .slice A n c] 41 (0, 0))) {l : List Nat} (hB : Bs w w.heap.size A c l) (hln : l.length = n) (hn : 0 < n) (hn9 : n ≤ 100000000)
    {u0 u1 u2 u3 u4 u5 u6 u7 u9 u10 u11 u12 u13 u14 u15 u16 u17 u18 u19 u20 u21 u22 u23 u24 u25 u26 u27 u28 u29 u30 u31 u32 u33 u34 u35 u36 u37 u38 u39 u40 u41 u42 u43 u44 u45 u46 u47 u48 u49 u50 u51 u52 u53 u54 u55 u56 u57 u58 u59 u60 u61 u62 u63 u64 u65 u66 u67 u68 u69 u70 u71 u72 u73 u74 u75 u76 u77 u78 u79 u80 u81 u82 u83 u84 u85 u86 u87 u88 u89 u90 u91 u92 u93 u94 u95 u96 u97 u98 u99 u100 u101 u102 u103 u104 u105 u106 u107 u108 u109 u110 u111 u112 u113 u114 u115 u116 u117 u118 u119 u120 u121 u122 u123 : Value} {Q : Exit → Act → World → Prop} (hQ : ∀ c (a : Act) d v W, Q (.panic c) (a.put d v) W → Q (.panic c) a W)
    (h : ∀ (b : Nat) (A6 : Option Addr) (c6 : Nat) (r65 r66 r67 r68 r69 r70 r71 r72 : Value) (W : World), W.heap[b]? = some (.cells #[.int .u8 (kd0 : Int), .slice A6 (n + 1) c6] 41 (0, 0)) → Bs W W.heap.size A6 c6 (l ++ [0]) → Below w.heap.size w W → Q .normal ⟨(List.toArray (u0 :: u1 :: u2 :: u3 :: u4 :: u5 :: u6 :: u7 :: .pointer (some ⟨a, 0, none⟩) :: u9 :: .pointer (some ⟨b, 0, none⟩) :: u11 :: u12 :: u13 :: u14 :: u15 :: u16 :: u17 :: u18 :: u19 :: u20 :: u21 :: u22 :: u23 :: u24 :: u25 :: u26 :: u27 :: u28 :: u29 :: u30 :: u31 :: u32 :: u33 :: u34 :: u35 :: u36 :: u37 :: u38 :: u39 :: u40 :: u41 :: u42 :: u43 :: u44 :: u45 :: u46 :: u47 :: u48 :: u49 :: u50 :: u51 :: u52 :: u53 :: u54 :: u55 :: u56 :: u57 :: u58 :: u59 :: u60 :: u61 :: u62 :: u63 :: u64 :: r65 :: r66 :: r67 :: r68 :: r69 :: r70 :: r71 :: r72 :: u73 :: u74 :: u75 :: u76 :: u77 :: u78 :: u79 :: u80 :: u81 :: u82 :: u83 :: u84 :: u85 :: u86 :: u87 :: u88 :: u89 :: u90 :: u91 :: u92 :: u93 :: u94 :: u95 :: u96 :: u97 :: u98 :: u99 :: u100 :: u101 :: u102 :: u103 :: u104 :: u105 :: u106 :: u107 :: u108 :: u109 :: u110 :: u111 :: u112 :: u113 :: u114 :: u115 :: u116 :: u117 :: u118 :: u119 :: u120 :: u121 :: u122 :: u123 :: [])), []⟩ W) :
    (codeAt [1, 1, 1, 1, 0, 1, 0, 0, 1, 0, 0, 1, 1, 1, 0] (Tryd.f7.body.getD .skip)).wp Tryd.prog Q ⟨(List.toArray (u0 :: u1 :: u2 :: u3 :: u4 :: u5 :: u6 :: u7 :: .pointer (some ⟨a, 0, none⟩) :: u9 :: u10 :: u11 :: u12 :: u13 :: u14 :: u15 :: u16 :: u17 :: u18 :: u19 :: u20 :: u21 :: u22 :: u23 :: u24 :: u25 :: u26 :: u27 :: u28 :: u29 :: u30 :: u31 :: u32 :: u33 :: u34 :: u35 :: u36 :: u37 :: u38 :: u39 :: u40 :: u41 :: u42 :: u43 :: u44 :: u45 :: u46 :: u47 :: u48 :: u49 :: u50 :: u51 :: u52 :: u53 :: u54 :: u55 :: u56 :: u57 :: u58 :: u59 :: u60 :: u61 :: u62 :: u63 :: u64 :: u65 :: u66 :: u67 :: u68 :: u69 :: u70 :: u71 :: u72 :: u73 :: u74 :: u75 :: u76 :: u77 :: u78 :: u79 :: u80 :: u81 :: u82 :: u83 :: u84 :: u85 :: u86 :: u87 :: u88 :: u89 :: u90 :: u91 :: u92 :: u93 :: u94 :: u95 :: u96 :: u97 :: u98 :: u99 :: u100 :: u101 :: u102 :: u103 :: u104 :: u105 :: u106 :: u107 :: u108 :: u109 :: u110 :: u111 :: u112 :: u113 :: u114 :: u115 :: u116 :: u117 :: u118 :: u119 :: u120 :: u121 :: u122 :: u123 :: [])), []⟩ w := by
  obtain ⟨i5, hi, hz0, hz1, hz2⟩ := info_parts info5
  have HA := Lib.hid ha
  have ca0 : ∀ W : World, Below w.heap.size w W → W.cell? ⟨a, 0, none⟩ = some (.int .u8 (kd0 : Int)) := fun W hW => (cell_blk ((hW.block a (lt_of_blk HA.out)).trans HA.out) 0).trans rfl
  have ca1 : ∀ W : World, Below w.heap.size w W → W.cell? ⟨a, 1, none⟩ = some (.slice A n c) := fun W hW => (cell_blk ((hW.block a (lt_of_blk HA.out)).trans HA.out) 1).trans rfl
  obtain ⟨gA, oA, rfl, hgA, hrd⟩ := hB.rd (by rintro rfl; simp at hln; omega)
  have HLN := Lib.hid hln
  have HRA : Hid (∀ W : World, Below w.heap.size w W → ∀ j u, (row8 l)[j]? = some u → W.cell? ((⟨gA, oA, none⟩ : Addr).add j) = some u) := Lib.hid (fun W hW j u hu => by
    obtain ⟨y, h1, rfl⟩ := row8_inv hu
    rw [Addr.add_mid]
    exact (hW.cell (p := ⟨gA, oA + j, none⟩) hgA).trans (hrd j y h1))
  have hS : Below w.heap.size w w.drew := (Below.refl _ _).drew
  clear ha hB hln hgA hrd
  conv in codeAt _ _ => whnf
  refine wp_region_held_drew (S := fun W => Below w.heap.size w W) (by kernel_rfl) hS ?_
  clear hS
  intro HS
  refine wpAnyH_take (i := 0) (v := ?_) rfl (by kernel_rfl) (by kernel_rfl) (by kernel_rfl) (fun c x W h => hQ c _ _ _ W h) (Or.inl ⟨by go_simp, ?hy⟩) HS ?_
  case hy => intro W hW; go_simp; (try with_reducible rfl)
  try simp only [List.getElem_toArray, List.getElem_cons_zero, List.getElem_cons_succ, Act.put, List.setIfInBounds_toArray, List.set_cons_zero, List.set_cons_succ]
  refine wpAnyH_take (i := 1) (v := ?_) rfl (by kernel_rfl) (by kernel_rfl) (by kernel_rfl) (fun c x W h => hQ c _ _ _ W h) (Or.inl ⟨by go_simp, ?hy⟩) HS ?_
  case hy => intro W hW; have c0 := ca0 W hW; go_simp; (try with_reducible rfl)
  try simp only [List.getElem_toArray, List.getElem_cons_zero, List.getElem_cons_succ, Act.put, List.setIfInBounds_toArray, List.set_cons_zero, List.set_cons_succ]
  refine wpAnyH_take (i := 2) (v := ?_) rfl (by kernel_rfl) (by kernel_rfl) (by kernel_rfl) (fun c x W h => hQ c _ _ _ W h) (Or.inl ⟨by go_simp, ?hy⟩) HS ?_
  case hy => intro W hW; go_simp; (try with_reducible rfl)
  try simp only [List.getElem_toArray, List.getElem_cons_zero, List.getElem_cons_succ, Act.put, List.setIfInBounds_toArray, List.set_cons_zero, List.set_cons_succ]
  refine wpAnyH_take (i := 3) (v := ?_) rfl (by kernel_rfl) (by kernel_rfl) (by kernel_rfl) (fun c x W h => hQ c _ _ _ W h) (Or.inl ⟨by go_simp, ?hy⟩) HS ?_
  case hy => intro W hW; have c1 := ca1 W hW; go_simp; (try with_reducible rfl)
  try simp only [List.getElem_toArray, List.getElem_cons_zero, List.getElem_cons_succ, Act.put, List.setIfInBounds_toArray, List.set_cons_zero, List.set_cons_succ]
  refine wpAnyH_ready (rs := [4, 5, 8]) (by kernel_rfl) (by simp) ?_
  refine AllReadyH.cons rfl (fun K hK => ?_) (AllReadyH.cons rfl (fun K hK => ?_) (AllReadyH.cons rfl (fun K hK => ?_) AllReadyH.nil))
  · rw [if_pos (by kernel_rfl)]
    simp only [List.getElem_toArray, List.getElem_cons_zero, List.getElem_cons_succ]
    refine wp_append_own _ _ _ 22 rfl w.drew.heap.size 5 i5 (.int .u8 0) 1 1 Tryd.underlying22 hi hz0 hz1 hz2 rfl (by decide) (.slice none 0 0) 0 [] rfl (World.ownsRow_nil _ _ _ _) ⟨gA, oA, none⟩ n c (row8 l) rfl (by rw [row8_length, HLN.out, Nat.mul_one]) (HRA.out w.drew HS) (row8_one _) (by unfold maxLen; omega) (by omega) (Nat.le_refl _) ?_
    intro v4 W1 ho4 hg4 _
    rw [Nat.zero_add, List.nil_append] at ho4
    obtain ⟨A4, c4, rfl, hc4⟩ := own_slice2 ho4
    have hb4 : Below w.drew.heap.size w.drew W1 := Below.grown' (Below.refl _ _) hg4 (Nat.le_refl _) (fun k hk => by cases hk)
    have HO4 := Lib.hid ho4
    have HLO4 : Hid (w.heap.size ≤ w.drew.heap.size) := Lib.hid HS.size
    have HBX4 : Hid (w.drew.heap.size ≤ W1.heap.size) := Lib.hid hb4.size
    refine hK.out _ _ (HS.trans (hb4.mono HS.size)) (fun HS => ?_)
    clear hK ho4 hg4 hb4 hc4
    try simp only [List.getElem_toArray, List.getElem_cons_zero, List.getElem_cons_succ, Act.put, List.setIfInBounds_toArray, List.set_cons_zero, List.set_cons_succ]
    refine wpAnyH_ready (rs := [5, 8]) (by kernel_rfl) (by simp) ?_
    refine AllReadyH.cons rfl (fun K hK => ?_) (AllReadyH.cons rfl (fun K hK => ?_) AllReadyH.nil)
    · rw [if_pos (by kernel_rfl)]
      simp only [List.getElem_toArray, List.getElem_cons_zero, List.getElem_cons_succ]
      go_simp
      have HP := Lib.hid HS
      have hal : Below W1.heap.size W1 (W1.alloc (.cells (row8 [0]).toArray 5)) := (Below.refl _ _).alloc (Nat.le_refl _) _
      obtain ⟨b5, eb5⟩ : ∃ b, b = W1.heap.size := ⟨_, rfl⟩
      have hnw : (W1.alloc (.cells (row8 [0]).toArray 5)).heap[W1.heap.size]? = some (.cells (row8 [0]).toArray 5 (0, 0)) := heap_alloc_new W1 (.cells (row8 [0]).toArray 5)
      rw [← eb5] at hnw
      obtain ⟨W2, hV⟩ : ∃ V, V = W1.alloc (.cells (row8 [0]).toArray 5) := ⟨_, rfl⟩
      rw [← hV] at hal hnw
      have H5 := Lib.hid hnw
      have HBB := Lib.hid hal
      have HLB5 : Hid (w.heap.size ≤ b5) := Lib.hid (by rw [eb5]; exact HS.size)
      have hN45 : ∀ k, (Value.slice A4 n c4).ownBlock = some k → k ≠ b5 := fun k hk e => by have h1 := (HO4.out.lt k hk).2; omega
      have HN45 := Lib.hid hN45
      clear hN45
      refine hK.out _ _ (show Below w.heap.size w (W1.alloc (.cells (row8 [0]).toArray 5)) from by rw [← hV]; exact HS.trans (hal.mono HS.size)) (fun HS => ?_)
      clear HS
      have HS : Below w.heap.size w W2 := HP.out.trans (HBB.out.mono HP.out.size)
      show wpAnyH _ _ _ _ _ _ _ _ (W1.alloc (.cells (row8 [0]).toArray 5))
      rw [← hV]
      try rw [← eb5]
      have HO4' := Lib.hid (own_below HO4.out HBB.out)
      clear HO4
      have HO4 := HO4'
      clear HO4'
      have HBX4' := Lib.hid (Nat.le_trans HBX4.out HBB.out.size)
      clear HBX4
      have HBX4 := HBX4'
      clear HBX4'
      clear hK hal hnw hV HP HBB
      clear eb5
      try simp only [List.getElem_toArray, List.getElem_cons_zero, List.getElem_cons_succ, Act.put, List.setIfInBounds_toArray, List.set_cons_zero, List.set_cons_succ]
      refine wpAnyH_ready (rs := [6, 8]) (by kernel_rfl) (by simp) ?_
      refine AllReadyH.cons rfl (fun K hK => ?_) (AllReadyH.cons rfl (fun K hK => ?_) AllReadyH.nil)
      · rw [if_pos (by kernel_rfl)]
        simp only [List.getElem_toArray, List.getElem_cons_zero, List.getElem_cons_succ]
        refine wp_append_own _ _ _ 22 rfl _ 5 i5 (.int .u8 0) 1 1 Tryd.underlying22 hi hz0 hz1 hz2 rfl (by decide) _ n _ rfl HO4.out ⟨b5, 0, none⟩ 1 1 (row8 [0]) rfl rfl (row_adds H5.out) (row8_one _) (by unfold maxLen; omega) (by omega) HBX4.out ?_
        intro v6 W3 ho6 hg6 _
        rw [← row8_append] at ho6
        obtain ⟨A6, c6, rfl, hc6⟩ := own_slice2 ho6
        have hb6 := Below.grown' HS hg6 HS.size (fun k hk => Nat.le_trans HLO4.out (HO4.out.lt k hk).1)
        have HO6 := Lib.hid ho6
        refine hK.out _ _ hb6 (fun HS => ?_)
        clear hK ho6 hg6 hb6 hc6
        try simp only [List.getElem_toArray, List.getElem_cons_zero, List.getElem_cons_succ, Act.put, List.setIfInBounds_toArray, List.set_cons_zero, List.set_cons_succ]
        refine wpAnyH_take (i := 7) (v := .agg #[.int .u8 (kd0 : Int), .slice A6 (n + 1) c6]) rfl (by kernel_rfl) (by kernel_rfl) (by kernel_rfl) (fun c x W h => hQ c _ _ _ W h) (Or.inl ⟨by go_simp, fun W hW => by go_simp⟩) HS ?_
        try simp only [List.getElem_toArray, List.getElem_cons_zero, List.getElem_cons_succ, Act.put, List.setIfInBounds_toArray, List.set_cons_zero, List.set_cons_succ]
        refine wpAnyH_ready (rs := [8]) (by kernel_rfl) (by simp) ?_
        refine AllReadyH.cons rfl (fun K hK => ?_) AllReadyH.nil
        rw [if_pos (by kernel_rfl)]
        simp only [List.getElem_toArray, List.getElem_cons_zero, List.getElem_cons_succ]
        go_simp
        have HP := Lib.hid HS
        have hal : Below W3.heap.size W3 (W3.alloc (.cells #[.int .u8 0, .slice none 0 0] 41)) := (Below.refl _ _).alloc (Nat.le_refl _) _
        obtain ⟨b8, eb8⟩ : ∃ b, b = W3.heap.size := ⟨_, rfl⟩
        have hnw : (W3.alloc (.cells #[.int .u8 0, .slice none 0 0] 41)).heap[W3.heap.size]? = some (.cells #[.int .u8 0, .slice none 0 0] 41 (0, 0)) := heap_alloc_new W3 (.cells #[.int .u8 0, .slice none 0 0] 41)
        rw [← eb8] at hnw
        obtain ⟨W4, hV⟩ : ∃ V, V = W3.alloc (.cells #[.int .u8 0, .slice none 0 0] 41) := ⟨_, rfl⟩
        rw [← hV] at hal hnw
        have H8 := Lib.hid hnw
        have HBB := Lib.hid hal
        have HLB8 : Hid (w.heap.size ≤ b8) := Lib.hid (by rw [eb8]; exact HS.size)
        refine hK.out _ _ (show Below w.heap.size w (W3.alloc (.cells #[.int .u8 0, .slice none 0 0] 41)) from by rw [← hV]; exact HS.trans (hal.mono HS.size)) (fun HS => ?_)
        clear HS
        have HS : Below w.heap.size w W4 := HP.out.trans (HBB.out.mono HP.out.size)
        show wpAnyH _ _ _ _ _ _ _ _ (W3.alloc (.cells #[.int .u8 0, .slice none 0 0] 41))
        rw [← hV]
        try rw [← eb8]
        have HO6' := Lib.hid (own_below HO6.out HBB.out)
        clear HO6
        have HO6 := HO6'
        clear HO6'
        clear hK hal hnw hV HP HBB
        clear eb8
        try simp only [List.getElem_toArray, List.getElem_cons_zero, List.getElem_cons_succ, Act.put, List.setIfInBounds_toArray, List.set_cons_zero, List.set_cons_succ]
        refine wpAnyH_ready (rs := [9]) (by kernel_rfl) (by simp) ?_
        refine AllReadyH.cons rfl (fun K hK => ?_) AllReadyH.nil
        rw [if_pos (by kernel_rfl)]
        simp only [List.getElem_toArray, List.getElem_cons_zero, List.getElem_cons_succ]
        have z0 := cell_blk H8.out 0
        have f0 := frozen_blk H8.out 0
        have z1 := cell_blk H8.out 1
        have f1 := frozen_blk H8.out 1
        simp only [List.getElem?_toArray, List.getElem?_cons_zero, List.getElem?_cons_succ] at z0 z1
        go_simp
        have t0 := Turned.setCell H8.out 0 (.int .u8 (kd0 : Int))
        have t1 := t0.trans (Turned.setCell (t0.get (lt_of_blk H8.out)) 1 (.slice A6 (n + 1) c6))
        simp only [List.setIfInBounds_toArray, List.set_cons_zero, List.set_cons_succ] at t1
        have HT := Lib.hid (t1.get (lt_of_blk H8.out))
        have HO9 := Lib.hid (own_turn HO6.out H8.out t1)
        have hb9 := HS.trans (t1.below HLB8.out)
        refine hK.out _ _ hb9 (fun HS => ?_)
        clear hK z0 f0 z1 f1 t0 t1 hb9
        try simp only [List.getElem_toArray, List.getElem_cons_zero, List.getElem_cons_succ, Act.put, List.setIfInBounds_toArray, List.set_cons_zero, List.set_cons_succ]
        refine wpAnyH_done (by kernel_rfl) ?_ _
        exact h _ _ _ _ _ _ _ _ _ _ _ _ HT.out (own_bs1 HO9.out (by rw [List.length_append, HLN.out]; rfl)) HS
      · rw [if_pos (by kernel_rfl)]
        simp only [List.getElem_toArray, List.getElem_cons_zero, List.getElem_cons_succ]
        go_simp
        have HP := Lib.hid HS
        have hal : Below W2.heap.size W2 (W2.alloc (.cells #[.int .u8 0, .slice none 0 0] 41)) := (Below.refl _ _).alloc (Nat.le_refl _) _
        obtain ⟨b8, eb8⟩ : ∃ b, b = W2.heap.size := ⟨_, rfl⟩
        have hnw : (W2.alloc (.cells #[.int .u8 0, .slice none 0 0] 41)).heap[W2.heap.size]? = some (.cells #[.int .u8 0, .slice none 0 0] 41 (0, 0)) := heap_alloc_new W2 (.cells #[.int .u8 0, .slice none 0 0] 41)
        rw [← eb8] at hnw
        obtain ⟨W3, hV⟩ : ∃ V, V = W2.alloc (.cells #[.int .u8 0, .slice none 0 0] 41) := ⟨_, rfl⟩
        rw [← hV] at hal hnw
        have H8 := Lib.hid hnw
        have HBB := Lib.hid hal
        have HLB8 : Hid (w.heap.size ≤ b8) := Lib.hid (by rw [eb8]; exact HS.size)
        refine hK.out _ _ (show Below w.heap.size w (W2.alloc (.cells #[.int .u8 0, .slice none 0 0] 41)) from by rw [← hV]; exact HS.trans (hal.mono HS.size)) (fun HS => ?_)
        clear HS
        have HS : Below w.heap.size w W3 := HP.out.trans (HBB.out.mono HP.out.size)
        show wpAnyH _ _ _ _ _ _ _ _ (W2.alloc (.cells #[.int .u8 0, .slice none 0 0] 41))
        rw [← hV]
        try rw [← eb8]
        have H5' := Lib.hid ((HBB.out.block _ (lt_of_blk H5.out)).trans H5.out)
        clear H5
        have H5 := H5'
        clear H5'
        have HO4' := Lib.hid (own_below HO4.out HBB.out)
        clear HO4
        have HO4 := HO4'
        clear HO4'
        have HBX4' := Lib.hid (Nat.le_trans HBX4.out HBB.out.size)
        clear HBX4
        have HBX4 := HBX4'
        clear HBX4'
        clear hK hal hnw hV HP HBB
        clear eb8
        try simp only [List.getElem_toArray, List.getElem_cons_zero, List.getElem_cons_succ, Act.put, List.setIfInBounds_toArray, List.set_cons_zero, List.set_cons_succ]
        refine wpAnyH_ready (rs := [6]) (by kernel_rfl) (by simp) ?_
        refine AllReadyH.cons rfl (fun K hK => ?_) AllReadyH.nil
        rw [if_pos (by kernel_rfl)]
        simp only [List.getElem_toArray, List.getElem_cons_zero, List.getElem_cons_succ]
        refine wp_append_own _ _ _ 22 rfl _ 5 i5 (.int .u8 0) 1 1 Tryd.underlying22 hi hz0 hz1 hz2 rfl (by decide) _ n _ rfl HO4.out ⟨b5, 0, none⟩ 1 1 (row8 [0]) rfl rfl (row_adds H5.out) (row8_one _) (by unfold maxLen; omega) (by omega) HBX4.out ?_
        intro v6 W4 ho6 hg6 _
        rw [← row8_append] at ho6
        obtain ⟨A6, c6, rfl, hc6⟩ := own_slice2 ho6
        have hb6 := Below.grown' HS hg6 HS.size (fun k hk => Nat.le_trans HLO4.out (HO4.out.lt k hk).1)
        have HO6 := Lib.hid ho6
        have H8' := Lib.hid ((hg6.block _ (lt_of_blk H8.out) (fun e => own_far HO4.out H8.out (by decide) e.symm)).trans H8.out)
        refine hK.out _ _ hb6 (fun HS => ?_)
        clear H8
        have H8 := H8'
        clear H8'
        clear hK ho6 hg6 hb6 hc6
        try simp only [List.getElem_toArray, List.getElem_cons_zero, List.getElem_cons_succ, Act.put, List.setIfInBounds_toArray, List.set_cons_zero, List.set_cons_succ]
        refine wpAnyH_take (i := 7) (v := .agg #[.int .u8 (kd0 : Int), .slice A6 (n + 1) c6]) rfl (by kernel_rfl) (by kernel_rfl) (by kernel_rfl) (fun c x W h => hQ c _ _ _ W h) (Or.inl ⟨by go_simp, fun W hW => by go_simp⟩) HS ?_
        try simp only [List.getElem_toArray, List.getElem_cons_zero, List.getElem_cons_succ, Act.put, List.setIfInBounds_toArray, List.set_cons_zero, List.set_cons_succ]
        refine wpAnyH_ready (rs := [9]) (by kernel_rfl) (by simp) ?_
        refine AllReadyH.cons rfl (fun K hK => ?_) AllReadyH.nil
        rw [if_pos (by kernel_rfl)]
        simp only [List.getElem_toArray, List.getElem_cons_zero, List.getElem_cons_succ]
        have z0 := cell_blk H8.out 0
        have f0 := frozen_blk H8.out 0
        have z1 := cell_blk H8.out 1
        have f1 := frozen_blk H8.out 1
        simp only [List.getElem?_toArray, List.getElem?_cons_zero, List.getElem?_cons_succ] at z0 z1
        go_simp
        have t0 := Turned.setCell H8.out 0 (.int .u8 (kd0 : Int))
        have t1 := t0.trans (Turned.setCell (t0.get (lt_of_blk H8.out)) 1 (.slice A6 (n + 1) c6))
        simp only [List.setIfInBounds_toArray, List.set_cons_zero, List.set_cons_succ] at t1
        have HT := Lib.hid (t1.get (lt_of_blk H8.out))
        have HO9 := Lib.hid (own_turn HO6.out H8.out t1)
        have hb9 := HS.trans (t1.below HLB8.out)
        refine hK.out _ _ hb9 (fun HS => ?_)
        clear hK z0 f0 z1 f1 t0 t1 hb9
        try simp only [List.getElem_toArray, List.getElem_cons_zero, List.getElem_cons_succ, Act.put, List.setIfInBounds_toArray, List.set_cons_zero, List.set_cons_succ]
        refine wpAnyH_done (by kernel_rfl) ?_ _
        exact h _ _ _ _ _ _ _ _ _ _ _ _ HT.out (own_bs1 HO9.out (by rw [List.length_append, HLN.out]; rfl)) HS
    · rw [if_pos (by kernel_rfl)]
      simp only [List.getElem_toArray, List.getElem_cons_zero, List.getElem_cons_succ]
      go_simp
      have HP := Lib.hid HS
      have hal : Below W1.heap.size W1 (W1.alloc (.cells #[.int .u8 0, .slice none 0 0] 41)) := (Below.refl _ _).alloc (Nat.le_refl _) _
      obtain ⟨b8, eb8⟩ : ∃ b, b = W1.heap.size := ⟨_, rfl⟩
      have hnw : (W1.alloc (.cells #[.int .u8 0, .slice none 0 0] 41)).heap[W1.heap.size]? = some (.cells #[.int .u8 0, .slice none 0 0] 41 (0, 0)) := heap_alloc_new W1 (.cells #[.int .u8 0, .slice none 0 0] 41)
      rw [← eb8] at hnw
      obtain ⟨W2, hV⟩ : ∃ V, V = W1.alloc (.cells #[.int .u8 0, .slice none 0 0] 41) := ⟨_, rfl⟩
      rw [← hV] at hal hnw
      have H8 := Lib.hid hnw
      have HBB := Lib.hid hal
      have HLB8 : Hid (w.heap.size ≤ b8) := Lib.hid (by rw [eb8]; exact HS.size)
      refine hK.out _ _ (show Below w.heap.size w (W1.alloc (.cells #[.int .u8 0, .slice none 0 0] 41)) from by rw [← hV]; exact HS.trans (hal.mono HS.size)) (fun HS => ?_)
      clear HS
      have HS : Below w.heap.size w W2 := HP.out.trans (HBB.out.mono HP.out.size)
      show wpAnyH _ _ _ _ _ _ _ _ (W1.alloc (.cells #[.int .u8 0, .slice none 0 0] 41))
      rw [← hV]
      try rw [← eb8]
      have HO4' := Lib.hid (own_below HO4.out HBB.out)
      clear HO4
      have HO4 := HO4'
      clear HO4'
      have HBX4' := Lib.hid (Nat.le_trans HBX4.out HBB.out.size)
      clear HBX4
      have HBX4 := HBX4'
      clear HBX4'
      clear hK hal hnw hV HP HBB
      clear eb8
      try simp only [List.getElem_toArray, List.getElem_cons_zero, List.getElem_cons_succ, Act.put, List.setIfInBounds_toArray, List.set_cons_zero, List.set_cons_succ]
      refine wpAnyH_ready (rs := [5]) (by kernel_rfl) (by simp) ?_
      refine AllReadyH.cons rfl (fun K hK => ?_) AllReadyH.nil
      rw [if_pos (by kernel_rfl)]
      simp only [List.getElem_toArray, List.getElem_cons_zero, List.getElem_cons_succ]
      go_simp
      have HP := Lib.hid HS
      have hal : Below W2.heap.size W2 (W2.alloc (.cells (row8 [0]).toArray 5)) := (Below.refl _ _).alloc (Nat.le_refl _) _
      obtain ⟨b5, eb5⟩ : ∃ b, b = W2.heap.size := ⟨_, rfl⟩
      have hnw : (W2.alloc (.cells (row8 [0]).toArray 5)).heap[W2.heap.size]? = some (.cells (row8 [0]).toArray 5 (0, 0)) := heap_alloc_new W2 (.cells (row8 [0]).toArray 5)
      rw [← eb5] at hnw
      obtain ⟨W3, hV⟩ : ∃ V, V = W2.alloc (.cells (row8 [0]).toArray 5) := ⟨_, rfl⟩
      rw [← hV] at hal hnw
      have H5 := Lib.hid hnw
      have HBB := Lib.hid hal
      have HLB5 : Hid (w.heap.size ≤ b5) := Lib.hid (by rw [eb5]; exact HS.size)
      have hN45 : ∀ k, (Value.slice A4 n c4).ownBlock = some k → k ≠ b5 := fun k hk e => by have h1 := (HO4.out.lt k hk).2; omega
      have HN45 := Lib.hid hN45
      clear hN45
      refine hK.out _ _ (show Below w.heap.size w (W2.alloc (.cells (row8 [0]).toArray 5)) from by rw [← hV]; exact HS.trans (hal.mono HS.size)) (fun HS => ?_)
      clear HS
      have HS : Below w.heap.size w W3 := HP.out.trans (HBB.out.mono HP.out.size)
      show wpAnyH _ _ _ _ _ _ _ _ (W2.alloc (.cells (row8 [0]).toArray 5))
      rw [← hV]
      try rw [← eb5]
      have H8' := Lib.hid ((HBB.out.block _ (lt_of_blk H8.out)).trans H8.out)
      clear H8
      have H8 := H8'
      clear H8'
      have HO4' := Lib.hid (own_below HO4.out HBB.out)
      clear HO4
      have HO4 := HO4'
      clear HO4'
      have HBX4' := Lib.hid (Nat.le_trans HBX4.out HBB.out.size)
      clear HBX4
      have HBX4 := HBX4'
      clear HBX4'
      clear hK hal hnw hV HP HBB
      clear eb5
      try simp only [List.getElem_toArray, List.getElem_cons_zero, List.getElem_cons_succ, Act.put, List.setIfInBounds_toArray, List.set_cons_zero, List.set_cons_succ]
      refine wpAnyH_ready (rs := [6]) (by kernel_rfl) (by simp) ?_
      refine AllReadyH.cons rfl (fun K hK => ?_) AllReadyH.nil
      rw [if_pos (by kernel_rfl)]
      simp only [List.getElem_toArray, List.getElem_cons_zero, List.getElem_cons_succ]
      refine wp_append_own _ _ _ 22 rfl _ 5 i5 (.int .u8 0) 1 1 Tryd.underlying22 hi hz0 hz1 hz2 rfl (by decide) _ n _ rfl HO4.out ⟨b5, 0, none⟩ 1 1 (row8 [0]) rfl rfl (row_adds H5.out) (row8_one _) (by unfold maxLen; omega) (by omega) HBX4.out ?_
      intro v6 W4 ho6 hg6 _
      rw [← row8_append] at ho6
      obtain ⟨A6, c6, rfl, hc6⟩ := own_slice2 ho6
      have hb6 := Below.grown' HS hg6 HS.size (fun k hk => Nat.le_trans HLO4.out (HO4.out.lt k hk).1)
      have HO6 := Lib.hid ho6
      have H8' := Lib.hid ((hg6.block _ (lt_of_blk H8.out) (fun e => own_far HO4.out H8.out (by decide) e.symm)).trans H8.out)
      refine hK.out _ _ hb6 (fun HS => ?_)
      clear H8
      have H8 := H8'
      clear H8'
      clear hK ho6 hg6 hb6 hc6
      try simp only [List.getElem_toArray, List.getElem_cons_zero, List.getElem_cons_succ, Act.put, List.setIfInBounds_toArray, List.set_cons_zero, List.set_cons_succ]
      refine wpAnyH_take (i := 7) (v := .agg #[.int .u8 (kd0 : Int), .slice A6 (n + 1) c6]) rfl (by kernel_rfl) (by kernel_rfl) (by kernel_rfl) (fun c x W h => hQ c _ _ _ W h) (Or.inl ⟨by go_simp, fun W hW => by go_simp⟩) HS ?_
      try simp only [List.getElem_toArray, List.getElem_cons_zero, List.getElem_cons_succ, Act.put, List.setIfInBounds_toArray, List.set_cons_zero, List.set_cons_succ]
      refine wpAnyH_ready (rs := [9]) (by kernel_rfl) (by simp) ?_
      refine AllReadyH.cons rfl (fun K hK => ?_) AllReadyH.nil
      rw [if_pos (by kernel_rfl)]
      simp only [List.getElem_toArray, List.getElem_cons_zero, List.getElem_cons_succ]
      have z0 := cell_blk H8.out 0
      have f0 := frozen_blk H8.out 0
      have z1 := cell_blk H8.out 1
      have f1 := frozen_blk H8.out 1
      simp only [List.getElem?_toArray, List.getElem?_cons_zero, List.getElem?_cons_succ] at z0 z1
      go_simp
      have t0 := Turned.setCell H8.out 0 (.int .u8 (kd0 : Int))
      have t1 := t0.trans (Turned.setCell (t0.get (lt_of_blk H8.out)) 1 (.slice A6 (n + 1) c6))
      simp only [List.setIfInBounds_toArray, List.set_cons_zero, List.set_cons_succ] at t1
      have HT := Lib.hid (t1.get (lt_of_blk H8.out))
      have HO9 := Lib.hid (own_turn HO6.out H8.out t1)
      have hb9 := HS.trans (t1.below HLB8.out)
      refine hK.out _ _ hb9 (fun HS => ?_)
      clear hK z0 f0 z1 f1 t0 t1 hb9
      try simp only [List.getElem_toArray, List.getElem_cons_zero, List.getElem_cons_succ, Act.put, List.setIfInBounds_toArray, List.set_cons_zero, List.set_cons_succ]
      refine wpAnyH_done (by kernel_rfl) ?_ _
      exact h _ _ _ _ _ _ _ _ _ _ _ _ HT.out (own_bs1 HO9.out (by rw [List.length_append, HLN.out]; rfl)) HS
  · rw [if_pos (by kernel_rfl)]
    simp only [List.getElem_toArray, List.getElem_cons_zero, List.getElem_cons_succ]
    go_simp
    have HP := Lib.hid HS
    have hal : Below w.drew.heap.size w.drew (w.drew.alloc (.cells (row8 [0]).toArray 5)) := (Below.refl _ _).alloc (Nat.le_refl _) _
    have hnw : (w.drew.alloc (.cells (row8 [0]).toArray 5)).heap[w.heap.size]? = some (.cells (row8 [0]).toArray 5 (0, 0)) := heap_alloc_new w.drew (.cells (row8 [0]).toArray 5)
    obtain ⟨W1, hV⟩ : ∃ V, V = w.drew.alloc (.cells (row8 [0]).toArray 5) := ⟨_, rfl⟩
    rw [← hV] at hal hnw
    have H5 := Lib.hid hnw
    have HBB := Lib.hid hal
    have HLB5 : Hid (w.heap.size ≤ w.heap.size) := Lib.hid (by exact Nat.le_refl _)
    refine hK.out _ _ (show Below w.heap.size w (w.drew.alloc (.cells (row8 [0]).toArray 5)) from by rw [← hV]; exact HS.trans (hal.mono HS.size)) (fun HS => ?_)
    clear HS
    have HS : Below w.heap.size w W1 := HP.out.trans (HBB.out.mono HP.out.size)
    show wpAnyH _ _ _ _ _ _ _ _ (w.drew.alloc (.cells (row8 [0]).toArray 5))
    rw [← hV]
    clear hK hal hnw hV HP HBB
    try simp only [List.getElem_toArray, List.getElem_cons_zero, List.getElem_cons_succ, Act.put, List.setIfInBounds_toArray, List.set_cons_zero, List.set_cons_succ]
    refine wpAnyH_ready (rs := [4, 8]) (by kernel_rfl) (by simp) ?_
    refine AllReadyH.cons rfl (fun K hK => ?_) (AllReadyH.cons rfl (fun K hK => ?_) AllReadyH.nil)
    · rw [if_pos (by kernel_rfl)]
      simp only [List.getElem_toArray, List.getElem_cons_zero, List.getElem_cons_succ]
      refine wp_append_own _ _ _ 22 rfl W1.heap.size 5 i5 (.int .u8 0) 1 1 Tryd.underlying22 hi hz0 hz1 hz2 rfl (by decide) (.slice none 0 0) 0 [] rfl (World.ownsRow_nil _ _ _ _) ⟨gA, oA, none⟩ n c (row8 l) rfl (by rw [row8_length, HLN.out, Nat.mul_one]) (HRA.out W1 HS) (row8_one _) (by unfold maxLen; omega) (by omega) (Nat.le_refl _) ?_
      intro v4 W2 ho4 hg4 _
      rw [Nat.zero_add, List.nil_append] at ho4
      obtain ⟨A4, c4, rfl, hc4⟩ := own_slice2 ho4
      have hb4 : Below W1.heap.size W1 W2 := Below.grown' (Below.refl _ _) hg4 (Nat.le_refl _) (fun k hk => by cases hk)
      have HO4 := Lib.hid ho4
      have HLO4 : Hid (w.heap.size ≤ W1.heap.size) := Lib.hid HS.size
      have HBX4 : Hid (W1.heap.size ≤ W2.heap.size) := Lib.hid hb4.size
      have hN45 : ∀ k, (Value.slice A4 n c4).ownBlock = some k → k ≠ w.heap.size := fun k hk e => by have h1 := (ho4.lt k hk).1; have h2 := lt_of_blk H5.out; omega
      have HN45 := Lib.hid hN45
      clear hN45
      have H5' := Lib.hid ((hb4.block _ (lt_of_blk H5.out)).trans H5.out)
      refine hK.out _ _ (HS.trans (hb4.mono HS.size)) (fun HS => ?_)
      have H5 := H5'
      clear H5'
      clear hK ho4 hg4 hb4 hc4
      try simp only [List.getElem_toArray, List.getElem_cons_zero, List.getElem_cons_succ, Act.put, List.setIfInBounds_toArray, List.set_cons_zero, List.set_cons_succ]
      refine wpAnyH_ready (rs := [6, 8]) (by kernel_rfl) (by simp) ?_
      refine AllReadyH.cons rfl (fun K hK => ?_) (AllReadyH.cons rfl (fun K hK => ?_) AllReadyH.nil)
      · rw [if_pos (by kernel_rfl)]
        simp only [List.getElem_toArray, List.getElem_cons_zero, List.getElem_cons_succ]
        refine wp_append_own _ _ _ 22 rfl _ 5 i5 (.int .u8 0) 1 1 Tryd.underlying22 hi hz0 hz1 hz2 rfl (by decide) _ n _ rfl HO4.out ⟨w.heap.size, 0, none⟩ 1 1 (row8 [0]) rfl rfl (row_adds H5.out) (row8_one _) (by unfold maxLen; omega) (by omega) HBX4.out ?_
        intro v6 W3 ho6 hg6 _
        rw [← row8_append] at ho6
        obtain ⟨A6, c6, rfl, hc6⟩ := own_slice2 ho6
        have hb6 := Below.grown' HS hg6 HS.size (fun k hk => Nat.le_trans HLO4.out (HO4.out.lt k hk).1)
        have HO6 := Lib.hid ho6
        refine hK.out _ _ hb6 (fun HS => ?_)
        clear hK ho6 hg6 hb6 hc6
        try simp only [List.getElem_toArray, List.getElem_cons_zero, List.getElem_cons_succ, Act.put, List.setIfInBounds_toArray, List.set_cons_zero, List.set_cons_succ]
        refine wpAnyH_take (i := 7) (v := .agg #[.int .u8 (kd0 : Int), .slice A6 (n + 1) c6]) rfl (by kernel_rfl) (by kernel_rfl) (by kernel_rfl) (fun c x W h => hQ c _ _ _ W h) (Or.inl ⟨by go_simp, fun W hW => by go_simp⟩) HS ?_
        try simp only [List.getElem_toArray, List.getElem_cons_zero, List.getElem_cons_succ, Act.put, List.setIfInBounds_toArray, List.set_cons_zero, List.set_cons_succ]
        refine wpAnyH_ready (rs := [8]) (by kernel_rfl) (by simp) ?_
        refine AllReadyH.cons rfl (fun K hK => ?_) AllReadyH.nil
        rw [if_pos (by kernel_rfl)]
        simp only [List.getElem_toArray, List.getElem_cons_zero, List.getElem_cons_succ]
        go_simp
        have HP := Lib.hid HS
        have hal : Below W3.heap.size W3 (W3.alloc (.cells #[.int .u8 0, .slice none 0 0] 41)) := (Below.refl _ _).alloc (Nat.le_refl _) _
        obtain ⟨b8, eb8⟩ : ∃ b, b = W3.heap.size := ⟨_, rfl⟩
        have hnw : (W3.alloc (.cells #[.int .u8 0, .slice none 0 0] 41)).heap[W3.heap.size]? = some (.cells #[.int .u8 0, .slice none 0 0] 41 (0, 0)) := heap_alloc_new W3 (.cells #[.int .u8 0, .slice none 0 0] 41)
        rw [← eb8] at hnw
        obtain ⟨W4, hV⟩ : ∃ V, V = W3.alloc (.cells #[.int .u8 0, .slice none 0 0] 41) := ⟨_, rfl⟩
        rw [← hV] at hal hnw
        have H8 := Lib.hid hnw
        have HBB := Lib.hid hal
        have HLB8 : Hid (w.heap.size ≤ b8) := Lib.hid (by rw [eb8]; exact HS.size)
        refine hK.out _ _ (show Below w.heap.size w (W3.alloc (.cells #[.int .u8 0, .slice none 0 0] 41)) from by rw [← hV]; exact HS.trans (hal.mono HS.size)) (fun HS => ?_)
        clear HS
        have HS : Below w.heap.size w W4 := HP.out.trans (HBB.out.mono HP.out.size)
        show wpAnyH _ _ _ _ _ _ _ _ (W3.alloc (.cells #[.int .u8 0, .slice none 0 0] 41))
        rw [← hV]
        try rw [← eb8]
        have HO6' := Lib.hid (own_below HO6.out HBB.out)
        clear HO6
        have HO6 := HO6'
        clear HO6'
        clear hK hal hnw hV HP HBB
        clear eb8
        try simp only [List.getElem_toArray, List.getElem_cons_zero, List.getElem_cons_succ, Act.put, List.setIfInBounds_toArray, List.set_cons_zero, List.set_cons_succ]
        refine wpAnyH_ready (rs := [9]) (by kernel_rfl) (by simp) ?_
        refine AllReadyH.cons rfl (fun K hK => ?_) AllReadyH.nil
        rw [if_pos (by kernel_rfl)]
        simp only [List.getElem_toArray, List.getElem_cons_zero, List.getElem_cons_succ]
        have z0 := cell_blk H8.out 0
        have f0 := frozen_blk H8.out 0
        have z1 := cell_blk H8.out 1
        have f1 := frozen_blk H8.out 1
        simp only [List.getElem?_toArray, List.getElem?_cons_zero, List.getElem?_cons_succ] at z0 z1
        go_simp
        have t0 := Turned.setCell H8.out 0 (.int .u8 (kd0 : Int))
        have t1 := t0.trans (Turned.setCell (t0.get (lt_of_blk H8.out)) 1 (.slice A6 (n + 1) c6))
        simp only [List.setIfInBounds_toArray, List.set_cons_zero, List.set_cons_succ] at t1
        have HT := Lib.hid (t1.get (lt_of_blk H8.out))
        have HO9 := Lib.hid (own_turn HO6.out H8.out t1)
        have hb9 := HS.trans (t1.below HLB8.out)
        refine hK.out _ _ hb9 (fun HS => ?_)
        clear hK z0 f0 z1 f1 t0 t1 hb9
        try simp only [List.getElem_toArray, List.getElem_cons_zero, List.getElem_cons_succ, Act.put, List.setIfInBounds_toArray, List.set_cons_zero, List.set_cons_succ]
        refine wpAnyH_done (by kernel_rfl) ?_ _
        exact h _ _ _ _ _ _ _ _ _ _ _ _ HT.out (own_bs1 HO9.out (by rw [List.length_append, HLN.out]; rfl)) HS
      · rw [if_pos (by kernel_rfl)]
        simp only [List.getElem_toArray, List.getElem_cons_zero, List.getElem_cons_succ]
        go_simp
        have HP := Lib.hid HS
        have hal : Below W2.heap.size W2 (W2.alloc (.cells #[.int .u8 0, .slice none 0 0] 41)) := (Below.refl _ _).alloc (Nat.le_refl _) _
        obtain ⟨b8, eb8⟩ : ∃ b, b = W2.heap.size := ⟨_, rfl⟩
        have hnw : (W2.alloc (.cells #[.int .u8 0, .slice none 0 0] 41)).heap[W2.heap.size]? = some (.cells #[.int .u8 0, .slice none 0 0] 41 (0, 0)) := heap_alloc_new W2 (.cells #[.int .u8 0, .slice none 0 0] 41)
        rw [← eb8] at hnw
        obtain ⟨W3, hV⟩ : ∃ V, V = W2.alloc (.cells #[.int .u8 0, .slice none 0 0] 41) := ⟨_, rfl⟩
        rw [← hV] at hal hnw
        have H8 := Lib.hid hnw
        have HBB := Lib.hid hal
        have HLB8 : Hid (w.heap.size ≤ b8) := Lib.hid (by rw [eb8]; exact HS.size)
        refine hK.out _ _ (show Below w.heap.size w (W2.alloc (.cells #[.int .u8 0, .slice none 0 0] 41)) from by rw [← hV]; exact HS.trans (hal.mono HS.size)) (fun HS => ?_)
        clear HS
        have HS : Below w.heap.size w W3 := HP.out.trans (HBB.out.mono HP.out.size)
        show wpAnyH _ _ _ _ _ _ _ _ (W2.alloc (.cells #[.int .u8 0, .slice none 0 0] 41))
        rw [← hV]
        try rw [← eb8]
        have H5' := Lib.hid ((HBB.out.block _ (lt_of_blk H5.out)).trans H5.out)
        clear H5
        have H5 := H5'
        clear H5'
        have HO4' := Lib.hid (own_below HO4.out HBB.out)
        clear HO4
        have HO4 := HO4'
        clear HO4'
        have HBX4' := Lib.hid (Nat.le_trans HBX4.out HBB.out.size)
        clear HBX4
        have HBX4 := HBX4'
        clear HBX4'
        clear hK hal hnw hV HP HBB
        clear eb8
        try simp only [List.getElem_toArray, List.getElem_cons_zero, List.getElem_cons_succ, Act.put, List.setIfInBounds_toArray, List.set_cons_zero, List.set_cons_succ]
        refine wpAnyH_ready (rs := [6]) (by kernel_rfl) (by simp) ?_
        refine AllReadyH.cons rfl (fun K hK => ?_) AllReadyH.nil
        rw [if_pos (by kernel_rfl)]
        simp only [List.getElem_toArray, List.getElem_cons_zero, List.getElem_cons_succ]
        refine wp_append_own _ _ _ 22 rfl _ 5 i5 (.int .u8 0) 1 1 Tryd.underlying22 hi hz0 hz1 hz2 rfl (by decide) _ n _ rfl HO4.out ⟨w.heap.size, 0, none⟩ 1 1 (row8 [0]) rfl rfl (row_adds H5.out) (row8_one _) (by unfold maxLen; omega) (by omega) HBX4.out ?_
        intro v6 W4 ho6 hg6 _
        rw [← row8_append] at ho6
        obtain ⟨A6, c6, rfl, hc6⟩ := own_slice2 ho6
        have hb6 := Below.grown' HS hg6 HS.size (fun k hk => Nat.le_trans HLO4.out (HO4.out.lt k hk).1)
        have HO6 := Lib.hid ho6
        have H8' := Lib.hid ((hg6.block _ (lt_of_blk H8.out) (fun e => own_far HO4.out H8.out (by decide) e.symm)).trans H8.out)
        refine hK.out _ _ hb6 (fun HS => ?_)
        clear H8
        have H8 := H8'
        clear H8'
        clear hK ho6 hg6 hb6 hc6
        try simp only [List.getElem_toArray, List.getElem_cons_zero, List.getElem_cons_succ, Act.put, List.setIfInBounds_toArray, List.set_cons_zero, List.set_cons_succ]
        refine wpAnyH_take (i := 7) (v := .agg #[.int .u8 (kd0 : Int), .slice A6 (n + 1) c6]) rfl (by kernel_rfl) (by kernel_rfl) (by kernel_rfl) (fun c x W h => hQ c _ _ _ W h) (Or.inl ⟨by go_simp, fun W hW => by go_simp⟩) HS ?_
        try simp only [List.getElem_toArray, List.getElem_cons_zero, List.getElem_cons_succ, Act.put, List.setIfInBounds_toArray, List.set_cons_zero, List.set_cons_succ]
        refine wpAnyH_ready (rs := [9]) (by kernel_rfl) (by simp) ?_
        refine AllReadyH.cons rfl (fun K hK => ?_) AllReadyH.nil
        rw [if_pos (by kernel_rfl)]
        simp only [List.getElem_toArray, List.getElem_cons_zero, List.getElem_cons_succ]
        have z0 := cell_blk H8.out 0
        have f0 := frozen_blk H8.out 0
        have z1 := cell_blk H8.out 1
        have f1 := frozen_blk H8.out 1
        simp only [List.getElem?_toArray, List.getElem?_cons_zero, List.getElem?_cons_succ] at z0 z1
        go_simp
        have t0 := Turned.setCell H8.out 0 (.int .u8 (kd0 : Int))
        have t1 := t0.trans (Turned.setCell (t0.get (lt_of_blk H8.out)) 1 (.slice A6 (n + 1) c6))
        simp only [List.setIfInBounds_toArray, List.set_cons_zero, List.set_cons_succ] at t1
        have HT := Lib.hid (t1.get (lt_of_blk H8.out))
        have HO9 := Lib.hid (own_turn HO6.out H8.out t1)
        have hb9 := HS.trans (t1.below HLB8.out)
        refine hK.out _ _ hb9 (fun HS => ?_)
        clear hK z0 f0 z1 f1 t0 t1 hb9
        try simp only [List.getElem_toArray, List.getElem_cons_zero, List.getElem_cons_succ, Act.put, List.setIfInBounds_toArray, List.set_cons_zero, List.set_cons_succ]
        refine wpAnyH_done (by kernel_rfl) ?_ _
        exact h _ _ _ _ _ _ _ _ _ _ _ _ HT.out (own_bs1 HO9.out (by rw [List.length_append, HLN.out]; rfl)) HS
    · rw [if_pos (by kernel_rfl)]
      simp only [List.getElem_toArray, List.getElem_cons_zero, List.getElem_cons_succ]
      go_simp
      have HP := Lib.hid HS
      have hal : Below W1.heap.size W1 (W1.alloc (.cells #[.int .u8 0, .slice none 0 0] 41)) := (Below.refl _ _).alloc (Nat.le_refl _) _
      obtain ⟨b8, eb8⟩ : ∃ b, b = W1.heap.size := ⟨_, rfl⟩
      have hnw : (W1.alloc (.cells #[.int .u8 0, .slice none 0 0] 41)).heap[W1.heap.size]? = some (.cells #[.int .u8 0, .slice none 0 0] 41 (0, 0)) := heap_alloc_new W1 (.cells #[.int .u8 0, .slice none 0 0] 41)
      rw [← eb8] at hnw
      obtain ⟨W2, hV⟩ : ∃ V, V = W1.alloc (.cells #[.int .u8 0, .slice none 0 0] 41) := ⟨_, rfl⟩
      rw [← hV] at hal hnw
      have H8 := Lib.hid hnw
      have HBB := Lib.hid hal
      have HLB8 : Hid (w.heap.size ≤ b8) := Lib.hid (by rw [eb8]; exact HS.size)
      refine hK.out _ _ (show Below w.heap.size w (W1.alloc (.cells #[.int .u8 0, .slice none 0 0] 41)) from by rw [← hV]; exact HS.trans (hal.mono HS.size)) (fun HS => ?_)
      clear HS
      have HS : Below w.heap.size w W2 := HP.out.trans (HBB.out.mono HP.out.size)
      show wpAnyH _ _ _ _ _ _ _ _ (W1.alloc (.cells #[.int .u8 0, .slice none 0 0] 41))
      rw [← hV]
      try rw [← eb8]
      have H5' := Lib.hid ((HBB.out.block _ (lt_of_blk H5.out)).trans H5.out)
      clear H5
      have H5 := H5'
      clear H5'
      clear hK hal hnw hV HP HBB
      clear eb8
      try simp only [List.getElem_toArray, List.getElem_cons_zero, List.getElem_cons_succ, Act.put, List.setIfInBounds_toArray, List.set_cons_zero, List.set_cons_succ]
      refine wpAnyH_ready (rs := [4]) (by kernel_rfl) (by simp) ?_
      refine AllReadyH.cons rfl (fun K hK => ?_) AllReadyH.nil
      rw [if_pos (by kernel_rfl)]
      simp only [List.getElem_toArray, List.getElem_cons_zero, List.getElem_cons_succ]
      refine wp_append_own _ _ _ 22 rfl W2.heap.size 5 i5 (.int .u8 0) 1 1 Tryd.underlying22 hi hz0 hz1 hz2 rfl (by decide) (.slice none 0 0) 0 [] rfl (World.ownsRow_nil _ _ _ _) ⟨gA, oA, none⟩ n c (row8 l) rfl (by rw [row8_length, HLN.out, Nat.mul_one]) (HRA.out W2 HS) (row8_one _) (by unfold maxLen; omega) (by omega) (Nat.le_refl _) ?_
      intro v4 W3 ho4 hg4 _
      rw [Nat.zero_add, List.nil_append] at ho4
      obtain ⟨A4, c4, rfl, hc4⟩ := own_slice2 ho4
      have hb4 : Below W2.heap.size W2 W3 := Below.grown' (Below.refl _ _) hg4 (Nat.le_refl _) (fun k hk => by cases hk)
      have HO4 := Lib.hid ho4
      have HLO4 : Hid (w.heap.size ≤ W2.heap.size) := Lib.hid HS.size
      have HBX4 : Hid (W2.heap.size ≤ W3.heap.size) := Lib.hid hb4.size
      have hN45 : ∀ k, (Value.slice A4 n c4).ownBlock = some k → k ≠ w.heap.size := fun k hk e => by have h1 := (ho4.lt k hk).1; have h2 := lt_of_blk H5.out; omega
      have HN45 := Lib.hid hN45
      clear hN45
      have H5' := Lib.hid ((hb4.block _ (lt_of_blk H5.out)).trans H5.out)
      have H8' := Lib.hid ((hb4.block _ (lt_of_blk H8.out)).trans H8.out)
      refine hK.out _ _ (HS.trans (hb4.mono HS.size)) (fun HS => ?_)
      have H5 := H5'
      clear H5'
      have H8 := H8'
      clear H8'
      clear hK ho4 hg4 hb4 hc4
      try simp only [List.getElem_toArray, List.getElem_cons_zero, List.getElem_cons_succ, Act.put, List.setIfInBounds_toArray, List.set_cons_zero, List.set_cons_succ]
      refine wpAnyH_ready (rs := [6]) (by kernel_rfl) (by simp) ?_
      refine AllReadyH.cons rfl (fun K hK => ?_) AllReadyH.nil
      rw [if_pos (by kernel_rfl)]
      simp only [List.getElem_toArray, List.getElem_cons_zero, List.getElem_cons_succ]
      refine wp_append_own _ _ _ 22 rfl _ 5 i5 (.int .u8 0) 1 1 Tryd.underlying22 hi hz0 hz1 hz2 rfl (by decide) _ n _ rfl HO4.out ⟨w.heap.size, 0, none⟩ 1 1 (row8 [0]) rfl rfl (row_adds H5.out) (row8_one _) (by unfold maxLen; omega) (by omega) HBX4.out ?_
      intro v6 W4 ho6 hg6 _
      rw [← row8_append] at ho6
      obtain ⟨A6, c6, rfl, hc6⟩ := own_slice2 ho6
      have hb6 := Below.grown' HS hg6 HS.size (fun k hk => Nat.le_trans HLO4.out (HO4.out.lt k hk).1)
      have HO6 := Lib.hid ho6
      have H8' := Lib.hid ((hg6.block _ (lt_of_blk H8.out) (fun e => own_far HO4.out H8.out (by decide) e.symm)).trans H8.out)
      refine hK.out _ _ hb6 (fun HS => ?_)
      clear H8
      have H8 := H8'
      clear H8'
      clear hK ho6 hg6 hb6 hc6
      try simp only [List.getElem_toArray, List.getElem_cons_zero, List.getElem_cons_succ, Act.put, List.setIfInBounds_toArray, List.set_cons_zero, List.set_cons_succ]
      refine wpAnyH_take (i := 7) (v := .agg #[.int .u8 (kd0 : Int), .slice A6 (n + 1) c6]) rfl (by kernel_rfl) (by kernel_rfl) (by kernel_rfl) (fun c x W h => hQ c _ _ _ W h) (Or.inl ⟨by go_simp, fun W hW => by go_simp⟩) HS ?_
      try simp only [List.getElem_toArray, List.getElem_cons_zero, List.getElem_cons_succ, Act.put, List.setIfInBounds_toArray, List.set_cons_zero, List.set_cons_succ]
      refine wpAnyH_ready (rs := [9]) (by kernel_rfl) (by simp) ?_
      refine AllReadyH.cons rfl (fun K hK => ?_) AllReadyH.nil
      rw [if_pos (by kernel_rfl)]
      simp only [List.getElem_toArray, List.getElem_cons_zero, List.getElem_cons_succ]
      have z0 := cell_blk H8.out 0
      have f0 := frozen_blk H8.out 0
      have z1 := cell_blk H8.out 1
      have f1 := frozen_blk H8.out 1
      simp only [List.getElem?_toArray, List.getElem?_cons_zero, List.getElem?_cons_succ] at z0 z1
      go_simp
      have t0 := Turned.setCell H8.out 0 (.int .u8 (kd0 : Int))
      have t1 := t0.trans (Turned.setCell (t0.get (lt_of_blk H8.out)) 1 (.slice A6 (n + 1) c6))
      simp only [List.setIfInBounds_toArray, List.set_cons_zero, List.set_cons_succ] at t1
      have HT := Lib.hid (t1.get (lt_of_blk H8.out))
      have HO9 := Lib.hid (own_turn HO6.out H8.out t1)
      have hb9 := HS.trans (t1.below HLB8.out)
      refine hK.out _ _ hb9 (fun HS => ?_)
      clear hK z0 f0 z1 f1 t0 t1 hb9
      try simp only [List.getElem_toArray, List.getElem_cons_zero, List.getElem_cons_succ, Act.put, List.setIfInBounds_toArray, List.set_cons_zero, List.set_cons_succ]
      refine wpAnyH_done (by kernel_rfl) ?_ _
      exact h _ _ _ _ _ _ _ _ _ _ _ _ HT.out (own_bs1 HO9.out (by rw [List.length_append, HLN.out]; rfl)) HS
  · rw [if_pos (by kernel_rfl)]
    simp only [List.getElem_toArray, List.getElem_cons_zero, List.getElem_cons_succ]
    go_simp
    have HP := Lib.hid HS
    have hal : Below w.drew.heap.size w.drew (w.drew.alloc (.cells #[.int .u8 0, .slice none 0 0] 41)) := (Below.refl _ _).alloc (Nat.le_refl _) _
    have hnw : (w.drew.alloc (.cells #[.int .u8 0, .slice none 0 0] 41)).heap[w.heap.size]? = some (.cells #[.int .u8 0, .slice none 0 0] 41 (0, 0)) := heap_alloc_new w.drew (.cells #[.int .u8 0, .slice none 0 0] 41)
    obtain ⟨W1, hV⟩ : ∃ V, V = w.drew.alloc (.cells #[.int .u8 0, .slice none 0 0] 41) := ⟨_, rfl⟩
    rw [← hV] at hal hnw
    have H8 := Lib.hid hnw
    have HBB := Lib.hid hal
    have HLB8 : Hid (w.heap.size ≤ w.heap.size) := Lib.hid (by exact Nat.le_refl _)
    refine hK.out _ _ (show Below w.heap.size w (w.drew.alloc (.cells #[.int .u8 0, .slice none 0 0] 41)) from by rw [← hV]; exact HS.trans (hal.mono HS.size)) (fun HS => ?_)
    clear HS
    have HS : Below w.heap.size w W1 := HP.out.trans (HBB.out.mono HP.out.size)
    show wpAnyH _ _ _ _ _ _ _ _ (w.drew.alloc (.cells #[.int .u8 0, .slice none 0 0] 41))
    rw [← hV]
    clear hK hal hnw hV HP HBB
    try simp only [List.getElem_toArray, List.getElem_cons_zero, List.getElem_cons_succ, Act.put, List.setIfInBounds_toArray, List.set_cons_zero, List.set_cons_succ]
    refine wpAnyH_ready (rs := [4, 5]) (by kernel_rfl) (by simp) ?_
    refine AllReadyH.cons rfl (fun K hK => ?_) (AllReadyH.cons rfl (fun K hK => ?_) AllReadyH.nil)
    · rw [if_pos (by kernel_rfl)]
      simp only [List.getElem_toArray, List.getElem_cons_zero, List.getElem_cons_succ]
      refine wp_append_own _ _ _ 22 rfl W1.heap.size 5 i5 (.int .u8 0) 1 1 Tryd.underlying22 hi hz0 hz1 hz2 rfl (by decide) (.slice none 0 0) 0 [] rfl (World.ownsRow_nil _ _ _ _) ⟨gA, oA, none⟩ n c (row8 l) rfl (by rw [row8_length, HLN.out, Nat.mul_one]) (HRA.out W1 HS) (row8_one _) (by unfold maxLen; omega) (by omega) (Nat.le_refl _) ?_
      intro v4 W2 ho4 hg4 _
      rw [Nat.zero_add, List.nil_append] at ho4
      obtain ⟨A4, c4, rfl, hc4⟩ := own_slice2 ho4
      have hb4 : Below W1.heap.size W1 W2 := Below.grown' (Below.refl _ _) hg4 (Nat.le_refl _) (fun k hk => by cases hk)
      have HO4 := Lib.hid ho4
      have HLO4 : Hid (w.heap.size ≤ W1.heap.size) := Lib.hid HS.size
      have HBX4 : Hid (W1.heap.size ≤ W2.heap.size) := Lib.hid hb4.size
      have H8' := Lib.hid ((hb4.block _ (lt_of_blk H8.out)).trans H8.out)
      refine hK.out _ _ (HS.trans (hb4.mono HS.size)) (fun HS => ?_)
      have H8 := H8'
      clear H8'
      clear hK ho4 hg4 hb4 hc4
      try simp only [List.getElem_toArray, List.getElem_cons_zero, List.getElem_cons_succ, Act.put, List.setIfInBounds_toArray, List.set_cons_zero, List.set_cons_succ]
      refine wpAnyH_ready (rs := [5]) (by kernel_rfl) (by simp) ?_
      refine AllReadyH.cons rfl (fun K hK => ?_) AllReadyH.nil
      rw [if_pos (by kernel_rfl)]
      simp only [List.getElem_toArray, List.getElem_cons_zero, List.getElem_cons_succ]
      go_simp
      have HP := Lib.hid HS
      have hal : Below W2.heap.size W2 (W2.alloc (.cells (row8 [0]).toArray 5)) := (Below.refl _ _).alloc (Nat.le_refl _) _
      obtain ⟨b5, eb5⟩ : ∃ b, b = W2.heap.size := ⟨_, rfl⟩
      have hnw : (W2.alloc (.cells (row8 [0]).toArray 5)).heap[W2.heap.size]? = some (.cells (row8 [0]).toArray 5 (0, 0)) := heap_alloc_new W2 (.cells (row8 [0]).toArray 5)
      rw [← eb5] at hnw
      obtain ⟨W3, hV⟩ : ∃ V, V = W2.alloc (.cells (row8 [0]).toArray 5) := ⟨_, rfl⟩
      rw [← hV] at hal hnw
      have H5 := Lib.hid hnw
      have HBB := Lib.hid hal
      have HLB5 : Hid (w.heap.size ≤ b5) := Lib.hid (by rw [eb5]; exact HS.size)
      have hN45 : ∀ k, (Value.slice A4 n c4).ownBlock = some k → k ≠ b5 := fun k hk e => by have h1 := (HO4.out.lt k hk).2; omega
      have HN45 := Lib.hid hN45
      clear hN45
      refine hK.out _ _ (show Below w.heap.size w (W2.alloc (.cells (row8 [0]).toArray 5)) from by rw [← hV]; exact HS.trans (hal.mono HS.size)) (fun HS => ?_)
      clear HS
      have HS : Below w.heap.size w W3 := HP.out.trans (HBB.out.mono HP.out.size)
      show wpAnyH _ _ _ _ _ _ _ _ (W2.alloc (.cells (row8 [0]).toArray 5))
      rw [← hV]
      try rw [← eb5]
      have H8' := Lib.hid ((HBB.out.block _ (lt_of_blk H8.out)).trans H8.out)
      clear H8
      have H8 := H8'
      clear H8'
      have HO4' := Lib.hid (own_below HO4.out HBB.out)
      clear HO4
      have HO4 := HO4'
      clear HO4'
      have HBX4' := Lib.hid (Nat.le_trans HBX4.out HBB.out.size)
      clear HBX4
      have HBX4 := HBX4'
      clear HBX4'
      clear hK hal hnw hV HP HBB
      clear eb5
      try simp only [List.getElem_toArray, List.getElem_cons_zero, List.getElem_cons_succ, Act.put, List.setIfInBounds_toArray, List.set_cons_zero, List.set_cons_succ]
      refine wpAnyH_ready (rs := [6]) (by kernel_rfl) (by simp) ?_
      refine AllReadyH.cons rfl (fun K hK => ?_) AllReadyH.nil
      rw [if_pos (by kernel_rfl)]
      simp only [List.getElem_toArray, List.getElem_cons_zero, List.getElem_cons_succ]
      refine wp_append_own _ _ _ 22 rfl _ 5 i5 (.int .u8 0) 1 1 Tryd.underlying22 hi hz0 hz1 hz2 rfl (by decide) _ n _ rfl HO4.out ⟨b5, 0, none⟩ 1 1 (row8 [0]) rfl rfl (row_adds H5.out) (row8_one _) (by unfold maxLen; omega) (by omega) HBX4.out ?_
      intro v6 W4 ho6 hg6 _
      rw [← row8_append] at ho6
      obtain ⟨A6, c6, rfl, hc6⟩ := own_slice2 ho6
      have hb6 := Below.grown' HS hg6 HS.size (fun k hk => Nat.le_trans HLO4.out (HO4.out.lt k hk).1)
      have HO6 := Lib.hid ho6
      have H8' := Lib.hid ((hg6.block _ (lt_of_blk H8.out) (fun e => own_far HO4.out H8.out (by decide) e.symm)).trans H8.out)
      refine hK.out _ _ hb6 (fun HS => ?_)
      clear H8
      have H8 := H8'
      clear H8'
      clear hK ho6 hg6 hb6 hc6
      try simp only [List.getElem_toArray, List.getElem_cons_zero, List.getElem_cons_succ, Act.put, List.setIfInBounds_toArray, List.set_cons_zero, List.set_cons_succ]
      refine wpAnyH_take (i := 7) (v := .agg #[.int .u8 (kd0 : Int), .slice A6 (n + 1) c6]) rfl (by kernel_rfl) (by kernel_rfl) (by kernel_rfl) (fun c x W h => hQ c _ _ _ W h) (Or.inl ⟨by go_simp, fun W hW => by go_simp⟩) HS ?_
      try simp only [List.getElem_toArray, List.getElem_cons_zero, List.getElem_cons_succ, Act.put, List.setIfInBounds_toArray, List.set_cons_zero, List.set_cons_succ]
      refine wpAnyH_ready (rs := [9]) (by kernel_rfl) (by simp) ?_
      refine AllReadyH.cons rfl (fun K hK => ?_) AllReadyH.nil
      rw [if_pos (by kernel_rfl)]
      simp only [List.getElem_toArray, List.getElem_cons_zero, List.getElem_cons_succ]
      have z0 := cell_blk H8.out 0
      have f0 := frozen_blk H8.out 0
      have z1 := cell_blk H8.out 1
      have f1 := frozen_blk H8.out 1
      simp only [List.getElem?_toArray, List.getElem?_cons_zero, List.getElem?_cons_succ] at z0 z1
      go_simp
      have t0 := Turned.setCell H8.out 0 (.int .u8 (kd0 : Int))
      have t1 := t0.trans (Turned.setCell (t0.get (lt_of_blk H8.out)) 1 (.slice A6 (n + 1) c6))
      simp only [List.setIfInBounds_toArray, List.set_cons_zero, List.set_cons_succ] at t1
      have HT := Lib.hid (t1.get (lt_of_blk H8.out))
      have HO9 := Lib.hid (own_turn HO6.out H8.out t1)
      have hb9 := HS.trans (t1.below HLB8.out)
      refine hK.out _ _ hb9 (fun HS => ?_)
      clear hK z0 f0 z1 f1 t0 t1 hb9
      try simp only [List.getElem_toArray, List.getElem_cons_zero, List.getElem_cons_succ, Act.put, List.setIfInBounds_toArray, List.set_cons_zero, List.set_cons_succ]
      refine wpAnyH_done (by kernel_rfl) ?_ _
      exact h _ _ _ _ _ _ _ _ _ _ _ _ HT.out (own_bs1 HO9.out (by rw [List.length_append, HLN.out]; rfl)) HS
    · rw [if_pos (by kernel_rfl)]
      simp only [List.getElem_toArray, List.getElem_cons_zero, List.getElem_cons_succ]
      go_simp
      have HP := Lib.hid HS
      have hal : Below W1.heap.size W1 (W1.alloc (.cells (row8 [0]).toArray 5)) := (Below.refl _ _).alloc (Nat.le_refl _) _
      obtain ⟨b5, eb5⟩ : ∃ b, b = W1.heap.size := ⟨_, rfl⟩
      have hnw : (W1.alloc (.cells (row8 [0]).toArray 5)).heap[W1.heap.size]? = some (.cells (row8 [0]).toArray 5 (0, 0)) := heap_alloc_new W1 (.cells (row8 [0]).toArray 5)
      rw [← eb5] at hnw
      obtain ⟨W2, hV⟩ : ∃ V, V = W1.alloc (.cells (row8 [0]).toArray 5) := ⟨_, rfl⟩
      rw [← hV] at hal hnw
      have H5 := Lib.hid hnw
      have HBB := Lib.hid hal
      have HLB5 : Hid (w.heap.size ≤ b5) := Lib.hid (by rw [eb5]; exact HS.size)
      refine hK.out _ _ (show Below w.heap.size w (W1.alloc (.cells (row8 [0]).toArray 5)) from by rw [← hV]; exact HS.trans (hal.mono HS.size)) (fun HS => ?_)
      clear HS
      have HS : Below w.heap.size w W2 := HP.out.trans (HBB.out.mono HP.out.size)
      show wpAnyH _ _ _ _ _ _ _ _ (W1.alloc (.cells (row8 [0]).toArray 5))
      rw [← hV]
      try rw [← eb5]
      have H8' := Lib.hid ((HBB.out.block _ (lt_of_blk H8.out)).trans H8.out)
      clear H8
      have H8 := H8'
      clear H8'
      clear hK hal hnw hV HP HBB
      clear eb5
      try simp only [List.getElem_toArray, List.getElem_cons_zero, List.getElem_cons_succ, Act.put, List.setIfInBounds_toArray, List.set_cons_zero, List.set_cons_succ]
      refine wpAnyH_ready (rs := [4]) (by kernel_rfl) (by simp) ?_
      refine AllReadyH.cons rfl (fun K hK => ?_) AllReadyH.nil
      rw [if_pos (by kernel_rfl)]
      simp only [List.getElem_toArray, List.getElem_cons_zero, List.getElem_cons_succ]
      refine wp_append_own _ _ _ 22 rfl W2.heap.size 5 i5 (.int .u8 0) 1 1 Tryd.underlying22 hi hz0 hz1 hz2 rfl (by decide) (.slice none 0 0) 0 [] rfl (World.ownsRow_nil _ _ _ _) ⟨gA, oA, none⟩ n c (row8 l) rfl (by rw [row8_length, HLN.out, Nat.mul_one]) (HRA.out W2 HS) (row8_one _) (by unfold maxLen; omega) (by omega) (Nat.le_refl _) ?_
      intro v4 W3 ho4 hg4 _
      rw [Nat.zero_add, List.nil_append] at ho4
      obtain ⟨A4, c4, rfl, hc4⟩ := own_slice2 ho4
      have hb4 : Below W2.heap.size W2 W3 := Below.grown' (Below.refl _ _) hg4 (Nat.le_refl _) (fun k hk => by cases hk)
      have HO4 := Lib.hid ho4
      have HLO4 : Hid (w.heap.size ≤ W2.heap.size) := Lib.hid HS.size
      have HBX4 : Hid (W2.heap.size ≤ W3.heap.size) := Lib.hid hb4.size
      have hN45 : ∀ k, (Value.slice A4 n c4).ownBlock = some k → k ≠ b5 := fun k hk e => by have h1 := (ho4.lt k hk).1; have h2 := lt_of_blk H5.out; omega
      have HN45 := Lib.hid hN45
      clear hN45
      have H5' := Lib.hid ((hb4.block _ (lt_of_blk H5.out)).trans H5.out)
      have H8' := Lib.hid ((hb4.block _ (lt_of_blk H8.out)).trans H8.out)
      refine hK.out _ _ (HS.trans (hb4.mono HS.size)) (fun HS => ?_)
      have H5 := H5'
      clear H5'
      have H8 := H8'
      clear H8'
      clear hK ho4 hg4 hb4 hc4
      try simp only [List.getElem_toArray, List.getElem_cons_zero, List.getElem_cons_succ, Act.put, List.setIfInBounds_toArray, List.set_cons_zero, List.set_cons_succ]
      refine wpAnyH_ready (rs := [6]) (by kernel_rfl) (by simp) ?_
      refine AllReadyH.cons rfl (fun K hK => ?_) AllReadyH.nil
      rw [if_pos (by kernel_rfl)]
      simp only [List.getElem_toArray, List.getElem_cons_zero, List.getElem_cons_succ]
      refine wp_append_own _ _ _ 22 rfl _ 5 i5 (.int .u8 0) 1 1 Tryd.underlying22 hi hz0 hz1 hz2 rfl (by decide) _ n _ rfl HO4.out ⟨b5, 0, none⟩ 1 1 (row8 [0]) rfl rfl (row_adds H5.out) (row8_one _) (by unfold maxLen; omega) (by omega) HBX4.out ?_
      intro v6 W4 ho6 hg6 _
      rw [← row8_append] at ho6
      obtain ⟨A6, c6, rfl, hc6⟩ := own_slice2 ho6
      have hb6 := Below.grown' HS hg6 HS.size (fun k hk => Nat.le_trans HLO4.out (HO4.out.lt k hk).1)
      have HO6 := Lib.hid ho6
      have H8' := Lib.hid ((hg6.block _ (lt_of_blk H8.out) (fun e => own_far HO4.out H8.out (by decide) e.symm)).trans H8.out)
      refine hK.out _ _ hb6 (fun HS => ?_)
      clear H8
      have H8 := H8'
      clear H8'
      clear hK ho6 hg6 hb6 hc6
      try simp only [List.getElem_toArray, List.getElem_cons_zero, List.getElem_cons_succ, Act.put, List.setIfInBounds_toArray, List.set_cons_zero, List.set_cons_succ]
      refine wpAnyH_take (i := 7) (v := .agg #[.int .u8 (kd0 : Int), .slice A6 (n + 1) c6]) rfl (by kernel_rfl) (by kernel_rfl) (by kernel_rfl) (fun c x W h => hQ c _ _ _ W h) (Or.inl ⟨by go_simp, fun W hW => by go_simp⟩) HS ?_
      try simp only [List.getElem_toArray, List.getElem_cons_zero, List.getElem_cons_succ, Act.put, List.setIfInBounds_toArray, List.set_cons_zero, List.set_cons_succ]
      refine wpAnyH_ready (rs := [9]) (by kernel_rfl) (by simp) ?_
      refine AllReadyH.cons rfl (fun K hK => ?_) AllReadyH.nil
      rw [if_pos (by kernel_rfl)]
      simp only [List.getElem_toArray, List.getElem_cons_zero, List.getElem_cons_succ]
      have z0 := cell_blk H8.out 0
      have f0 := frozen_blk H8.out 0
      have z1 := cell_blk H8.out 1
      have f1 := frozen_blk H8.out 1
      simp only [List.getElem?_toArray, List.getElem?_cons_zero, List.getElem?_cons_succ] at z0 z1
      go_simp
      have t0 := Turned.setCell H8.out 0 (.int .u8 (kd0 : Int))
      have t1 := t0.trans (Turned.setCell (t0.get (lt_of_blk H8.out)) 1 (.slice A6 (n + 1) c6))
      simp only [List.setIfInBounds_toArray, List.set_cons_zero, List.set_cons_succ] at t1
      have HT := Lib.hid (t1.get (lt_of_blk H8.out))
      have HO9 := Lib.hid (own_turn HO6.out H8.out t1)
      have hb9 := HS.trans (t1.below HLB8.out)
      refine hK.out _ _ hb9 (fun HS => ?_)
      clear hK z0 f0 z1 f1 t0 t1 hb9
      try simp only [List.getElem_toArray, List.getElem_cons_zero, List.getElem_cons_succ, Act.put, List.setIfInBounds_toArray, List.set_cons_zero, List.set_cons_succ]
      refine wpAnyH_done (by kernel_rfl) ?_ _
      exact h _ _ _ _ _ _ _ _ _ _ _ _ HT.out (own_bs1 HO9.out (by rw [List.length_append, HLN.out]; rfl)) HS
end Go.Proofs.YtfolamkjlgpgmaaDoor
