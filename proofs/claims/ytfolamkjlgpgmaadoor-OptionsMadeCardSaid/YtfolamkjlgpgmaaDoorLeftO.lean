/- Is a twin of options as it was made: the walk. No condition but that the options are few. -/
import Derived.Test.YtfolamkjlgpgmaaDoorTwinO
import Derived.Test.YtfolamkjlgpgmaaDoorSameO
namespace Go.Proofs.YtfolamkjlgpgmaaDoor
open Go.RowKit
set_option linter.unusedVariables false
set_option linter.unusedSimpArgs false
theorem TwO.step {w W W' : World} {gt : Nat} {L T : List Opt} (h : TwO w W gt L T) (hb : Below W.heap.size W W') : TwO w W' gt L T :=
  ⟨(hb.block gt (lt_of_blk h.row)).trans h.row, h.len, fun j x hx => (h.twin j x hx).keep (fun g o _ h2 => (hb.block g (lt_of_blk h2)).trans h2), h.apart, h.below.trans (hb.mono (Nat.le_of_lt (lt_of_blk h.row)))⟩
theorem TwO.at_ {w W : World} {gt : Nat} {L T : List Opt} (h : TwO w W gt L T) {j : Nat} {x : Opt} (hx : T[j]? = some x) : ∃ y g, L[j]? = some y ∧ x.kind = y.kind ∧ x.data = y.data ∧ x.cap = x.data.length + 4 ∧ x.adr = some ⟨g, 0, none⟩ ∧ gt < g ∧ W.heap[g]? = some (.cells (row8 (twinL x.data 199)).toArray 5 (0, 0)) := by
  have h1 := h.twin j x hx
  have hj := (List.getElem?_eq_some_iff.1 hx).1
  rw [h.len] at hj
  unfold TwinOf at h1
  rw [List.getElem?_eq_getElem hj] at h1
  obtain ⟨a1, a2, a3, g, a4, a5, a6⟩ := h1
  exact ⟨_, g, List.getElem?_eq_getElem hj, a1, a2, a3, a4, a5, a6⟩
theorem TwO.kd {w W : World} {gt : Nat} {L T : List Opt} (h : TwO w W gt L T) : kdO T = kdO L := by
  apply List.ext_getElem?
  intro j
  unfold kdO
  rw [List.getElem?_map, List.getElem?_map]
  cases hx : T[j]? with
  | none =>
    rw [List.getElem?_eq_none (by have := List.getElem?_eq_none_iff.1 hx; rw [← h.len]; exact this)]
  | some x =>
    obtain ⟨y, g, h1, h2, h3, -⟩ := h.at_ hx
    rw [h1]
    simp [h2, h3]
theorem TwO.cells {w W : World} {gt : Nat} {L T : List Opt} (h : TwO w W gt L T) {j : Nat} {x : Opt} (hx : (T ++ List.replicate 4 strangeO)[j]? = some x) : W.cell? ⟨gt, j * 2, none⟩ = some (.int .u8 (x.kind : Int)) ∧ W.cell? ⟨gt, j * 2 + 1, none⟩ = some (.slice x.adr x.data.length x.cap) := by
  obtain ⟨r1, r2⟩ := rowV_get hx
  rw [cell_blk h.row, cell_blk h.row, List.getElem?_toArray, List.getElem?_toArray]
  exact ⟨r1, r2⟩
theorem TwO.rd {w W : World} {gt : Nat} {L T : List Opt} (h : TwO w W gt L T) (hl : L.length ≤ 5000) (hd : ∀ x ∈ L, x.data.length ≤ 5000) : OptsRd W W.heap.size (some ⟨gt, 0, none⟩) T := by
  refine ⟨fun _ => ⟨gt, 0, rfl, lt_of_blk h.row, fun i x hx => ?_⟩, fun x hx => ?_, by rw [h.len]; omega⟩
  · have hi := (List.getElem?_eq_some_iff.1 hx).1
    rw [Nat.zero_add]
    exact h.cells (by rw [List.getElem?_append_left hi]; exact hx)
  · obtain ⟨j, hj, rfl⟩ := List.getElem_of_mem hx
    obtain ⟨y, g, h1, h2, h3, h4, h5, h6, h7⟩ := h.at_ (List.getElem?_eq_getElem hj)
    rw [h5, h4]
    exact twin_bs h7 (by rw [h3]; exact hd y (List.mem_of_getElem? h1))
set_option maxRecDepth 100000 in
set_option maxHeartbeats 2000000 in
theorem left25 {A : Option Addr} {c gt : Nat} {L T : List Opt} {w0 : World} (w : World) (h : TwO w0 w gt L T) (hr : OptsRd w w.heap.size A L) (hl : L.length ≤ 5000) (hd : ∀ x ∈ L, x.data.length ≤ 5000) :
    Calls Tryd.prog 25 #[.slice (some ⟨gt, 0, none⟩) L.length (L.length + 4), .slice A L.length c] w (TruePost w) := by
  have hd2 : ∀ x ∈ T, x.data.length ≤ 1000000000 := fun x hx => by
    obtain ⟨j, hj, rfl⟩ := List.getElem_of_mem hx
    obtain ⟨y, g, h1, h2, h3, -⟩ := h.at_ (List.getElem?_eq_getElem hj)
    rw [h3]; have := hd y (List.mem_of_getElem? h1); omega
  have hs := same12 (c := L.length + 4) (c2 := c) w (h.rd hl hd) hr h.kd (Nat.le_refl _) hd2
  rw [h.len] at hs
  have HS := Lib.hid hs
  obtain ⟨n, hn⟩ : ∃ n, L.length = n := ⟨_, rfl⟩
  have HN := Lib.hid hn
  have HO := Lib.hid hr
  have HT := Lib.hid h
  have HD := Lib.hid hd
  rw [hn] at hl HS ⊢
  clear h hr hn hd hd2 hs
  have hcap : n < n + 4 := by omega
  have t0 : ¬ ((n : Int) + 4 < (n : Int) + 4) := by omega
  go_enter Tryd.func25, Tryd.ntmps25
  go_wp2_with fail
  refine (HS.out).mono ?_
  rintro e w1 ⟨rfl, hb1⟩
  have HT1 := Lib.hid (HT.out.step hb1)
  have HB1 := Lib.hid hb1
  clear hb1 HS
  go_wp2_with fail
  go_loopw [5] (fun i wr => ∃ k : Nat, k ≤ n ∧ i = .int .i64 k ∧ Below w.heap.size w wr) (fun i _ => n - (intOf i).toNat)
  case atStart => exact ⟨0, by omega, rfl, HB1.out⟩
  case round =>
    clear HT1 HB1
    obtain ⟨k, hk, rfl, hW⟩ := hrel
    have hT := HT.out.step hW
    have hsz := hW.size
    have HW := Lib.hid hW
    by_cases hlt : k < n
    · obtain ⟨x, hx⟩ : ∃ x, T[k]? = some x := ⟨T[k]'(by rw [hT.len, HN.out]; exact hlt), List.getElem?_eq_getElem _⟩
      obtain ⟨y, g, hy, -, hxd, hxc, hxa, -, hg⟩ := hT.at_ hx
      obtain ⟨c0, c1⟩ := hT.cells (j := k) (x := x) (by rw [List.getElem?_append_left (by rw [hT.len, HN.out]; exact hlt)]; exact hx)
      rw [hxa, hxc] at c1
      have hR := HO.out.below hW
      obtain ⟨b, o, rfl, hb, hc⟩ := hR.at_ (by rintro rfl; simp at hy)
      obtain ⟨d0, d1⟩ := hc k y hy
      have by_ := hR.each y (List.mem_of_getElem? hy)
      have hyl := HD.out y (List.mem_of_getElem? hy)
      rw [hxd] at c1 hg
      have hgt := lt_of_blk hT.row
      have HC : Hid (∀ W, Below wr.heap.size wr W → Calls Tryd.prog 13 #[.slice (some ⟨g, 0, none⟩) y.data.length (y.data.length + 4), .slice y.adr y.data.length y.cap] W (SamePost true W)) :=
        Lib.hid fun W hW2 => left13 W ((by_.below (hW2.mono hsz)).mono (by have := hW2.size; omega)) ((hW2.block g (lt_of_blk hg)).trans hg) hyl
      have ck1 := fun (W : World) (hW2 : Below wr.heap.size wr W) => (hW2.cell (p := ⟨gt, k * 2 + 1, none⟩) hgt).trans c1
      have dk1 := fun (W : World) (hW2 : Below wr.heap.size wr W) => (hW2.cell (p := ⟨b, o + k * 2 + 1, none⟩) (lt_of_cell d1)).trans d1
      clear hx hy hT hW hR hc c0 c1 d0 d1 by_ hyl hg hxd hxc hxa
      go_wp2_with fail
      have hS : Below wr.heap.size wr wr.drew := (Below.refl _ _).drew
      refine wp_region_held_drew (S := fun W => Below wr.heap.size wr W) (by kernel_rfl) hS ?_
      clear hS
      intro HS
      refine wpAnyH_take (i := 0) (v := ?_) rfl (by kernel_rfl) (by kernel_rfl) (by kernel_rfl) (fun _ _ _ h => h) (Or.inl ⟨by go_simp, ?hy⟩) HS ?_
      case hy => intro W hW; go_simp; (try with_reducible rfl)
      try simp only [List.getElem_toArray, List.getElem_cons_zero, List.getElem_cons_succ, Act.put, List.setIfInBounds_toArray, List.set_cons_zero, List.set_cons_succ]
      refine wpAnyH_take (i := 1) (v := ?_) rfl (by kernel_rfl) (by kernel_rfl) (by kernel_rfl) (fun _ _ _ h => h) (Or.inl ⟨by go_simp, ?hy⟩) HS ?_
      case hy => intro W hW; go_simp; (try with_reducible rfl)
      try simp only [List.getElem_toArray, List.getElem_cons_zero, List.getElem_cons_succ, Act.put, List.setIfInBounds_toArray, List.set_cons_zero, List.set_cons_succ]
      refine wpAnyH_take (i := 2) (v := .pointer (some ⟨gt, k * 2, none⟩)) rfl (by kernel_rfl) (by kernel_rfl) (by kernel_rfl) (fun _ _ _ h => h) (Or.inl ⟨by go_simp, fun W hW => by go_simp; (try omega)⟩) HS ?_
      try simp only [List.getElem_toArray, List.getElem_cons_zero, List.getElem_cons_succ, Act.put, List.setIfInBounds_toArray, List.set_cons_zero, List.set_cons_succ]
      refine wpAnyH_take (i := 3) (v := ?_) rfl (by kernel_rfl) (by kernel_rfl) (by kernel_rfl) (fun _ _ _ h => h) (Or.inl ⟨by go_simp, ?hy⟩) HS ?_
      case hy => intro W hW; go_simp; (try with_reducible rfl)
      try simp only [List.getElem_toArray, List.getElem_cons_zero, List.getElem_cons_succ, Act.put, List.setIfInBounds_toArray, List.set_cons_zero, List.set_cons_succ]
      refine wpAnyH_take (i := 4) (v := ?_) rfl (by kernel_rfl) (by kernel_rfl) (by kernel_rfl) (fun _ _ _ h => h) (Or.inl ⟨by go_simp, ?hy⟩) HS ?_
      case hy => intro W hW; have c := ck1 W hW; go_simp; (try with_reducible rfl)
      try simp only [List.getElem_toArray, List.getElem_cons_zero, List.getElem_cons_succ, Act.put, List.setIfInBounds_toArray, List.set_cons_zero, List.set_cons_succ]
      refine wpAnyH_take (i := 5) (v := ?_) rfl (by kernel_rfl) (by kernel_rfl) (by kernel_rfl) (fun _ _ _ h => h) (Or.inl ⟨by go_simp, ?hy⟩) HS ?_
      case hy => intro W hW; go_simp; (try with_reducible rfl)
      try simp only [List.getElem_toArray, List.getElem_cons_zero, List.getElem_cons_succ, Act.put, List.setIfInBounds_toArray, List.set_cons_zero, List.set_cons_succ]
      refine wpAnyH_take (i := 6) (v := ?_) rfl (by kernel_rfl) (by kernel_rfl) (by kernel_rfl) (fun _ _ _ h => h) (Or.inl ⟨by go_simp, ?hy⟩) HS ?_
      case hy => intro W hW; go_simp; (try with_reducible rfl)
      try simp only [List.getElem_toArray, List.getElem_cons_zero, List.getElem_cons_succ, Act.put, List.setIfInBounds_toArray, List.set_cons_zero, List.set_cons_succ]
      refine wpAnyH_take (i := 7) (v := .pointer (some ⟨b, o + k * 2, none⟩)) rfl (by kernel_rfl) (by kernel_rfl) (by kernel_rfl) (fun _ _ _ h => h) (Or.inl ⟨by go_simp, fun W hW => by go_simp; (try omega)⟩) HS ?_
      try simp only [List.getElem_toArray, List.getElem_cons_zero, List.getElem_cons_succ, Act.put, List.setIfInBounds_toArray, List.set_cons_zero, List.set_cons_succ]
      refine wpAnyH_take (i := 8) (v := ?_) rfl (by kernel_rfl) (by kernel_rfl) (by kernel_rfl) (fun _ _ _ h => h) (Or.inl ⟨by go_simp, ?hy⟩) HS ?_
      case hy => intro W hW; go_simp; (try with_reducible rfl)
      try simp only [List.getElem_toArray, List.getElem_cons_zero, List.getElem_cons_succ, Act.put, List.setIfInBounds_toArray, List.set_cons_zero, List.set_cons_succ]
      refine wpAnyH_take (i := 9) (v := ?_) rfl (by kernel_rfl) (by kernel_rfl) (by kernel_rfl) (fun _ _ _ h => h) (Or.inl ⟨by go_simp, ?hy⟩) HS ?_
      case hy => intro W hW; have c := dk1 W hW; go_simp; (try with_reducible rfl)
      try simp only [List.getElem_toArray, List.getElem_cons_zero, List.getElem_cons_succ, Act.put, List.setIfInBounds_toArray, List.set_cons_zero, List.set_cons_succ]
      refine wpAnyH_ready (rs := [10]) (by kernel_rfl) (by simp) ?_
      refine AllReadyH.cons rfl (fun K hK => ?_) AllReadyH.nil
      rw [if_pos (by kernel_rfl)]
      simp only [List.getElem_toArray, List.getElem_cons_zero, List.getElem_cons_succ]
      go_simp
      refine (HC.out _ HS).mono ?_
      rintro e w5 ⟨rfl, j5, rfl⟩
      refine hK.out _ _ (HS.trans (Below.drewN' _ _ _)) (fun HS => ?_)
      clear hK
      try simp only [List.getElem_toArray, List.getElem_cons_zero, List.getElem_cons_succ, Act.put, List.setIfInBounds_toArray, List.set_cons_zero, List.set_cons_succ]
      refine wpAnyH_take (i := 11) (v := .bool false) rfl (by kernel_rfl) (by kernel_rfl) (by kernel_rfl) (fun _ _ _ h => h) (Or.inl ⟨by go_simp, fun W hW => by go_simp⟩) HS ?_
      try simp only [List.getElem_toArray, List.getElem_cons_zero, List.getElem_cons_succ, Act.put, List.setIfInBounds_toArray, List.set_cons_zero, List.set_cons_succ]
      refine wpAnyH_done (by kernel_rfl) ?_ _
      clear HS
      go_wp2_with fail
      go_roundw
      case rel => exact ⟨k + 1, by omega, by go_num, HW.out.trans (Below.drewN' _ _ _)⟩
      case measure => simp [intOf]; omega
    · obtain rfl : k = n := by omega
      have HT2 := Lib.hid hT
      clear hT hW
      go_wp2_with fail
      go_loop [7] (fun i => ∃ j : Nat, j ≤ 4 ∧ i = .int .i64 j) (fun i => 4 - (intOf i).toNat)
      case atStart => exact ⟨0, by omega, rfl⟩
      case round =>
        obtain ⟨j, hj, rfl⟩ := hrel
        by_cases hlt : j < 4
        · obtain ⟨c0, c1⟩ := HT2.out.cells (j := k + j) (x := strangeO) (by rw [List.getElem?_append_right (by rw [HT2.out.len, HN.out]; omega), List.getElem?_replicate, if_pos (by rw [HT2.out.len, HN.out]; omega)])
          rw [Nat.add_mul] at c0 c1
          have c0 : wr.cell? ⟨gt, k * 2 + j * 2, none⟩ = some (.int .u8 201) := c0
          have c1 : wr.cell? ⟨gt, k * 2 + j * 2 + 1, none⟩ = some (.slice none 0 0) := c1
          have t1 : (j : Int) < 4 := by omega
          go_wp2_with fail
          go_round
          case rel => exact ⟨j + 1, by omega, by go_num⟩
          case measure => simp [intOf]; omega
        · obtain rfl : j = 4 := by omega
          go_wp2_with fail
          go_ret
          exact ⟨rfl, HW.out⟩
end Go.Proofs.YtfolamkjlgpgmaaDoor
