/- An option of servers: the document's walk. No condition but that they are few. -/
import Derived.Test.YtfolamkjlgpgmaaDoorServ
namespace Go.Proofs.YtfolamkjlgpgmaaDoor
open Go.RowKit
set_option linter.unusedVariables false
set_option linter.unusedSimpArgs false
theorem adr_adds {w : World} {b o : Nat} {y : Nat → Nat} (h : ∀ j, j < 16 → w.cell? ⟨b, o + j, none⟩ = some (.int .u8 (y j : Int))) : ∀ j u, (row8 (adr16 y))[j]? = some u → w.cell? ((⟨b, o, none⟩ : Addr).add j) = some u := by
  intro j u hu
  obtain ⟨x, hx, rfl⟩ := row8_inv hu
  have hj : j < 16 := (List.getElem?_eq_some_iff.1 hx).1
  have e : x = y j := by
    have : ∀ j, j < 16 → (adr16 y)[j]? = some (y j) := by
      intro j hj
      match j, hj with
      | 0, _ => rfl
      | 1, _ => rfl
      | 2, _ => rfl
      | 3, _ => rfl
      | 4, _ => rfl
      | 5, _ => rfl
      | 6, _ => rfl
      | 7, _ => rfl
      | 8, _ => rfl
      | 9, _ => rfl
      | 10, _ => rfl
      | 11, _ => rfl
      | 12, _ => rfl
      | 13, _ => rfl
      | 14, _ => rfl
      | 15, _ => rfl
      | j + 16, h => exact absurd h (by omega)
    rw [this j hj] at hx
    exact (Option.some.inj hx).symm
  rw [Addr.add_mid, e]
  exact h j hj
set_option maxRecDepth 100000 in
set_option maxHeartbeats 2000000 in
theorem serv41 {A : Option Addr} {c n : Nat} {L : List (Nat → Nat)} (hn : n < 4294967296) (w : World) (h : AdrsAt w w.heap.size A L) :
    Calls Tryd.prog 41 #[.int .u32 (n : Int), .slice A L.length c] w (MadePost 25 (servB n L) w) := by
  obtain ⟨i5, hi, hz0, hz1, hz2⟩ := info_parts info5
  obtain ⟨hb, h1, h0⟩ := two_new w (.cells #[.int .u8 0, .slice none 0 0] 41) (.cells (row8 [0, 0]).toArray 5)
  have HP := Lib.hid (four70 n hn ((w.alloc (.cells #[.int .u8 0, .slice none 0 0] 41)).alloc (.cells (row8 [0, 0]).toArray 5)))
  have HOZ := Lib.hid (blk_own (l := [0, 0]) h0 (base := w.heap.size + 1) (Nat.le_refl _) (by simp))
  have hm := h.many
  have HO := Lib.hid h
  obtain ⟨m, hm0⟩ : ∃ m, L.length = m := ⟨_, rfl⟩
  have HM := Lib.hid hm0
  rw [hm0] at hm ⊢
  have hsz2 : ((w.alloc (.cells #[.int .u8 0, .slice none 0 0] 41)).alloc (.cells (row8 [0, 0]).toArray 5)).heap.size = w.heap.size + 1 + 1 := by simp
  have HB := Lib.hid hb
  have H1 := Lib.hid h1
  clear h h1 h0 hb hm0
  go_enter Tryd.func41, Tryd.ntmps41
  go_wp2_with fail
  refine (HP.out).mono ?_
  rintro e w1 ⟨A5, c5, k5, rfl, h1, h2, h3, h4⟩
  rw [hsz2] at h4
  have h3 : w1.ownsRow _ 5 1 (.slice A5 4 k5) 4 (row8 (be4 n)) := h3
  obtain ⟨g, rfl, hg, hcell⟩ := own_adds h3 (by decide)
  have e4 : (be4 n).length = 4 := rfl
  rw [e4]
  have HZ : Hid (w1.ownsRow (w.heap.size + 1) 5 1 (.slice (some ⟨w.heap.size + 1, 0, none⟩) 2 2) 2 (row8 [0, 0])) := Lib.hid (own_below HOZ.out (by rw [hsz2]; exact h4))
  have HC := Lib.hid hcell
  have hb1 : Below w.heap.size w w1 := HB.out.trans (h4.mono (by omega))
  have hlow : w.heap.size + 1 ≤ w1.heap.size := by have := h4.size; omega
  have HQ1 := Lib.hid ((h4.block _ (by omega)).trans H1.out)
  have HB1 := Lib.hid hb1
  clear h1 h2 h3 h4 hcell hb1 HP hsz2
  go_wp2_with (at_builtin; refine wpList_append_own _ rfl _ _ 22 rfl (w.heap.size + 1) 5 i5 (.int .u8 0) 1 1 Tryd.underlying22 hi hz0 hz1 hz2 rfl (by decide) _ 2 _ rfl HZ.out ⟨g, 0, none⟩ 4 c5 (row8 (be4 n)) rfl rfl HC.out (row8_one _) ?c3 ?c4 hlow ?_)
  case c3 => unfold maxLen; omega
  case c4 => omega
  intro v9 w9 ho9 hg9 _
  have HI : Hid (OwnC w9 (w.heap.size + 1) v9 (servB n (L.take 0))) := Lib.hid (OwnC.of_own ho9)
  have hb9 : Below (w.heap.size + 1) w1 w9 := Below.grown' (Below.refl _ _) hg9 hlow (fun k hk => (HZ.out.lt k hk).1)
  have HQ9 := Lib.hid ((hb9.block _ (Nat.lt_succ_self _)).trans HQ1.out)
  have HB9 := Lib.hid (HB1.out.trans (hb9.mono (Nat.le_succ _)))
  have hlow9 : w.heap.size + 1 ≤ w9.heap.size := by have := hb9.size; omega
  clear ho9 hg9 hb9 HC HZ
  go_wp2_with fail
  go_loopw [5, 6] (fun v i wr => ∃ k : Nat, k ≤ m ∧ i = .int .i64 k ∧ OwnC wr (w.heap.size + 1) v (servB n (L.take k)) ∧ Below (w.heap.size + 1) w9 wr) (fun _ i _ => m - (intOf i).toNat)
  case atStart => exact ⟨0, Nat.zero_le _, rfl, HI.out, Below.refl _ _⟩
  case round =>
    clear HI
    obtain ⟨k, hk, rfl, hO, hW⟩ := hrel
    have hO' := hO
    obtain ⟨A9, c9, k9, hv9, g2, g3, g4, g5⟩ := hO
    have hlk := servB_length n (L.take k)
    rw [List.length_take, HM.out, Nat.min_eq_left hk] at hlk
    rw [hlk] at hv9 g2 g3 g5
    subst hv9
    have hszr := hW.size
    have HW := Lib.hid hW
    have HL := Lib.hid hlk
    have HOC := Lib.hid hO'
    clear hO'
    by_cases hlt : k < m
    · obtain ⟨y, hy⟩ : ∃ y, L[k]? = some y := ⟨L[k]'(by rw [HM.out]; exact hlt), List.getElem?_eq_getElem _⟩
      have hb0r : Below w.heap.size w wr := HB9.out.trans (hW.mono (by omega))
      have hO2 := HO.out.below hb0r
      obtain ⟨b, o, rfl, hb, hc⟩ := hO2.at_ (by rintro rfl; simp at hy)
      have HAD := Lib.hid (adr_adds (hc k y hy))
      have HS := Lib.hid (servB_succ (n := n) hy)
      clear hy hO2 hc hb0r g2 g3 g4 g5 hW hlk
      go_wp2_with (at_builtin; refine app8 rfl _ _ rfl (w.heap.size + 1) _ (servB n (L.take k)) rfl HOC.out ⟨b, o + k * 16, none⟩ 16 16 (adr16 y) rfl rfl (by decide) HAD.out ?c3 ?c4 ?_)
      case c3 => rw [HL.out]; omega
      case c4 => omega
      intro v5 w5 ho5 hb5
      have HR : Hid (OwnC w5 (w.heap.size + 1) v5 (servB n (L.take (k + 1)))) := Lib.hid (OwnC.of_own (by rw [HS.out, List.length_append]; exact ho5))
      have HWR := Lib.hid (HW.out.trans hb5)
      clear ho5 hb5
      go_wp2_with fail
      go_roundw
      case rel => exact ⟨k + 1, by omega, by go_num, HR.out, HWR.out⟩
      case measure => simp [intOf]; omega
    · obtain rfl : k = m := by omega
      have e : L.take k = L := List.take_of_length_le (by rw [HM.out]; exact Nat.le_refl _)
      rw [e] at g5 hlk
      have hq := (hW.block _ (Nat.lt_succ_self _)).trans HQ9.out
      have d0 := cell_blk hq 0
      have d1 := cell_blk hq 1
      have f0 := frozen_blk hq 0
      have f1 := frozen_blk hq 1
      simp only [List.getElem?_toArray, List.getElem?_cons_zero, List.getElem?_cons_succ] at d0 d1
      have HO5 := Lib.hid (own_mono g5 (Nat.le_succ _))
      have HB5 := Lib.hid (HB9.out.trans (hW.mono (by omega)))
      have HQ := Lib.hid hq
      have HLL := Lib.hid hlk
      clear g2 g5 hq hW hlk HOC
      go_wp2_with fail
      obtain ⟨g0, g1⟩ := end_cells (v0 := .int .u8 (25 : Int)) (v1 := .slice A9 (6 + k * 16) c9) HQ.out
      refine bodyPost_ret (v := .agg #[.int .u8 (25 : Int), .slice A9 (6 + k * 16) c9]) ?_ rfl ?_
      · simp [results, Tryd.results41, go_sem, g0, g1]
        try rfl
      · exact made_end HO5.out HLL.out g3 g4 HQ.out (Nat.le_refl _) HB5.out
end Go.Proofs.YtfolamkjlgpgmaaDoor
