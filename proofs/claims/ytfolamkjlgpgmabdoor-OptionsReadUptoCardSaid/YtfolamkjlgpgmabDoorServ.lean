/- An option of servers: the walks, the program's and the document's. No condition but that they are few. -/
import Derived.Test.YtfolamkjlgpgmabDoorInfo
namespace Go.Proofs.YtfolamkjlgpgmabDoor
open Go.RowKit
set_option linter.unusedVariables false
set_option linter.unusedSimpArgs false
/-- a slice at A reads as these addresses, below block B -/
structure AdrsAt (w : World) (B : Nat) (A : Option Addr) (L : List (Nat → Nat)) : Prop where
  at_ : L ≠ [] → ∃ b o, A = some ⟨b, o, none⟩ ∧ b < B ∧ ∀ i y, L[i]? = some y → ∀ j, j < 16 → w.cell? ⟨b, o + i * 16 + j, none⟩ = some (.int .u8 (y j : Int))
  many : L.length ≤ 1000000
theorem AdrsAt.below {w w' : World} {B : Nat} {A : Option Addr} {L : List (Nat → Nat)} (h : AdrsAt w B A L) (hb : Below B w w') : AdrsAt w' B A L := by
  refine ⟨fun hl => ?_, h.many⟩
  obtain ⟨b, o, e, hlt, hc⟩ := h.at_ hl
  exact ⟨b, o, e, hlt, fun i y hy j hj => (hb.cell (p := ⟨b, o + i * 16 + j, none⟩) hlt).trans (hc i y hy j hj)⟩
theorem AdrsAt.mono {w : World} {B C : Nat} {A : Option Addr} {L : List (Nat → Nat)} (h : AdrsAt w B A L) (hB : B ≤ C) : AdrsAt w C A L := by
  refine ⟨fun hl => ?_, h.many⟩
  obtain ⟨b, o, e, hlt, hc⟩ := h.at_ hl
  exact ⟨b, o, e, by omega, hc⟩
def adrsB (L : List (Nat → Nat)) : List Nat := L.flatMap adr16
theorem adrsB_succ {L : List (Nat → Nat)} {k : Nat} {y : Nat → Nat} (h : L[k]? = some y) : adrsB (L.take (k + 1)) = adrsB (L.take k) ++ adr16 y := by
  unfold adrsB
  rw [List.take_add_one, h]
  simp
theorem adrsB_length (L : List (Nat → Nat)) : (adrsB L).length = L.length * 16 := by
  induction L with
  | nil => rfl
  | cons y L ih => 
    have e : adrsB (y :: L) = adr16 y ++ adrsB L := by simp [adrsB]
    have e16 : (adr16 y).length = 16 := rfl
    rw [e, List.length_append, ih, e16, List.length_cons]; omega
/-- what servers' option has -/
def servB (n : Nat) (L : List (Nat → Nat)) : List Nat := [0, 0] ++ be4 n ++ adrsB L
theorem servB_succ {n : Nat} {L : List (Nat → Nat)} {k : Nat} {y : Nat → Nat} (h : L[k]? = some y) : servB n (L.take (k + 1)) = servB n (L.take k) ++ adr16 y := by
  unfold servB
  rw [adrsB_succ h]
  simp only [List.append_assoc]
theorem servB_length (n : Nat) (L : List (Nat → Nat)) : (servB n L).length = 6 + L.length * 16 := by
  unfold servB
  rw [List.length_append, adrsB_length]
  rfl
set_option maxRecDepth 100000 in
set_option maxHeartbeats 2000000 in
theorem serv34 {A : Option Addr} {c n : Nat} {L : List (Nat → Nat)} (hn : n < 4294967296) (w : World) (h : AdrsAt w w.heap.size A L) :
    Calls Tryd.prog 14 #[.int .u32 (n : Int), .slice A L.length c] w (MadePost 25 (servB n L) w) := by
  have h1 := heap_alloc_new w (.cells #[.int .u8 0, .slice none 0 0] 39)
  have hal : Below w.heap.size w (w.alloc (.cells #[.int .u8 0, .slice none 0 0] 39)) := (Below.refl _ _).alloc (Nat.le_refl _) _
  have HP := Lib.hid (life65 n hn (w.alloc (.cells #[.int .u8 0, .slice none 0 0] 39)))
  have hm := h.many
  have HO := Lib.hid h
  obtain ⟨m, hm0⟩ : ∃ m, L.length = m := ⟨_, rfl⟩
  have HM := Lib.hid hm0
  rw [hm0] at hm ⊢
  have H1 := Lib.hid h1
  have HB := Lib.hid hal
  have hsz : (w.alloc (.cells #[.int .u8 0, .slice none 0 0] 39)).heap.size = w.heap.size + 1 := by simp
  clear h h1 hal hm0
  go_enter Tryd.func14, Tryd.ntmps14
  go_wp2_with fail
  refine (HP.out).mono ?_
  rintro e w1 ⟨A5, c5, k5, rfl, h1, h2, h3, h4⟩
  rw [hsz] at h3 h4
  have HI : Hid (OwnC w1 (w.heap.size + 1) (.slice A5 6 c5) (servB n (L.take 0))) := Lib.hid ⟨A5, c5, k5, rfl, .inr h1, Nat.le_of_eq h1.symm, h2, h3⟩
  have hb1 : Below w.heap.size w w1 := HB.out.trans (h4.mono (by omega))
  have HB1 := Lib.hid hb1
  have HQ1 := Lib.hid ((h4.block _ (by omega)).trans H1.out)
  have hlow : w.heap.size + 1 ≤ w1.heap.size := by have := h4.size; omega
  have e6 : ([0, 0] ++ be4 n).length = 6 := rfl
  rw [e6]
  clear h1 h2 h3 h4 hb1 HP hsz
  go_wp2_with fail
  go_loopw [5, 12] (fun v i wr => ∃ k : Nat, k ≤ m ∧ i = .int .i64 k ∧ OwnC wr (w.heap.size + 1) v (servB n (L.take k)) ∧ Below (w.heap.size + 1) w1 wr) (fun _ i _ => m - (intOf i).toNat)
  case atStart => exact ⟨0, Nat.zero_le _, rfl, HI.out, Below.refl _ _⟩
  case round =>
    clear HI
    obtain ⟨k, hk, rfl, hO, hW⟩ := hrel
    obtain ⟨A9, c9, k9, hv9, g2, g3, g4, g5⟩ := hO
    have hlk := servB_length n (L.take k)
    rw [List.length_take, HM.out, Nat.min_eq_left hk] at hlk
    rw [hlk] at hv9 g2 g3 g5
    subst hv9
    have hszr := hW.size
    have HW := Lib.hid hW
    have HL := Lib.hid hlk
    by_cases hlt : k < m
    · obtain ⟨y, hy⟩ : ∃ y, L[k]? = some y := ⟨L[k]'(by rw [HM.out]; exact hlt), List.getElem?_eq_getElem _⟩
      have hb0r : Below w.heap.size w wr := HB1.out.trans (hW.mono (by omega))
      have hO2 := HO.out.below hb0r
      obtain ⟨b, o, rfl, hb, hc⟩ := hO2.at_ (by rintro rfl; simp at hy)
      have ca0 := hc k y hy 0 (by decide)
      rw [Nat.add_zero] at ca0
      have ca1 := hc k y hy 1 (by decide)
      have ca2 := hc k y hy 2 (by decide)
      have ca3 := hc k y hy 3 (by decide)
      have ca4 := hc k y hy 4 (by decide)
      have ca5 := hc k y hy 5 (by decide)
      have ca6 := hc k y hy 6 (by decide)
      have ca7 := hc k y hy 7 (by decide)
      have ca8 := hc k y hy 8 (by decide)
      have ca9 := hc k y hy 9 (by decide)
      have ca10 := hc k y hy 10 (by decide)
      have ca11 := hc k y hy 11 (by decide)
      have ca12 := hc k y hy 12 (by decide)
      have ca13 := hc k y hy 13 (by decide)
      have ca14 := hc k y hy 14 (by decide)
      have ca15 := hc k y hy 15 (by decide)
      have HC0 : Hid (OwnC (wr.alloc (.cells #[.int .u8 (y 0 : Int), .int .u8 (y 1 : Int), .int .u8 (y 2 : Int), .int .u8 (y 3 : Int), .int .u8 (y 4 : Int), .int .u8 (y 5 : Int), .int .u8 (y 6 : Int), .int .u8 (y 7 : Int), .int .u8 (y 8 : Int), .int .u8 (y 9 : Int), .int .u8 (y 10 : Int), .int .u8 (y 11 : Int), .int .u8 (y 12 : Int), .int .u8 (y 13 : Int), .int .u8 (y 14 : Int), .int .u8 (y 15 : Int)] 25)) (w.heap.size + 1) (.slice A9 (6 + k * 16) c9) (servB n (L.take k))) := Lib.hid (OwnC.below ⟨A9, c9, k9, by rw [hlk], by rw [hlk]; exact g2, by rw [hlk]; exact g3, g4, by rw [hlk]; exact g5⟩ ((Below.refl _ _).alloc (Nat.le_refl _) _))
      have HS := Lib.hid (servB_succ (n := n) hy)
      have HAD : Hid (∀ j u, (row8 (adr16 y))[j]? = some u → (wr.alloc (.cells #[.int .u8 (y 0 : Int), .int .u8 (y 1 : Int), .int .u8 (y 2 : Int), .int .u8 (y 3 : Int), .int .u8 (y 4 : Int), .int .u8 (y 5 : Int), .int .u8 (y 6 : Int), .int .u8 (y 7 : Int), .int .u8 (y 8 : Int), .int .u8 (y 9 : Int), .int .u8 (y 10 : Int), .int .u8 (y 11 : Int), .int .u8 (y 12 : Int), .int .u8 (y 13 : Int), .int .u8 (y 14 : Int), .int .u8 (y 15 : Int)] 25)).cell? ((⟨wr.heap.size, 0, none⟩ : Addr).add j) = some u) := Lib.hid (by
        intro j u hu
        rw [Addr.add_mid, Nat.zero_add, cell_blk (heap_alloc_new _ _)]
        show (List.toArray _)[j]? = some u
        rw [List.getElem?_toArray]
        exact hu)
      clear hy hO2 hc hb0r g2 g3 g4 g5 hW hlk
      go_wp2_with (at_builtin; refine app8 rfl _ _ rfl (w.heap.size + 1) _ (servB n (L.take k)) rfl HC0.out ⟨wr.heap.size, 0, none⟩ 16 16 (adr16 y) rfl rfl (by decide) HAD.out ?c3 ?c4 ?_)
      case c3 => rw [HL.out]; omega
      case c4 => simp; omega
      intro v5 w5 ho5 hb5
      have HR : Hid (OwnC w5 (w.heap.size + 1) v5 (servB n (L.take (k + 1)))) := Lib.hid (OwnC.of_own (by rw [HS.out, List.length_append]; exact ho5))
      have HWR := Lib.hid (HW.out.trans (((Below.refl wr.heap.size wr).alloc (Nat.le_refl _) (.cells #[.int .u8 (y 0 : Int), .int .u8 (y 1 : Int), .int .u8 (y 2 : Int), .int .u8 (y 3 : Int), .int .u8 (y 4 : Int), .int .u8 (y 5 : Int), .int .u8 (y 6 : Int), .int .u8 (y 7 : Int), .int .u8 (y 8 : Int), .int .u8 (y 9 : Int), .int .u8 (y 10 : Int), .int .u8 (y 11 : Int), .int .u8 (y 12 : Int), .int .u8 (y 13 : Int), .int .u8 (y 14 : Int), .int .u8 (y 15 : Int)] 25)).mono (by omega)) |>.trans hb5)
      clear ho5 hb5
      go_wp2_with fail
      go_roundw
      case rel => exact ⟨k + 1, by omega, by go_num, HR.out, HWR.out⟩
      case measure => simp [intOf]; omega
    · obtain rfl : k = m := by omega
      have e : L.take k = L := List.take_of_length_le (by rw [HM.out]; exact Nat.le_refl _)
      rw [e] at g5 hlk
      have hq := (hW.block _ (Nat.lt_succ_self _)).trans HQ1.out
      have d0 := cell_blk hq 0
      have d1 := cell_blk hq 1
      have f0 := frozen_blk hq 0
      have f1 := frozen_blk hq 1
      simp only [List.getElem?_toArray, List.getElem?_cons_zero, List.getElem?_cons_succ] at d0 d1
      have HO5 := Lib.hid (own_mono g5 (Nat.le_succ _))
      have HB5 := Lib.hid (HB1.out.trans (hW.mono (by omega)))
      have HQ := Lib.hid hq
      have HLL := Lib.hid hlk
      have hc99 : 6 + k * 16 ≤ c9 := g3
      have hle : 6 + k * 16 ≤ k9 := by omega
      clear g2 g3 g4 g5 hq hW hlk
      go_wp2_with fail
      refine (clip56 _ _ _ hc99 _).mono ?_
      rintro e w3 ⟨rfl, rfl⟩
      go_wp2_with fail
      obtain ⟨g0, g1⟩ := end_cells (v0 := .int .u8 (25 : Int)) (v1 := .slice A9 (6 + k * 16) (6 + k * 16)) HQ.out
      refine bodyPost_ret (v := .agg #[.int .u8 (25 : Int), .slice A9 (6 + k * 16) (6 + k * 16)]) ?_ rfl ?_
      · simp [results, Tryd.results14, go_sem, g0, g1]
        try rfl
      · exact made_end HO5.out HLL.out (Nat.le_refl _) hle HQ.out (Nat.le_refl _) HB5.out
end Go.Proofs.YtfolamkjlgpgmabDoor
