/- A cutter of bytes that come. No condition but that the bytes fit a machine. -/
import Derived.Test.YtfolamkjlgpgmaaDoorNum
namespace Go.Proofs.YtfolamkjlgpgmaaDoor
open Go.RowKit
set_option linter.unusedVariables false
set_option linter.unusedSimpArgs false
/-- block g holds bytes, and room -/
def RowAt (w : World) (g c : Nat) (l : List Nat) : Prop := ∃ cur, w.heap[g]? = some (.cells cur 5 (0, 0)) ∧ cur.size = c ∧ cur.toList.take l.length = row8 l
set_option maxRecDepth 100000 in
set_option maxHeartbeats 1000000 in
theorem of47 {A : Option Addr} {c B : Nat} {l : List Nat} (w : World) (h : Bs w B A c l) (hl : l.length ≤ 1000000000) :
    Calls Tryd.prog 47 #[.slice A l.length c] w fun e w' => ∃ p g c', e = .returned (.pointer (some ⟨p, 0, none⟩)) ∧ CutAt w' p g c' 0 l ∧ w.heap.size ≤ p ∧ (l ≠ [] → w.heap.size ≤ g ∧ g < p ∧ RowAt w' g c' l) ∧ Below w.heap.size w w' := by
  have HC := Lib.hid (clone60 w h hl)
  clear h
  obtain ⟨n, hn⟩ : ∃ n, l.length = n := ⟨_, rfl⟩
  rw [hn] at HC ⊢
  have HN := Lib.hid hn
  clear hn
  go_enter Tryd.func47, Tryd.ntmps47
  go_wp2_with fail
  refine (HC.out).mono ?_
  rintro e w1 ⟨v', rfl, ho, hb, hnil⟩
  rw [← HN.out] at ho
  have hsz := hb.size
  have key : ∃ (A2 : Option Addr) (g c2 : Nat), v' = .slice A2 n c2 ∧ CutAt (w1.alloc (.cells #[.slice A2 n c2, .bool true] 112)) w1.heap.size g c2 0 l ∧ (l ≠ [] → w.heap.size ≤ g ∧ g < w1.heap.size ∧ RowAt (w1.alloc (.cells #[.slice A2 n c2, .bool true] 112)) g c2 l) := by
    have hn := HN.out
    rcases ho.2 with ⟨rfl, h0⟩ | ⟨g, cap, cur, rfl, hbg, hg, hnc, hm, hs, ht⟩
    · have : l = [] := List.eq_nil_of_length_eq_zero h0
      subst this
      refine ⟨none, 0, 0, by rw [← hn]; rfl, ⟨Nat.le_refl _, Nat.le_refl _, by simp, ⟨none, ?_, fun h => absurd h (by simp)⟩, (fun k x hx => by simp at hx), fun h => absurd rfl h⟩, fun h => absurd rfl h⟩
      rw [heap_alloc_new]; rw [← hn]; rfl
    · obtain ⟨A, c, e, h1, h2, h3, h4⟩ := own_reads ho
      cases e
      refine ⟨some ⟨g, 0, none⟩, g, cap, by rw [hn], ⟨Nat.zero_le _, hnc, hl, ⟨some ⟨g, 0, none⟩, ?_, fun _ => rfl⟩, fun k x hx => ?_, fun _ => ?_⟩, fun _ => ⟨hbg, lt_of_blk hg, cur, ?_, by rw [hs, Nat.mul_one], ?_⟩⟩
      · rw [heap_alloc_new, hn]; rfl
      · obtain ⟨b, o, e, hb2, hc⟩ := h3 (by rintro rfl; simp at hx)
        cases e
        have := hc k x hx
        rw [Nat.zero_add] at this
        rw [← this]
        simp only [World.cell?, heap_alloc_old w1 _ (lt_of_blk hg)]
      · have := lt_of_blk hg; omega
      · rw [heap_alloc_old w1 _ (lt_of_blk hg)]; exact hg
      · rw [← ht, Nat.mul_one]
  obtain ⟨A2, g, c2, rfl, k1, k2⟩ := key
  have K1 := Lib.hid k1
  have K2 := Lib.hid k2
  have HB := Lib.hid hb
  clear k1 k2 hb ho hnil HC
  go_wp2_with fail
  go_ret
  exact ⟨w1.heap.size, g, c2, rfl, K1.out, hsz, K2.out, HB.out.alloc hsz _⟩
end Go.Proofs.YtfolamkjlgpgmaaDoor
