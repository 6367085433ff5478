/- The walk of BucketsBack: it returns true and makes new blocks alone. No condition but what each argument's kind bears. -/
import Derived.Test.YtmmligongchopaaTakeW
namespace Go.Proofs.Ytmmligongchopaa
open Go.RowKit
set_option linter.unusedVariables false

theorem take_early {s : Bk} {x y : Nat} (hx : x ≤ s.a) (hy : y ≤ s.a) : s.ok x = s.ok y ∧ s.take x = s.take y ∧ (s.take y).a = s.a := by
  have e1 := fill_not (s := s) (now := x) (by omega)
  have e2 := fill_not (s := s) (now := y) (by omega)
  refine ⟨by unfold Bk.ok; rw [e1, e2], by unfold Bk.take Bk.ok; rw [e1, e2], by rw [Bk.take_a, e2]⟩
theorem take_at {s : Bk} {x : Nat} : x ≤ (s.take x).a := by
  rw [Bk.take_a]; unfold Bk.fill; split
  · exact Nat.le_refl _
  · omega

structure BackInv (B pp pq : Nat) (w wr : World) (s : Bk) (late : Nat) : Prop where
  hp : wr.heap[pp]? = some s.obj
  hq : wr.heap[pq]? = some s.obj
  ks : s.Ok
  at_ : late ≤ s.a
  below : Below B w wr

set_option maxRecDepth 100000 in
set_option maxHeartbeats 800000 in
theorem back_walk (rate burst a b : Nat) (w : World) (h1 : rate < 4294967296) (h2 : burst < 4294967296) (ha : a < 18446744073709551616) (hb : b < 18446744073709551616) :
    Calls Try.prog 7 #[.agg #[.int .u32 rate, .int .u32 burst], .int .u64 a, .int .u64 b] w fun e w' => e = .returned (.bool true) ∧ Below w.heap.size w w' := by
  by_cases hab : a < b
  · go_enter Try.func7, Try.ntmps7
    go_wp2_with fail
    have hx : (w.alloc (.cells #[.int .u32 rate, .int .u32 burst] 24)).heap[w.heap.size]? = some (.cells #[.int .u32 rate, .int .u32 burst] 24 (0, 0)) := heap_alloc_new _ _
    have B0 : Below w.heap.size w (w.alloc (.cells #[.int .u32 rate, .int .u32 burst] 24)) := (Below.refl _ _).alloc (Nat.le_refl _) _
    generalize w.alloc (.cells #[.int .u32 rate, .int .u32 burst] 24) = w0 at *
    refine (new_made _ _ _ (by omega) (by omega)).mono ?_
    rintro e w1 ⟨pp, rfl, m1⟩
    have x1 := m1.other hx
    have xa := cell_blk x1 0
    have xb := cell_blk x1 1
    simp at xa xb
    have B1 := B0.trans (m1.below.mono B0.size)
    go_wp2_with fail
    refine (new_made _ _ _ (by omega) (by omega)).mono ?_
    rintro e w2 ⟨pq, rfl, m2⟩
    have hp2 := m2.other m1.get
    have hq2 := m2.get
    have ne1 : pq ≠ pp := fun e => m2.ne m1.get e.symm
    have gp : w.heap.size ≤ pp := Nat.le_trans B0.size m1.new
    have gq : w.heap.size ≤ pq := Nat.le_trans B1.size m2.new
    have B2 := B1.trans (m2.below.mono B1.size)
    have k2 := mkB_ok (rate := rate) (burst := burst) h1 h2
    generalize mkB rate burst = s at *
    clear x1 xa xb B0 B1 m1 m2 hx
    go_wp2_with fail
    refine (take_any s pp _ _ hp2 k2 (by omega) (by omega)).mono ?_
    rintro e w3 ⟨rfl, t3⟩
    go_wp2_with fail
    refine (take_any s pq _ _ (t3.keep hq2 ne1) k2 (by omega) (by omega)).mono ?_
    rintro e w4 ⟨rfl, t4⟩
    rw [Int.toNat_natCast] at t3 t4
    have I0 : BackInv w.heap.size pp pq w w4 (s.take b) b := ⟨t4.keep (t3.get (lt_of_blk hp2)) ne1.symm, t4.get (lt_of_blk (t3.keep hq2 ne1)), k2.take (by omega), take_at, (B2.trans (t3.below gp)).trans (t4.below gq)⟩
    clear hp2 hq2 k2 B2 t3 t4
    generalize s.take b = s0 at *
    go_wp2_with fail
    go_loopw [11] (fun i wr => ∃ (k : Nat) (s : Bk), k ≤ 20 ∧ i = .int .i64 k ∧ BackInv w.heap.size pp pq w wr s b) (fun i _ => 20 - (intOf i).toNat)
    case atStart => exact ⟨0, _, by omega, rfl, I0⟩
    case round =>
      clear I0
      obtain ⟨k, s1, hk, rfl, I⟩ := hrel
      by_cases hlt : k < 20
      · have hE : a ≤ b := by omega
        obtain ⟨e1, e2, e3⟩ := take_early (s := s1) (x := a) (y := b) (Nat.le_trans hE I.at_) I.at_
        go_wp2_with fail
        refine (take_is s1 (s1.take b) (s1.ok b) pp _ _ I.hp I.ks (by omega) (by omega) (by rw [Int.toNat_natCast]; exact e1) (by rw [Int.toNat_natCast]; exact e2)).mono ?_
        rintro e w5 ⟨rfl, t5⟩
        have E3 := Lib.hid e3; clear e1 e2 e3
        go_wp2_with fail
        refine (take_is s1 (s1.take b) (s1.ok b) pq _ _ (t5.keep I.hq ne1) I.ks (by omega) (by omega) (by rw [Int.toNat_natCast]) (by rw [Int.toNat_natCast])).mono ?_
        rintro e w6 ⟨rfl, t6⟩
        have I6 : BackInv w.heap.size pp pq w w6 (s1.take b) b := ⟨t6.keep (t5.get (lt_of_blk I.hp)) ne1.symm, t6.get (lt_of_blk (t5.keep I.hq ne1)), I.ks.take (by omega), by rw [E3.out]; exact I.at_, (I.below.trans (t5.below gp)).trans (t6.below gq)⟩
        clear I t5 t6 E3
        go_wp2_with fail
        go_roundw
        case rel => exact ⟨k + 1, _, by omega, by go_num, I6⟩
        case measure => simp [intOf]; omega
      · go_wp2_with fail
        refine (lives_any _).mono ?_
        rintro e w9 ⟨rfl, b9⟩
        go_wp2_with fail
        go_ret
        exact ⟨rfl, I.below.trans (b9.mono I.below.size)⟩
  by_cases hba : b < a
  · go_enter Try.func7, Try.ntmps7
    go_wp2_with fail
    have hx : (w.alloc (.cells #[.int .u32 rate, .int .u32 burst] 24)).heap[w.heap.size]? = some (.cells #[.int .u32 rate, .int .u32 burst] 24 (0, 0)) := heap_alloc_new _ _
    have B0 : Below w.heap.size w (w.alloc (.cells #[.int .u32 rate, .int .u32 burst] 24)) := (Below.refl _ _).alloc (Nat.le_refl _) _
    generalize w.alloc (.cells #[.int .u32 rate, .int .u32 burst] 24) = w0 at *
    refine (new_made _ _ _ (by omega) (by omega)).mono ?_
    rintro e w1 ⟨pp, rfl, m1⟩
    have x1 := m1.other hx
    have xa := cell_blk x1 0
    have xb := cell_blk x1 1
    simp at xa xb
    have B1 := B0.trans (m1.below.mono B0.size)
    go_wp2_with fail
    refine (new_made _ _ _ (by omega) (by omega)).mono ?_
    rintro e w2 ⟨pq, rfl, m2⟩
    have hp2 := m2.other m1.get
    have hq2 := m2.get
    have ne1 : pq ≠ pp := fun e => m2.ne m1.get e.symm
    have gp : w.heap.size ≤ pp := Nat.le_trans B0.size m1.new
    have gq : w.heap.size ≤ pq := Nat.le_trans B1.size m2.new
    have B2 := B1.trans (m2.below.mono B1.size)
    have k2 := mkB_ok (rate := rate) (burst := burst) h1 h2
    generalize mkB rate burst = s at *
    clear x1 xa xb B0 B1 m1 m2 hx
    go_wp2_with fail
    refine (take_any s pp _ _ hp2 k2 (by omega) (by omega)).mono ?_
    rintro e w3 ⟨rfl, t3⟩
    go_wp2_with fail
    refine (take_any s pq _ _ (t3.keep hq2 ne1) k2 (by omega) (by omega)).mono ?_
    rintro e w4 ⟨rfl, t4⟩
    rw [Int.toNat_natCast] at t3 t4
    have I0 : BackInv w.heap.size pp pq w w4 (s.take a) a := ⟨t4.keep (t3.get (lt_of_blk hp2)) ne1.symm, t4.get (lt_of_blk (t3.keep hq2 ne1)), k2.take (by omega), take_at, (B2.trans (t3.below gp)).trans (t4.below gq)⟩
    clear hp2 hq2 k2 B2 t3 t4
    generalize s.take a = s0 at *
    go_wp2_with fail
    go_loopw [11] (fun i wr => ∃ (k : Nat) (s : Bk), k ≤ 20 ∧ i = .int .i64 k ∧ BackInv w.heap.size pp pq w wr s a) (fun i _ => 20 - (intOf i).toNat)
    case atStart => exact ⟨0, _, by omega, rfl, I0⟩
    case round =>
      clear I0
      obtain ⟨k, s1, hk, rfl, I⟩ := hrel
      by_cases hlt : k < 20
      · have hE : b ≤ a := by omega
        obtain ⟨e1, e2, e3⟩ := take_early (s := s1) (x := b) (y := a) (Nat.le_trans hE I.at_) I.at_
        go_wp2_with fail
        refine (take_is s1 (s1.take a) (s1.ok a) pp _ _ I.hp I.ks (by omega) (by omega) (by rw [Int.toNat_natCast]; exact e1) (by rw [Int.toNat_natCast]; exact e2)).mono ?_
        rintro e w5 ⟨rfl, t5⟩
        have E3 := Lib.hid e3; clear e1 e2 e3
        go_wp2_with fail
        refine (take_is s1 (s1.take a) (s1.ok a) pq _ _ (t5.keep I.hq ne1) I.ks (by omega) (by omega) (by rw [Int.toNat_natCast]) (by rw [Int.toNat_natCast])).mono ?_
        rintro e w6 ⟨rfl, t6⟩
        have I6 : BackInv w.heap.size pp pq w w6 (s1.take a) a := ⟨t6.keep (t5.get (lt_of_blk I.hp)) ne1.symm, t6.get (lt_of_blk (t5.keep I.hq ne1)), I.ks.take (by omega), by rw [E3.out]; exact I.at_, (I.below.trans (t5.below gp)).trans (t6.below gq)⟩
        clear I t5 t6 E3
        go_wp2_with fail
        go_roundw
        case rel => exact ⟨k + 1, _, by omega, by go_num, I6⟩
        case measure => simp [intOf]; omega
      · go_wp2_with fail
        refine (lives_any _).mono ?_
        rintro e w9 ⟨rfl, b9⟩
        go_wp2_with fail
        go_ret
        exact ⟨rfl, I.below.trans (b9.mono I.below.size)⟩
  · obtain rfl : a = b := by omega
    clear hab hba
    go_enter Try.func7, Try.ntmps7
    go_wp2_with fail
    have hx : (w.alloc (.cells #[.int .u32 rate, .int .u32 burst] 24)).heap[w.heap.size]? = some (.cells #[.int .u32 rate, .int .u32 burst] 24 (0, 0)) := heap_alloc_new _ _
    have B0 : Below w.heap.size w (w.alloc (.cells #[.int .u32 rate, .int .u32 burst] 24)) := (Below.refl _ _).alloc (Nat.le_refl _) _
    generalize w.alloc (.cells #[.int .u32 rate, .int .u32 burst] 24) = w0 at *
    refine (new_made _ _ _ (by omega) (by omega)).mono ?_
    rintro e w1 ⟨pp, rfl, m1⟩
    have x1 := m1.other hx
    have xa := cell_blk x1 0
    have xb := cell_blk x1 1
    simp at xa xb
    have B1 := B0.trans (m1.below.mono B0.size)
    go_wp2_with fail
    refine (new_made _ _ _ (by omega) (by omega)).mono ?_
    rintro e w2 ⟨pq, rfl, m2⟩
    have hp2 := m2.other m1.get
    have hq2 := m2.get
    have ne1 : pq ≠ pp := fun e => m2.ne m1.get e.symm
    have gp : w.heap.size ≤ pp := Nat.le_trans B0.size m1.new
    have gq : w.heap.size ≤ pq := Nat.le_trans B1.size m2.new
    have B2 := B1.trans (m2.below.mono B1.size)
    have k2 := mkB_ok (rate := rate) (burst := burst) h1 h2
    generalize mkB rate burst = s at *
    clear x1 xa xb B0 B1 m1 m2 hx
    go_wp2_with fail
    refine (take_any s pp _ _ hp2 k2 (by omega) (by omega)).mono ?_
    rintro e w3 ⟨rfl, t3⟩
    go_wp2_with fail
    refine (take_any s pq _ _ (t3.keep hq2 ne1) k2 (by omega) (by omega)).mono ?_
    rintro e w4 ⟨rfl, t4⟩
    rw [Int.toNat_natCast] at t3 t4
    have I0 : BackInv w.heap.size pp pq w w4 (s.take a) a := ⟨t4.keep (t3.get (lt_of_blk hp2)) ne1.symm, t4.get (lt_of_blk (t3.keep hq2 ne1)), k2.take (by omega), take_at, (B2.trans (t3.below gp)).trans (t4.below gq)⟩
    clear hp2 hq2 k2 B2 t3 t4
    generalize s.take a = s0 at *
    go_wp2_with fail
    go_loopw [11] (fun i wr => ∃ (k : Nat) (s : Bk), k ≤ 20 ∧ i = .int .i64 k ∧ BackInv w.heap.size pp pq w wr s a) (fun i _ => 20 - (intOf i).toNat)
    case atStart => exact ⟨0, _, by omega, rfl, I0⟩
    case round =>
      clear I0
      obtain ⟨k, s1, hk, rfl, I⟩ := hrel
      by_cases hlt : k < 20
      · have hE : a ≤ a := by omega
        obtain ⟨e1, e2, e3⟩ := take_early (s := s1) (x := a) (y := a) (Nat.le_trans hE I.at_) I.at_
        go_wp2_with fail
        refine (take_is s1 (s1.take a) (s1.ok a) pp _ _ I.hp I.ks (by omega) (by omega) (by rw [Int.toNat_natCast]) (by rw [Int.toNat_natCast])).mono ?_
        rintro e w5 ⟨rfl, t5⟩
        have E3 := Lib.hid e3; clear e1 e2 e3
        go_wp2_with fail
        refine (take_is s1 (s1.take a) (s1.ok a) pq _ _ (t5.keep I.hq ne1) I.ks (by omega) (by omega) (by rw [Int.toNat_natCast]) (by rw [Int.toNat_natCast])).mono ?_
        rintro e w6 ⟨rfl, t6⟩
        have I6 : BackInv w.heap.size pp pq w w6 (s1.take a) a := ⟨t6.keep (t5.get (lt_of_blk I.hp)) ne1.symm, t6.get (lt_of_blk (t5.keep I.hq ne1)), I.ks.take (by omega), by rw [E3.out]; exact I.at_, (I.below.trans (t5.below gp)).trans (t6.below gq)⟩
        clear I t5 t6 E3
        go_wp2_with fail
        go_roundw
        case rel => exact ⟨k + 1, _, by omega, by go_num, I6⟩
        case measure => simp [intOf]; omega
      · go_wp2_with fail
        refine (lives_any _).mono ?_
        rintro e w9 ⟨rfl, b9⟩
        go_wp2_with fail
        go_ret
        exact ⟨rfl, I.below.trans (b9.mono I.below.size)⟩
end Go.Proofs.Ytmmligongchopaa
