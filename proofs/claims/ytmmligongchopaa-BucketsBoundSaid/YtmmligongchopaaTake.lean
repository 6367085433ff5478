/- What the bucket's Take does to the four numbers of a bucket: the walk of buckets.Take and comes. No condition but that the numbers fit. -/
import Derived.Test.YtmmligongchopaaBase
import Derived.Test.YtmmligongchopaaProg
import Derived.Test.YtmmligongchopaaShelf
import Derived.WalkKit
import Derived.WalkSpells
import Derived.WalkLawsBesides
import Derived.Deep.QuietTactic
import Derived.BigQuiet
import Derived.RegionTactic
import Derived.Lib.Hide
namespace Go.Proofs.Ytmmligongchopaa
open Go.RowKit
def mulHi (x y : Nat) : Nat := x * y / 18446744073709551616
def mulLo (x y : Nat) : Nat := x * y % 18446744073709551616
theorem mulLo_lt (x y : Nat) : mulLo x y < 18446744073709551616 := Nat.mod_lt _ (by omega)
theorem mul64 (x y : Nat) (w : World) (hx : x < 18446744073709551616) (hy : y < 18446744073709551616) :
  Calls Try.prog 14 #[.int .u64 x, .int .u64 y] w fun e w' => e = .returned (.tuple #[.int .u64 (mulHi x y), .int .u64 (mulLo x y)]) ∧ w = w' :=
  (Try.bits_Mul64 x y hx hy w).mono fun _ _ ⟨a, b⟩ => ⟨a, b.symm⟩
theorem mulHi_zero (x y : Nat) : mulHi x y = 0 ↔ x * y < 18446744073709551616 := by unfold mulHi; omega
theorem mulLo_of (x y : Nat) (h : mulHi x y = 0) : mulLo x y = x * y := by unfold mulLo; rw [mulHi_zero] at h; omega

def bk (r d m a : Nat) : Obj := .cells #[.int .u64 r, .int .u64 d, .int .u64 m, .int .u64 a, .bool true] 35 (0, 0)

/-- how many drops come -/
def room (r d m ms : Nat) : Nat := min (m - d) (ms * r)

theorem bk_set1 (r d m a x : Nat) : Obj.cells ((#[.int .u64 (r : Int), .int .u64 (d : Int), .int .u64 (m : Int), .int .u64 (a : Int), .bool true] : Array Value).setIfInBounds 1 (.int .u64 (x : Int))) 35 (0, 0) = bk r x m a := rfl

set_option maxRecDepth 100000 in
set_option maxHeartbeats 400000 in
theorem comes_any (b r d m a ms : Nat) (w : World) (h : w.heap[b]? = some (bk r d m a))
   (hd : d ≤ m) (hm : m < 18446744073709551616) (hr : r < 18446744073709551616) (hms : ms < 18446744073709551616) :
    Calls Try.prog 13 #[.pointer (some ⟨b, 0, none⟩), .int .u64 ms] w fun e w' => e = .returned (.tuple #[]) ∧ Turned b (bk r (d + room r d m ms) m a) w w' := by
  have hc0 := cell_blk h 0
  have hc1 := cell_blk h 1
  have hc2 := cell_blk h 2
  have hf1 := frozen_blk h 1
  simp at hc0 hc1 hc2
  have H := Lib.hid h; clear h
  have hl := mulLo_lt ms r
  have hfin : ∀ x : Nat, x = d + room r d m ms → ∀ n, Turned b (bk r (d + room r d m ms) m a) w ((w.drewN n).setCell ⟨b, 1, none⟩ (.int .u64 (x : Int))) := by
    intro x hx n
    rw [← hx, ← bk_set1 r d m a x]
    exact (Turned.setCell (w := w.drewN n) H.out 1 _).of_drewN
  by_cases h1 : mulHi ms r = 0 ∧ mulLo ms r < m - d
  · obtain ⟨h1, h2⟩ := h1
    have hroom : d + mulLo ms r = d + room r d m ms := by rw [mulLo_of _ _ h1] at h2 ⊢; unfold room; omega
    have HR := Lib.hid hroom; clear hroom
    have b1 : ((mulHi ms r : Int) == 0) = true := by simp [h1]
    have b2 : (mulLo ms r : Int) < m - d := by omega
    clear h1
    go_enter Try.func13, Try.ntmps13
    go_wp2_with fail
    go_quiet (fail)
    go_wp2_with (go_at_call 14; refine (mul64 _ _ _ (by omega) (by omega)).mono ?_; rintro e w' ⟨rfl, rfl⟩)
    go_end0
    exact ⟨rfl, hfin _ HR.out _⟩
  · have hroom : d + (m - d) = d + room r d m ms := by
      unfold room
      by_cases h2 : mulHi ms r = 0
      · rw [mulLo_of _ _ h2] at h1; omega
      · have := mt (mulHi_zero ms r).mpr h2; omega
    have HR := Lib.hid hroom; clear hroom
    have e1 : ((d + (m - d) : Nat) : Int) = (d : Int) + ((m : Int) - d) := by omega
    have E1 := Lib.hid e1; clear e1
    by_cases h2 : mulHi ms r = 0
    · have b1 : ((mulHi ms r : Int) == 0) = true := by simp [h2]
      have b2 : ¬ (mulLo ms r : Int) < m - d := by omega
      clear h1 h2
      go_enter Try.func13, Try.ntmps13
      go_wp2_with fail
      go_quiet (fail)
      go_wp2_with (go_at_call 14; refine (mul64 _ _ _ (by omega) (by omega)).mono ?_; rintro e w' ⟨rfl, rfl⟩)
      go_end0
      exact ⟨rfl, by have := hfin _ HR.out; rw [E1.out] at this; exact this _⟩
    · have b1 : ((mulHi ms r : Int) == 0) = false := by simp [h2]
      clear h1 h2
      go_enter Try.func13, Try.ntmps13
      go_wp2_with fail
      go_quiet (fail)
      go_wp2_with (go_at_call 14; refine (mul64 _ _ _ (by omega) (by omega)).mono ?_; rintro e w' ⟨rfl, rfl⟩)
      go_end0
      exact ⟨rfl, by have := hfin _ HR.out; rw [E1.out] at this; exact this _⟩

theorem comes_int (b r d m a : Nat) (ms : Int) (w : World) (h : w.heap[b]? = some (bk r d m a)) (h0 : 0 ≤ ms) (h1 : ms < 18446744073709551616)
   (hd : d ≤ m) (hm : m < 18446744073709551616) (hr : r < 18446744073709551616) :
    Calls Try.prog 13 #[.pointer (some ⟨b, 0, none⟩), .int .u64 ms] w fun e w' => e = .returned (.tuple #[]) ∧ Turned b (bk r (d + room r d m ms.toNat) m a) w w' := by
  obtain ⟨n, rfl⟩ := Int.eq_ofNat_of_zero_le h0
  exact comes_any b r d m a n w h hd hm hr (by omega)

theorem wrap_nat {n : Nat} (h : n < 18446744073709551616) : IntKind.u64.wrap (n : Int) = n := by rw [IntKind.wrap_u64]; omega

/-- A bucket's four numbers. -/
structure Bk where
  r : Nat
  d : Nat
  m : Nat
  a : Nat
def Bk.obj (s : Bk) : Obj := bk s.r s.d s.m s.a
structure Bk.Ok (s : Bk) : Prop where
  d : s.d ≤ s.m
  m : s.m < 9223372036854775808
  r : s.r < 18446744073709551616
  a : s.a < 18446744073709551616
/-- behind the time that has gone -/
def Bk.fill (s : Bk) (now : Nat) : Bk := if s.a < now then ⟨s.r, s.d + room s.r s.d s.m (now - s.a), s.m, now⟩ else s
def Bk.ok (s : Bk) (now : Nat) : Bool := decide (1000 ≤ (s.fill now).d)
def Bk.take (s : Bk) (now : Nat) : Bk := if s.ok now then { s.fill now with d := (s.fill now).d - 1000 } else s.fill now
theorem Bk.Ok.fill {s : Bk} (h : s.Ok) {now : Nat} (hn : now < 18446744073709551616) : (s.fill now).Ok := by
  unfold Bk.fill
  split
  · refine ⟨?_, h.m, h.r, hn⟩
    have := h.d
    simp only [room]; omega
  · exact h
theorem Bk.Ok.take {s : Bk} (h : s.Ok) {now : Nat} (hn : now < 18446744073709551616) : (s.take now).Ok := by
  have k := h.fill hn
  unfold Bk.take
  split
  · exact ⟨by have := k.d; simp only []; omega, k.m, k.r, k.a⟩
  · exact k

set_option maxRecDepth 100000 in
set_option maxHeartbeats 400000 in
theorem take_any (s : Bk) (b : Nat) (now : Int) (w : World) (h : w.heap[b]? = some s.obj) (ok : s.Ok) (h0 : 0 ≤ now) (h1 : now < 18446744073709551616) :
    Calls Try.prog 11 #[.pointer (some ⟨b, 0, none⟩), .int .u64 now] w fun e w' => e = .returned (.bool (s.ok now.toNat)) ∧ Turned b (s.take now.toNat).obj w w' := by
  obtain ⟨n, rfl⟩ := Int.eq_ofNat_of_zero_le h0
  rw [Int.toNat_natCast]
  have hc4 := cell_blk h 4
  have hc3 := cell_blk h 3
  have hc1 := cell_blk h 1
  have hf1 := frozen_blk h 1
  have hf3 := frozen_blk h 3
  simp at hc1 hc3 hc4
  have hd := ok.d
  have hm := ok.m
  have hr := ok.r
  have hbz := lt_of_blk h
  by_cases hlt : s.a < n
  · have hfill : s.fill n = ⟨s.r, s.d + room s.r s.d s.m (n - s.a), s.m, n⟩ := by unfold Bk.fill; rw [if_pos hlt]
    have hd' : s.d + room s.r s.d s.m (n - s.a) ≤ s.m := by unfold room; omega
    by_cases he : 1000 ≤ s.d + room s.r s.d s.m (n - s.a)
    · have hok : s.ok n = true := by unfold Bk.ok; rw [hfill]; exact decide_eq_true he
      have htake : s.take n = ⟨s.r, s.d + room s.r s.d s.m (n - s.a) - 1000, s.m, n⟩ := by unfold Bk.take; rw [if_pos hok, hfill]
      rw [hok, htake]
      generalize hx : s.d + room s.r s.d s.m (n - s.a) = x at *
      have HX := Lib.hid hx; clear hx hfill hok htake ok
      have H := Lib.hid h; clear h
      go_enter Try.func11, Try.ntmps11
      go_wp2_with fail
      refine (comes_int b s.r s.d s.m s.a _ _ H.out (by omega) (by omega) hd (by omega) hr).mono ?_
      rintro e w1 ⟨rfl, ht⟩
      rw [show ((n : Int) - s.a).toNat = n - s.a from by omega, HX.out] at ht
      have HM := Lib.hid hm; clear h0 h1 hm hr
      have hb := ht.get hbz
      have d1 := cell_blk hb 1
      have d3 := cell_blk hb 3
      have f1 := frozen_blk hb 1
      have f3 := frozen_blk hb 3
      simp at d1 d3
      have HT := Lib.hid ht; clear ht
      have HB := Lib.hid hb; clear hb hc4 hc3 hc1 hf1 hf3
      go_wp2_with fail
      go_ret
      refine ⟨rfl, ?_⟩
      have t1 := HT.out.trans (Turned.setCell HB.out 3 (.int .u64 (n : Int)))
      have t2 := t1.trans (Turned.setCell (t1.get hbz) 1 (.int .u64 ((x : Int) - 1000)))
      have hm := HM.out
      rw [show (x : Int) - 1000 = ((x - 1000 : Nat) : Int) from by omega] at t2 ⊢
      rw [wrap_nat (by omega)]
      exact t2
    · have hok : s.ok n = false := by unfold Bk.ok; rw [hfill]; exact decide_eq_false he
      have htake : s.take n = ⟨s.r, s.d + room s.r s.d s.m (n - s.a), s.m, n⟩ := by unfold Bk.take; rw [if_neg (by rw [hok]; simp), hfill]
      rw [hok, htake]
      generalize hx : s.d + room s.r s.d s.m (n - s.a) = x at *
      have HX := Lib.hid hx; clear hx hfill hok htake ok
      have H := Lib.hid h; clear h
      go_enter Try.func11, Try.ntmps11
      go_wp2_with fail
      refine (comes_int b s.r s.d s.m s.a _ _ H.out (by omega) (by omega) hd (by omega) hr).mono ?_
      rintro e w1 ⟨rfl, ht⟩
      rw [show ((n : Int) - s.a).toNat = n - s.a from by omega, HX.out] at ht
      have HM := Lib.hid hm; clear h0 h1 hm hr
      have hb := ht.get hbz
      have d1 := cell_blk hb 1
      have d3 := cell_blk hb 3
      have f1 := frozen_blk hb 1
      have f3 := frozen_blk hb 3
      simp at d1 d3
      have HT := Lib.hid ht; clear ht
      have HB := Lib.hid hb; clear hb hc4 hc3 hc1 hf1 hf3
      go_wp2_with fail
      go_ret
      exact ⟨rfl, HT.out.trans (Turned.setCell HB.out 3 (.int .u64 (n : Int)))⟩
  · have hfill : s.fill n = s := by unfold Bk.fill; rw [if_neg hlt]
    by_cases he : 1000 ≤ s.d
    · have hok : s.ok n = true := by unfold Bk.ok; rw [hfill]; exact decide_eq_true he
      have htake : s.take n = ⟨s.r, s.d - 1000, s.m, s.a⟩ := by unfold Bk.take; rw [if_pos hok, hfill]
      rw [hok, htake]
      have H := Lib.hid h; have HM := Lib.hid hm; clear h hfill hok htake h0 h1 hm hr
      go_enter Try.func11, Try.ntmps11
      go_wp2_with fail
      go_ret
      refine ⟨rfl, ?_⟩
      have t2 := Turned.setCell H.out 1 (.int .u64 ((s.d : Int) - 1000))
      have hm := HM.out; have hd := ok.d
      rw [show (s.d : Int) - 1000 = ((s.d - 1000 : Nat) : Int) from by omega] at t2 ⊢
      rw [wrap_nat (by omega)]
      exact t2
    · have hok : s.ok n = false := by unfold Bk.ok; rw [hfill]; exact decide_eq_false he
      have htake : s.take n = s := by unfold Bk.take; rw [if_neg (by rw [hok]; simp), hfill]
      rw [hok, htake]
      have H := Lib.hid h; have HM := Lib.hid hm; clear h hfill hok htake h0 h1 hm hr
      go_enter Try.func11, Try.ntmps11
      go_wp2_with fail
      go_ret
      exact ⟨rfl, Turned.refl H.out⟩

end Go.Proofs.Ytmmligongchopaa
