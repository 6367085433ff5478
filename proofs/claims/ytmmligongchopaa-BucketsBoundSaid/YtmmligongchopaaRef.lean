/- The walks of the document's own bucket: New and Take, at the same four numbers. No condition but that the numbers fit. -/
import Derived.Test.YtmmligongchopaaLives
namespace Go.Proofs.Ytmmligongchopaa
open Go.RowKit
set_option linter.unusedVariables false

def rb (r u d a : Nat) : Obj := .cells #[.int .u64 r, .int .u64 u, .int .u64 d, .int .u64 a] 42 (0, 0)

theorem rb_eq {r u d a : Nat} {x y : Int} (h1 : (d : Int) = x) (h2 : (a : Int) = y) : Obj.cells #[.int .u64 r, .int .u64 u, .int .u64 x, .int .u64 y] 42 (0, 0) = rb r u d a := by
  subst h1; subst h2; rfl

theorem Turned.cast {b : Nat} {o o' : Obj} {w w' : World} (e : o = o') (h : Turned b o w w') : Turned b o' w w' := e ▸ h

theorem refnew_any (rate burst : Nat) (w : World) (h1 : rate < 4294967296) (h2 : burst < 4294967296) :
    Calls Try.prog 10 #[.int .u32 rate, .int .u32 burst] w fun e w' => e = .returned (.pointer (some ⟨w.heap.size, 0, none⟩)) ∧ Pushed (rb rate burst (burst * 1000) 0) w w' := by
  go_enter Try.func10, Try.ntmps10
  go_wp2_with fail
  go_ret
  refine ⟨rfl, ?_⟩
  rw [← rb_eq (r := rate) (u := burst) (d := burst * 1000) (a := 0) (x := 1000 * (burst : Int)) (y := 0) (by omega) rfl]
  exact ⟨rfl, rfl, rfl, rfl⟩

theorem Bk.ok_eq (s : Bk) (now : Nat) : s.ok now = decide (1000 ≤ (s.fill now).d) := rfl
theorem Bk.take_d (s : Bk) (now : Nat) : (s.take now).d = if 1000 ≤ (s.fill now).d then (s.fill now).d - 1000 else (s.fill now).d := by
  unfold Bk.take Bk.ok
  by_cases h : 1000 ≤ (s.fill now).d <;> simp [h]
theorem Bk.take_a (s : Bk) (now : Nat) : (s.take now).a = (s.fill now).a := by
  unfold Bk.take
  split <;> rfl
theorem Bk.take_m (s : Bk) (now : Nat) : (s.take now).m = s.m := by
  unfold Bk.take Bk.fill
  split <;> split <;> rfl
theorem Bk.take_r (s : Bk) (now : Nat) : (s.take now).r = s.r := by
  unfold Bk.take Bk.fill
  split <;> split <;> rfl

theorem ref_yes {s : Bk} {now b r u : Nat} {x y : Int} {w w' : World} (hX : ((s.fill now).d : Int) = x) (hA : ((s.fill now).a : Int) = y) (hx : 1000 ≤ x)
    (t : Turned b (Obj.cells #[.int .u64 r, .int .u64 u, .int .u64 (x - 1000), .int .u64 y] 42 (0, 0)) w w') :
    Ending.returned (.bool true) = .returned (.bool (s.ok now)) ∧ Turned b (rb r u (s.take now).d (s.take now).a) w w' := by
  refine ⟨by rw [Bk.ok_eq, decide_eq_true (by omega)], t.cast (rb_eq ?_ ?_)⟩
  · rw [Bk.take_d, if_pos (by omega)]; omega
  · rw [Bk.take_a]; exact hA
theorem ref_no {s : Bk} {now b r u : Nat} {x y : Int} {w w' : World} (hX : ((s.fill now).d : Int) = x) (hA : ((s.fill now).a : Int) = y) (hx : ¬ 1000 ≤ x)
    (t : Turned b (Obj.cells #[.int .u64 r, .int .u64 u, .int .u64 x, .int .u64 y] 42 (0, 0)) w w') :
    Ending.returned (.bool false) = .returned (.bool (s.ok now)) ∧ Turned b (rb r u (s.take now).d (s.take now).a) w w' := by
  refine ⟨by rw [Bk.ok_eq, decide_eq_false (by omega)], t.cast (rb_eq ?_ ?_)⟩
  · rw [Bk.take_d, if_neg (by omega)]; exact hX
  · rw [Bk.take_a]; exact hA

theorem rb_step {b r u i : Nat} {x y : Int} {w w1 : World} {v : Value} (hb : b < w.heap.size) (t : Turned b (Obj.cells #[.int .u64 r, .int .u64 u, .int .u64 x, .int .u64 y] 42 (0, 0)) w w1) :
    Turned b (Obj.cells (#[.int .u64 r, .int .u64 u, .int .u64 x, .int .u64 y].setIfInBounds i v) 42 (0, 0)) w (w1.setCell ⟨b, i, none⟩ v) :=
  t.trans (Turned.setCell (t.get hb) i v)

theorem fill_late {s : Bk} {now : Nat} (h : s.a < now) : (s.fill now).d = s.d + room s.r s.d s.m (now - s.a) ∧ (s.fill now).a = now := by
  unfold Bk.fill; rw [if_pos h]; exact ⟨rfl, rfl⟩
theorem fill_not {s : Bk} {now : Nat} (h : ¬ s.a < now) : s.fill now = s := by
  unfold Bk.fill; rw [if_neg h]

theorem room_full {r d m ms : Nat} (h0 : 0 < r) (h : (m - d) / r + 1 ≤ ms) : room r d m ms = m - d := by
  unfold room
  have h1 : (m - d) < ((m - d) / r + 1) * r := by
    have := Nat.lt_div_mul_add (a := m - d) h0
    rw [Nat.add_mul, Nat.one_mul]; exact this
  have h2 : ((m - d) / r + 1) * r ≤ ms * r := Nat.mul_le_mul_right r h
  omega
theorem room_small {r d m ms : Nat} (h : ¬ (m - d) / r + 1 ≤ ms) : ms * r ≤ m - d := by
  have h1 : ms * r ≤ (m - d) / r * r := Nat.mul_le_mul_right r (by omega)
  have h2 : (m - d) / r * r ≤ m - d := Nat.div_mul_le_self _ _
  omega
theorem room_none {d m ms : Nat} : room 0 d m ms = 0 := by unfold room; omega

set_option maxRecDepth 100000 in
set_option maxHeartbeats 400000 in
theorem reftake_late (r u d a b now : Nat) (w : World) (h : w.heap[b]? = some (rb r u d a)) (hd : d ≤ u * 1000) (hm : u * 1000 < 9223372036854775808) (hr : r < 18446744073709551616) (h1 : now < 18446744073709551616) (hlt : a < now) :
    Calls Try.prog 12 #[.pointer (some ⟨b, 0, none⟩), .int .u64 now] w fun e w' => e = .returned (.bool (Bk.ok ⟨r, d, u * 1000, a⟩ now)) ∧ Turned b (rb r u (Bk.take ⟨r, d, u * 1000, a⟩ now).d (Bk.take ⟨r, d, u * 1000, a⟩ now).a) w w' := by
  obtain ⟨f1, f2⟩ := fill_late (s := ⟨r, d, u * 1000, a⟩) hlt
  have hb := lt_of_blk h
  have hc0 := cell_blk h 0
  have hc1 := cell_blk h 1
  have hc2 := cell_blk h 2
  have hc3 := cell_blk h 3
  have hf2 := frozen_blk h 2
  have hf3 := frozen_blk h 3
  simp at hc0 hc1 hc2 hc3
  have H := Lib.hid h; clear h
  have hA : (((Bk.fill ⟨r, d, u * 1000, a⟩ now).a : Nat) : Int) = now := by rw [f2]
  have HA := Lib.hid hA; clear hA f2
  by_cases hr0 : 0 < r
  · by_cases hq : (u * 1000 - d) / r + 1 ≤ now - a
    · have hX : (((Bk.fill ⟨r, d, u * 1000, a⟩ now).d : Nat) : Int) = (d : Int) + (1000 * u - d) := by
        rw [f1]; simp only; rw [room_full hr0 hq]; omega
      have HX := Lib.hid hX; clear hX f1
      have hq' : ((1000 * u : Int) - d) / r + 1 ≤ now - a := by
        have : (((u * 1000 - d) / r + 1 : Nat) : Int) ≤ ((now - a : Nat) : Int) := by exact_mod_cast hq
        rw [Int.natCast_add, Int.natCast_ediv, Int.natCast_sub (by omega), Int.natCast_sub (by omega)] at this
        rw [show (1000 * u : Int) - d = ((u * 1000 : Nat) : Int) - d from by omega]; exact this
      have hz : 0 ≤ ((1000 * u : Int) - d) / r := Int.ediv_nonneg (by omega) (by omega)
      clear hq
      go_enter Try.func12, Try.ntmps12
      go_wp2_with fail
      go_quiet (fail)
      go_wp2_with fail
      · go_ret
        exact ref_no HX.out HA.out (by omega) (rb_step (i := 3) hb (rb_step (i := 2) (v := .int .u64 ((d : Int) + (1000 * u - d))) hb ((Turned.refl H.out).drewN _)))
      · go_ret
        exact ref_yes HX.out HA.out (by assumption) (rb_step (i := 2) hb (rb_step (i := 3) hb (rb_step (i := 2) (v := .int .u64 ((d : Int) + (1000 * u - d))) hb ((Turned.refl H.out).drewN _))))
    · have hs := room_small hq
      have hX : (((Bk.fill ⟨r, d, u * 1000, a⟩ now).d : Nat) : Int) = (d : Int) + ((now : Int) - a) * r := by
        rw [f1]; simp only; unfold room
        rw [Nat.min_eq_right hs, Int.natCast_add, Int.natCast_mul, Int.natCast_sub (by omega)]
      have HX := Lib.hid hX; clear hX f1
      have hq' : ¬ ((1000 * u : Int) - d) / r + 1 ≤ now - a := by
        intro hh
        apply hq
        have : (((u * 1000 - d) / r + 1 : Nat) : Int) ≤ ((now - a : Nat) : Int) := by
          rw [Int.natCast_add, Int.natCast_ediv, Int.natCast_sub (by omega), Int.natCast_sub (by omega)]
          rw [show (1000 * u : Int) - d = ((u * 1000 : Nat) : Int) - d from by omega] at hh; exact hh
        exact_mod_cast this
      have hz : 0 ≤ ((1000 * u : Int) - d) / r := Int.ediv_nonneg (by omega) (by omega)
      have hz2 : ((1000 * u : Int) - d) / r ≤ 1000 * u - d := Int.ediv_le_self _ (by omega)
      have hs1 : ((now : Int) - a) * r ≤ 1000 * u - d := by
        have : (((now - a) * r : Nat) : Int) ≤ ((u * 1000 - d : Nat) : Int) := by exact_mod_cast hs
        rw [Int.natCast_mul, Int.natCast_sub (by omega), Int.natCast_sub (by omega)] at this
        omega
      have hs0 : 0 ≤ ((now : Int) - a) * r := Int.mul_nonneg (by omega) (by omega)
      clear hq hs
      by_cases hs2 : ((now : Int) - a) * r < 1000 * u - d
      · by_cases he : 1000 ≤ (d : Int) + ((now : Int) - a) * r
        · go_enter Try.func12, Try.ntmps12
          go_wp2_with fail
          go_quiet (fail)
          go_wp2_with fail
          go_region
          go_wp2_with fail
          go_ret
          exact ref_yes HX.out HA.out (by omega) (rb_step (i := 2) hb (rb_step (i := 3) hb (rb_step (i := 2) (v := .int .u64 ((d : Int) + ((now : Int) - a) * r)) hb ((Turned.refl H.out).drewN _))))
        · go_enter Try.func12, Try.ntmps12
          go_wp2_with fail
          go_quiet (fail)
          go_wp2_with fail
          go_region
          go_wp2_with fail
          go_ret
          exact ref_no HX.out HA.out (by omega) (rb_step (i := 3) hb (rb_step (i := 2) (v := .int .u64 ((d : Int) + ((now : Int) - a) * r)) hb ((Turned.refl H.out).drewN _)))
      · have e1 : ((now : Int) - a) * r = 1000 * u - d := by omega
        have HX2 : Hid ((((Bk.fill ⟨r, d, u * 1000, a⟩ now).d : Nat) : Int) = (d : Int) + (1000 * u - d)) := by rw [← e1]; exact HX
        clear e1 HX
        have hp : 0 < ((now : Int) - a) * r := Int.mul_pos (by omega) (by omega)
        have he : 1000 ≤ (d : Int) + (1000 * u - d) := by omega
        clear hp
        go_enter Try.func12, Try.ntmps12
        go_wp2_with fail
        go_quiet (fail)
        go_wp2_with fail
        go_region
        go_wp2_with fail
        go_ret
        exact ref_yes HX2.out HA.out (by omega) (rb_step (i := 2) hb (rb_step (i := 3) hb (rb_step (i := 2) (v := .int .u64 ((d : Int) + (1000 * u - d))) hb ((Turned.refl H.out).drewN _))))
  · have hX : (((Bk.fill ⟨r, d, u * 1000, a⟩ now).d : Nat) : Int) = (d : Int) := by
      rw [f1]; simp only; rw [show r = 0 from by omega, room_none, Nat.add_zero]
    have HX := Lib.hid hX; clear hX f1
    by_cases he : 1000 ≤ (d : Int)
    · go_enter Try.func12, Try.ntmps12
      go_wp2_with fail
      go_quiet (fail)
      go_wp2_with fail
      go_ret
      exact ref_yes HX.out HA.out (by omega) (rb_step (i := 2) hb (rb_step (i := 3) hb ((Turned.refl H.out).drewN _)))
    · go_enter Try.func12, Try.ntmps12
      go_wp2_with fail
      go_quiet (fail)
      go_wp2_with fail
      go_ret
      exact ref_no HX.out HA.out (by omega) (rb_step (i := 3) hb ((Turned.refl H.out).drewN _))

set_option maxRecDepth 100000 in
set_option maxHeartbeats 400000 in
theorem reftake_not (r u d a b now : Nat) (w : World) (h : w.heap[b]? = some (rb r u d a)) (hd : d ≤ u * 1000) (hm : u * 1000 < 9223372036854775808) (h1 : now < 18446744073709551616) (hlt : ¬ a < now) :
    Calls Try.prog 12 #[.pointer (some ⟨b, 0, none⟩), .int .u64 now] w fun e w' => e = .returned (.bool (Bk.ok ⟨r, d, u * 1000, a⟩ now)) ∧ Turned b (rb r u (Bk.take ⟨r, d, u * 1000, a⟩ now).d (Bk.take ⟨r, d, u * 1000, a⟩ now).a) w w' := by
  have hf : (Bk.fill ⟨r, d, u * 1000, a⟩ now).d = d ∧ (Bk.fill ⟨r, d, u * 1000, a⟩ now).a = a := by rw [fill_not (s := ⟨r, d, u * 1000, a⟩) hlt]; exact ⟨rfl, rfl⟩
  have hb := lt_of_blk h
  have hc0 := cell_blk h 0
  have hc1 := cell_blk h 1
  have hc2 := cell_blk h 2
  have hc3 := cell_blk h 3
  have hf2 := frozen_blk h 2
  have hf3 := frozen_blk h 3
  simp at hc0 hc1 hc2 hc3
  have H := Lib.hid h; clear h
  have HF := Lib.hid hf; clear hf
  by_cases he : 1000 ≤ (d : Int)
  · go_enter Try.func12, Try.ntmps12
    go_wp2_with fail
    go_ret
    exact ref_yes (x := (d : Int)) (y := (a : Int)) (by rw [HF.out.1]) (by rw [HF.out.2]) (by assumption) (rb_step (i := 2) hb (Turned.refl H.out))
  · go_enter Try.func12, Try.ntmps12
    go_wp2_with fail
    go_ret
    exact ref_no (x := (d : Int)) (y := (a : Int)) (by rw [HF.out.1]) (by rw [HF.out.2]) (by omega) (Turned.refl H.out)

theorem reftake_any (r u d a b : Nat) (now : Int) (w : World) (h : w.heap[b]? = some (rb r u d a)) (hd : d ≤ u * 1000) (hm : u * 1000 < 9223372036854775808) (hr : r < 18446744073709551616) (h0 : 0 ≤ now) (h1 : now < 18446744073709551616) :
    Calls Try.prog 12 #[.pointer (some ⟨b, 0, none⟩), .int .u64 now] w fun e w' => e = .returned (.bool (Bk.ok ⟨r, d, u * 1000, a⟩ now.toNat)) ∧ Turned b (rb r u (Bk.take ⟨r, d, u * 1000, a⟩ now.toNat).d (Bk.take ⟨r, d, u * 1000, a⟩ now.toNat).a) w w' := by
  obtain ⟨n, rfl⟩ := Int.eq_ofNat_of_zero_le h0
  by_cases hlt : a < n
  · exact reftake_late r u d a b n w h hd hm hr (by omega) hlt
  · exact reftake_not r u d a b n w h hd hm (by omega) hlt
end Go.Proofs.Ytmmligongchopaa
