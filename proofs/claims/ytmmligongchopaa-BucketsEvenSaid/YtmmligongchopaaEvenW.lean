/- The walk of BucketsEven: it returns true and makes new blocks alone. No condition but what each argument's kind bears. -/
import Derived.Test.YtmmligongchopaaTakeW
namespace Go.Proofs.Ytmmligongchopaa
open Go.RowKit
set_option linter.unusedVariables false

/-- how long a step is; how many drops come -/
def stepOf (ms : Nat) : Nat := 1 + ms % 1000
def rateOf (ms : Nat) : Nat := (1000 + stepOf ms - 1) / stepOf ms
theorem step_bd (ms : Nat) : 1 ≤ stepOf ms ∧ stepOf ms ≤ 1000 := by unfold stepOf; omega
theorem rate_bd (ms : Nat) : 1 ≤ rateOf ms ∧ rateOf ms ≤ 1000 := by
  have := step_bd ms
  unfold rateOf
  constructor
  · exact (Nat.le_div_iff_mul_le (by omega)).2 (by omega)
  · exact Nat.div_le_of_le_mul (by
      have : stepOf ms * 1000 ≥ 1000 + stepOf ms - 1 := by omega
      exact this)
theorem rate_step (ms : Nat) : 1000 ≤ stepOf ms * rateOf ms := by
  have h := step_bd ms
  unfold rateOf
  have := Nat.lt_mul_div_succ (1000 + stepOf ms - 1) (show 0 < stepOf ms by omega)
  rw [Nat.mul_add] at this
  omega

/-- a step brings a thousand, if there is room -/
theorem even_take {s : Bk} {ms i : Nat} (hr : s.r = rateOf ms) (hd : s.d ≤ s.m) (hm : 1000 ≤ s.m) (ha : s.a + stepOf ms = i) : s.ok i = true ∧ (s.take i).a = i := by
  have h := step_bd ms
  have hlt : s.a < i := by omega
  obtain ⟨f1, f2⟩ := fill_late hlt
  have hq : 1000 ≤ (i - s.a) * s.r := by rw [hr, show i - s.a = stepOf ms by omega]; exact rate_step ms
  constructor
  · rw [Bk.ok_eq, f1, decide_eq_true]
    unfold room
    omega
  · rw [Bk.take_a, f2]

/-- at one time: a thousand each -/
theorem zero_take {s : Bk} (ha : s.a = 0) : s.ok 0 = decide (1000 ≤ s.d) ∧ (1000 ≤ s.d → s.take 0 = ⟨s.r, s.d - 1000, s.m, 0⟩) ∧ (s.d < 1000 → s.take 0 = s) := by
  have e := fill_not (s := s) (now := 0) (by omega)
  refine ⟨by rw [Bk.ok_eq, e], fun h => ?_, fun h => ?_⟩
  · unfold Bk.take Bk.ok
    rw [e, if_pos (decide_eq_true h), ← ha]
  · unfold Bk.take Bk.ok
    rw [e, if_neg (by simp; omega)]

theorem stepI (ms : Nat) : ((1 : Int) + (ms : Int) % 1000) = (stepOf ms : Nat) := by unfold stepOf; omega
theorem rateI (ms : Nat) : ((1000 : Int) + (stepOf ms : Nat) - 1) / (stepOf ms : Nat) = (rateOf ms : Nat) := by
  have := step_bd ms
  unfold rateOf
  rw [Int.natCast_ediv, Int.natCast_sub (by omega)]
  rfl

structure EvenInv (B pb : Nat) (w wr : World) (s : Bk) (ms burst : Nat) : Prop where
  hb : wr.heap[pb]? = some s.obj
  ks : s.Ok
  r : s.r = rateOf ms
  m : s.m = burst * 1000
  below : Below B w wr

set_option maxRecDepth 100000 in
set_option maxHeartbeats 800000 in
theorem even_walk (burst ms many : Nat) (w : World) (h1 : burst < 256) (h2 : ms < 65536) (h3 : many < 256) :
    Calls Try.prog 6 #[.int .u8 burst, .int .u16 ms, .int .u8 many] w fun e w' => e = .returned (.bool true) ∧ Below w.heap.size w w' := by
  have e1 := stepI ms
  have e2 := rateI ms
  obtain ⟨s1, s2⟩ := step_bd ms
  obtain ⟨r1, r2⟩ := rate_bd ms
  go_enter Try.func6, Try.ntmps6
  go_wp2_with fail
  refine (new_made _ _ _ (by omega) (by omega)).mono ?_
  rintro e w1 ⟨pb, rfl, m1⟩
  have gb : w.heap.size ≤ pb := m1.new
  have I0 : EvenInv w.heap.size pb w w1 (mkB (rateOf ms) burst) ms burst := ⟨m1.get, mkB_ok (by omega) (by omega), rfl, rfl, m1.below⟩
  clear m1
  have HE1 := Lib.hid e1; have HE2 := Lib.hid e2
  go_wp2_with fail
  clear e1 e2
  go_loopw [10] (fun i wr => ∃ (k : Nat) (s : Bk), k ≤ burst ∧ i = .int .i64 k ∧ s.d + 1000 * k = burst * 1000 ∧ s.a = 0 ∧ EvenInv w.heap.size pb w wr s ms burst) (fun i _ => burst - (intOf i).toNat)
  case atStart => exact ⟨0, _, by omega, rfl, rfl, rfl, I0⟩
  case round =>
    clear I0
    obtain ⟨k, s, hk, rfl, hd, ha, I⟩ := hrel
    by_cases hlt : k < burst
    · obtain ⟨z1, z2, _⟩ := zero_take ha
      have Z2 := Lib.hid (z2 (by omega))
      have Z1 : s.ok 0 = true := by rw [z1]; exact decide_eq_true (by omega)
      have HD := Lib.hid hd; have HA := Lib.hid ha
      clear z1 z2 hd ha
      have HZ1 := Lib.hid Z1; clear Z1
      go_wp2_with fail
      refine (take_is s _ true pb 0 _ I.hb I.ks (by omega) (by omega) HZ1.out Z2.out).mono ?_
      rintro e w2 ⟨rfl, t2⟩
      have I2 : EvenInv w.heap.size pb w w2 ⟨s.r, s.d - 1000, s.m, 0⟩ ms burst := ⟨t2.get (lt_of_blk I.hb), by rw [← Z2.out]; exact I.ks.take (by omega), I.r, I.m, I.below.trans (t2.below gb)⟩
      clear t2 I
      go_wp2_with fail
      go_roundw
      case rel => exact ⟨k + 1, _, by omega, by go_num, by have := HD.out; simp only; omega, rfl, I2⟩
      case measure => simp [intOf]; omega
    · obtain rfl : k = burst := by omega
      obtain ⟨z1, _, z3⟩ := zero_take ha
      have Z3 := Lib.hid (z3 (by omega))
      have Z1 : s.ok 0 = false := by rw [z1]; exact decide_eq_false (by omega)
      have HD := Lib.hid hd; have HA := Lib.hid ha
      clear z1 z3 hd ha
      have HZ1 := Lib.hid Z1; clear Z1
      go_wp2_with fail
      refine (take_is s _ false pb 0 _ I.hb I.ks (by omega) (by omega) HZ1.out Z3.out).mono ?_
      rintro e w2 ⟨rfl, t2⟩
      have I2 : EvenInv w.heap.size pb w w2 s ms k := ⟨t2.get (lt_of_blk I.hb), I.ks, I.r, I.m, I.below.trans (t2.below gb)⟩
      clear t2 I
      by_cases hb0 : k = 0
      · have hm0 : s.m = 0 := by rw [I2.m, hb0]
        have hd0 : s.d = 0 := by have := I2.ks.d; omega
        subst hb0
        have hbig : s.ok (4611686018427387904 : Int).toNat = false := by
          rw [Bk.ok_eq, decide_eq_false]
          have := (I2.ks.fill (now := 4611686018427387904) (by omega)).d
          have e : (s.fill 4611686018427387904).m = s.m := by unfold Bk.fill; split <;> rfl
          rw [e] at this
          show ¬ 1000 ≤ (s.fill 4611686018427387904).d
          omega
        have HB := Lib.hid hbig; clear hbig hm0 hd0
        go_wp2_with fail
        refine (take_is s _ false pb 4611686018427387904 _ I2.hb I2.ks (by omega) (by omega) HB.out rfl).mono ?_
        rintro e w3 ⟨rfl, t3⟩
        have B3 := I2.below.trans (t3.below gb)
        clear I2 t3
        go_wp2_with fail
        go_loopw [11] (fun i wr => i = .int .u64 1 ∧ Below w.heap.size w wr) (fun i _ => 0)
        case atStart => exact ⟨rfl, B3⟩
        case round =>
          clear B3
          obtain ⟨rfl, B4⟩ := hrel
          go_wp2_with fail
          all_goals
            refine (lives_any _).mono ?_
            rintro e w9 ⟨rfl, b9⟩
            go_wp2_with fail
            go_ret
            exact ⟨rfl, B4.trans (b9.mono B4.size)⟩
      · have hbp : 0 < k := by omega
        have hd0 : s.d = 0 := by have := HD.out; omega
        have A2 : s.a + stepOf ms = 1 * stepOf ms := by rw [HA.out]; omega
        have HA2 := Lib.hid A2
        clear hd0 A2 hb0
        go_wp2_with fail
        go_loopw [11] (fun i wr => ∃ (j : Nat) (s : Bk), 1 ≤ j ∧ j ≤ many % 50 + 1 ∧ i = .int .u64 j ∧ s.a + stepOf ms = j * stepOf ms ∧ EvenInv w.heap.size pb w wr s ms k) (fun i _ => 51 - (intOf i).toNat)
        case atStart => exact ⟨1, _, by omega, by omega, rfl, HA2.out, I2⟩
        case round =>
          clear I2
          obtain ⟨j, s', hj1, hj2, rfl, haj, I⟩ := hrel
          by_cases hlt2 : j ≤ many % 50
          · have hnl : (j : Int) * stepOf ms ≤ 51000 := by
              have : (j : Int) * stepOf ms ≤ 51 * 1000 := Int.mul_le_mul (by omega) (by omega) (by omega) (by omega)
              omega
            have hnp : 0 ≤ (j : Int) * stepOf ms := Int.mul_nonneg (by omega) (by omega)
            obtain ⟨q1, q2⟩ := even_take I.r I.ks.d (by rw [I.m]; omega) haj
            have Q1 : s'.ok ((j : Int) * stepOf ms).toNat = true := by rw [show ((j : Int) * stepOf ms).toNat = j * stepOf ms from by rw [← Int.natCast_mul, Int.toNat_natCast]]; exact q1
            have Q2 : (s'.take ((j : Int) * stepOf ms).toNat).a = j * stepOf ms := by rw [show ((j : Int) * stepOf ms).toNat = j * stepOf ms from by rw [← Int.natCast_mul, Int.toNat_natCast]]; exact q2
            have HQ1 := Lib.hid Q1; have HQ2 := Lib.hid Q2; clear Q1 Q2 q1 q2 haj
            go_wp2_with fail
            refine (take_is s' _ true pb _ _ I.hb I.ks (by omega) (by omega) HQ1.out rfl).mono ?_
            rintro e w4 ⟨rfl, t4⟩
            have I4 : EvenInv w.heap.size pb w w4 (s'.take ((j : Int) * stepOf ms).toNat) ms k := ⟨t4.get (lt_of_blk I.hb), I.ks.take (by omega), by rw [Bk.take_r]; exact I.r, by rw [Bk.take_m]; exact I.m, I.below.trans (t4.below gb)⟩
            clear I t4
            go_wp2_with fail
            go_roundw
            case rel => exact ⟨j + 1, _, by omega, by omega, by go_num, by rw [HQ2.out, Nat.succ_mul], I4⟩
            case measure => simp [intOf]; omega
          · go_wp2_with fail
            refine (lives_any _).mono ?_
            rintro e w9 ⟨rfl, b9⟩
            go_wp2_with fail
            go_ret
            exact ⟨rfl, I.below.trans (b9.mono I.below.size)⟩
end Go.Proofs.Ytmmligongchopaa
