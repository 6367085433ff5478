/- Several texts in one: RA, RB, RC. No condition beyond those that each part names. -/
import Derived.Test.YtjldcblklbikaaaFD
import Derived.Test.YtjldcblklbikaaaFU
/- The reference's small calls: where a part ends, may it be, times added. No condition but the sizes that are named. (Written out by exp.py.) -/
namespace Go.Proofs.Ytjldcblklbikaaa
open Go.RowKit
set_option linter.unusedVariables false
set_option linter.unusedSimpArgs false
set_option maxRecDepth 100000 in
set_option maxHeartbeats 400000 in
theorem end65 {P : List Value} {x : Pk} {A : Option Addr} {c : Nat} (w : World) (h : PkAt P x A c) (hl : x.body.length ≤ 1000000000) :
    Calls Try.prog 65 #[.agg P.toArray] w (NatPost (too x) w) := by
  have b := heap_alloc_new w (.cells P.toArray 43)
  have c36 := box_cell b (h.tail 4)
  have c39 := box_cell b (h.tail 7)
  have ho := h.ok.off
  obtain ⟨q, hq⟩ : ∃ q, q = x.off := ⟨_, rfl⟩
  obtain ⟨m, hm⟩ : ∃ m, m = x.body.length := ⟨_, rfl⟩
  rw [← hq] at c36 ho
  rw [← hm] at c39 hl
  have HQ : Hid (too x = q * 8 + m) := Lib.hid (by unfold too frm; rw [hq, hm])
  have w1 : IntKind.i64.wrap (q : Int) = (q : Int) := i64_small (by omega)
  have w2 : IntKind.i64.wrap (8 * (q : Int)) = 8 * (q : Int) := by rw [show 8 * (q : Int) = ((q * 8 : Nat) : Int) by omega]; exact i64_small (by omega)
  have w3 : IntKind.i64.wrap (8 * (q : Int) + m) = 8 * (q : Int) + m := by rw [show 8 * (q : Int) + m = ((q * 8 + m : Nat) : Int) by omega]; exact i64_small (by omega)
  clear h hq hm b
  go_enter Try.func65, Try.ntmps65
  go_wp2_with fail
  go_ret
  refine ⟨?_, (Below.refl _ _).alloc (Nat.le_refl _) _⟩
  rw [HQ.out, show ((q * 8 + m : Nat) : Int) = 8 * (q : Int) + m by omega]; rfl
set_option maxRecDepth 100000 in
set_option maxHeartbeats 400000 in
theorem add46 (w : World) {a b : Nat} (ha : a < 18446744073709551616) (hb : b < 18446744073709551616) :
    Calls Try.prog 46 #[.int .u64 (a : Int), .int .u64 (b : Int)] w fun e w' => e = .returned (.int .u64 (addU a b : Int)) ∧ w = w' := by
  by_cases h1 : 9223372036854775807 ≤ a
  · have t1 : (a : Int) ≥ 9223372036854775807 := by omega
    have hv : addU a b = 9223372036854775807 := by unfold addU; split <;> (try split) <;> omega
    have HV := Lib.hid hv
    clear h1 hv
    go_enter Try.func46, Try.ntmps46
    go_wp2_with fail
    go_ret
    exact ⟨by rw [HV.out]; rfl, rfl⟩
  · have t1 : ¬ (a : Int) ≥ 9223372036854775807 := by omega
    by_cases h2 : 9223372036854775807 ≤ b
    · have t2 : (b : Int) ≥ 9223372036854775807 := by omega
      have hv : addU a b = 9223372036854775807 := by unfold addU; split <;> (try split) <;> omega
      have HV := Lib.hid hv
      clear h1 h2 hv
      go_enter Try.func46, Try.ntmps46
      go_wp2_with fail
      go_ret
      exact ⟨by rw [HV.out]; rfl, rfl⟩
    · have t2 : ¬ (b : Int) ≥ 9223372036854775807 := by omega
      have w1 : IntKind.u64.wrap ((a : Int) + b) = ((a : Int) + b) := by rw [IntKind.wrap_u64]; omega
      by_cases h3 : 9223372036854775807 ≤ a + b
      · have t3 : (a : Int) + b ≥ 9223372036854775807 := by omega
        have hv : addU a b = 9223372036854775807 := by unfold addU; split <;> (try split) <;> omega
        have HV := Lib.hid hv
        clear h1 h2 h3 hv
        go_enter Try.func46, Try.ntmps46
        go_wp2_with fail
        go_ret
        exact ⟨by rw [HV.out]; rfl, rfl⟩
      · have t3 : ¬ (a : Int) + b ≥ 9223372036854775807 := by omega
        have hv : addU a b = a + b := by unfold addU; split <;> (try split) <;> omega
        have HV := Lib.hid hv
        clear h1 h2 h3 hv
        go_enter Try.func46, Try.ntmps46
        go_wp2_with fail
        go_ret
        exact ⟨by rw [HV.out]; rfl, rfl⟩
end Go.Proofs.Ytjldcblklbikaaa

/- The reference: has a part a place, may a part be. No condition but the sizes that are named. (Written out by exp.py.) -/
namespace Go.Proofs.Ytjldcblklbikaaa
open Go.RowKit
set_option linter.unusedVariables false
set_option linter.unusedSimpArgs false
set_option maxRecDepth 100000 in
set_option maxHeartbeats 4000000 in
theorem has66 {P : List Value} {x : Pk} {A : Option Addr} {c k : Nat} (w : World) (h : PkAt P x A c) (hl : x.body.length ≤ 1000000000) :
    Calls Try.prog 66 #[.agg P.toArray, .int .i64 (k : Int)] w (BoolPost (decide (frm x ≤ k) && decide (k < too x)) w) := by
  have b := heap_alloc_new w (.cells P.toArray 43)
  obtain ⟨V, hV⟩ : ∃ V, V = w.alloc (.cells P.toArray 43) := ⟨_, rfl⟩
  obtain ⟨p, hp⟩ : ∃ p, p = w.heap.size := ⟨_, rfl⟩
  have hal : Below w.heap.size w V := by rw [hV]; exact (Below.refl _ _).alloc (Nat.le_refl _) _
  rw [← hV, ← hp] at b
  have c36 := box_cell b (h.tail 4)
  have ho := h.ok.off
  have HE := Lib.hid (end65 V h hl)
  have HR := Lib.hid (row_of b)
  have HLEN := Lib.hid h.len
  have HSZ := Lib.hid size43
  have HAL := Lib.hid hal
  obtain ⟨q, hq⟩ : ∃ q, q = x.off := ⟨_, rfl⟩
  obtain ⟨t, ht⟩ : ∃ t, t = too x := ⟨_, rfl⟩
  rw [← hq] at c36 ho
  rw [← ht] at HE
  have HF : Hid (frm x = q * 8) := Lib.hid (by unfold frm; rw [hq])
  have HT := Lib.hid ht
  have w1 : IntKind.i64.wrap (q : Int) = (q : Int) := i64_small (by omega)
  have w2 : IntKind.i64.wrap (8 * (q : Int)) = 8 * (q : Int) := by rw [show 8 * (q : Int) = ((q * 8 : Nat) : Int) by omega]; exact i64_small (by omega)
  clear h hq ht b hal
  by_cases h1 : q * 8 ≤ k
  · have t1 : (k : Int) ≥ 8 * (q : Int) := by omega
    have HV : Hid ((decide (frm x ≤ k) && decide (k < too x)) = decide (k < t)) := Lib.hid (by rw [HF.out, ← HT.out, decide_eq_true h1, Bool.true_and])
    clear h1
    go_enter Try.func66, Try.ntmps66
    go_upto_region 1 with (fail)
    rw [← hV, ← hp]
    clear hV hp
    go_wp2_with (first | (refine wpList_load_mid_w ?hw 43 (.tmp 2) ?ho p 0 ?hx P _ ?hr Try.underlying43 rfl ?hi ?_; (case ho => with_reducible rfl); (case hx => rfl); (case hw => rfl); (case hr => exact HR.out); (case hi => rw [HLEN.out]; exact HSZ.out)))
    refine (HE.out).mono ?_
    rintro e w2 ⟨rfl, hb2⟩
    have HB2 := Lib.hid (HAL.out.trans (hb2.mono HAL.out.size))
    clear hb2 HE
    go_wp2_with fail
    go_ret
    exact ⟨by rw [HV.out]; rfl, HB2.out⟩
  · have t1 : ¬ (k : Int) ≥ 8 * (q : Int) := by omega
    have HV : Hid ((decide (frm x ≤ k) && decide (k < too x)) = false) := Lib.hid (by rw [HF.out, decide_eq_false h1]; rfl)
    clear h1
    go_enter Try.func66, Try.ntmps66
    go_upto_region 1 with (fail)
    rw [← hV, ← hp]
    clear hV hp
    go_wp2_with fail
    go_ret
    exact ⟨by rw [HV.out]; rfl, HAL.out⟩
end Go.Proofs.Ytjldcblklbikaaa

/- The reference: may a part be. No condition but the size that is named. (Written out by exp.py.) -/
namespace Go.Proofs.Ytjldcblklbikaaa
open Go.RowKit
set_option linter.unusedVariables false
set_option linter.unusedSimpArgs false
set_option maxRecDepth 100000 in
set_option maxHeartbeats 1000000 in
theorem may45 {P : List Value} {x : Pk} {A : Option Addr} {c : Nat} (w : World) (h : PkAt P x A c) (hl : x.body.length ≤ 1000000000) :
    Calls Try.prog 45 #[.agg P.toArray] w (BoolPost (mayB x) w) := by
  have b := heap_alloc_new w (.cells P.toArray 43)
  obtain ⟨V, hV⟩ : ∃ V, V = w.alloc (.cells P.toArray 43) := ⟨_, rfl⟩
  obtain ⟨p, hp⟩ : ∃ p, p = w.heap.size := ⟨_, rfl⟩
  have hal : Below w.heap.size w V := by rw [hV]; exact (Below.refl _ _).alloc (Nat.le_refl _) _
  rw [← hV, ← hp] at b
  have c37 := box_cell b (h.tail 5)
  have c39 := box_cell b (h.tail 7)
  have HE := Lib.hid (end65 V h hl)
  have HR := Lib.hid (row_of b)
  have HLEN := Lib.hid h.len
  have HSZ := Lib.hid size43
  have HAL := Lib.hid hal
  obtain ⟨m, hm⟩ : ∃ m, m = x.body.length := ⟨_, rfl⟩
  obtain ⟨q, hq⟩ : ∃ q, q = too x := ⟨_, rfl⟩
  obtain ⟨mo, hmo⟩ : ∃ b, b = x.more := ⟨_, rfl⟩
  have HT : Hid (mayB x = (decide (q ≤ 16384) && (!mo || (decide (0 < m) && decide (m % 8 = 0))))) := Lib.hid (by unfold mayB; rw [hq, hm, hmo])
  rw [← hm] at c39 hl
  rw [← hmo] at c37
  rw [← hq] at HE
  have w1 : (m : Int).tmod 8 = ((m % 8 : Nat) : Int) := rfl
  clear h hm hq hmo b hal
  by_cases h3 : q ≤ 16384
  · have t3 : (q : Int) ≤ 16384 := by omega
    cases mo with
    | false =>
      have HV : Hid (mayB x = true) := Lib.hid (by rw [HT.out]; simp [h3])
      clear h3
      go_enter Try.func45, Try.ntmps45
      go_upto_region 1 with (fail)
      rw [← hV, ← hp]
      clear hV hp
      go_upto_region 3 with (fail)
      go_wp2_with (first | (refine wpList_load_mid rfl 43 (.tmp 1) ?ho p 0 ?hx P _ ?hr Try.underlying43 rfl ?hi ?_; (case ho => with_reducible rfl); (case hx => rfl); (case hr => exact HR.out); (case hi => rw [HLEN.out]; exact HSZ.out)))
      refine (HE.out).mono ?_
      rintro e w2 ⟨rfl, hb2⟩
      have HB2 := Lib.hid (HAL.out.trans (hb2.mono HAL.out.size))
      clear hb2 HE
      go_wp2_with fail
      go_ret
      exact ⟨by rw [HV.out]; first | rfl | (show Ending.returned (.bool (decide ((q : Int) ≤ 16384))) = _; simp [t3]), HB2.out⟩
    | true =>
      by_cases h1 : m = 0
      · have t1 : ((m : Int) == 0) = true := by rw [beq_iff_eq]; omega
        have HV : Hid (mayB x = false) := Lib.hid (by rw [HT.out]; simp [h1])
        clear h3 h1
        go_enter Try.func45, Try.ntmps45
        go_upto_region 1 with (fail)
        rw [← hV, ← hp]
        clear hV hp
        go_wp2_with fail
        go_ret
        exact ⟨by rw [HV.out]; rfl, HAL.out⟩
      · have t1 : ((m : Int) == 0) = false := by rw [beq_eq_false_iff_ne]; omega
        by_cases h2 : m % 8 = 0
        · have t2 : (((m % 8 : Nat) : Int) == 0) = true := by rw [beq_iff_eq]; omega
          have HV : Hid (mayB x = true) := Lib.hid (by rw [HT.out]; simp [h3, h2]; omega)
          clear h3 h1 h2
          go_enter Try.func45, Try.ntmps45
          go_upto_region 1 with (fail)
          rw [← hV, ← hp]
          clear hV hp
          go_upto_region 3 with (fail)
          go_wp2_with (first | (refine wpList_load_mid rfl 43 (.tmp 1) ?ho p 0 ?hx P _ ?hr Try.underlying43 rfl ?hi ?_; (case ho => with_reducible rfl); (case hx => rfl); (case hr => exact HR.out); (case hi => rw [HLEN.out]; exact HSZ.out)))
          refine (HE.out).mono ?_
          rintro e w2 ⟨rfl, hb2⟩
          have HB2 := Lib.hid (HAL.out.trans (hb2.mono HAL.out.size))
          clear hb2 HE
          go_wp2_with fail
          go_ret
          exact ⟨by rw [HV.out]; first | rfl | (show Ending.returned (.bool (decide ((q : Int) ≤ 16384))) = _; simp [t3]), HB2.out⟩
        · have t2 : (((m % 8 : Nat) : Int) == 0) = false := by rw [beq_eq_false_iff_ne]; omega
          have HV : Hid (mayB x = false) := Lib.hid (by rw [HT.out]; simp [h2])
          clear h3 h1 h2
          go_enter Try.func45, Try.ntmps45
          go_upto_region 1 with (fail)
          rw [← hV, ← hp]
          clear hV hp
          go_wp2_with fail
          go_ret
          exact ⟨by rw [HV.out]; rfl, HAL.out⟩
  · have t3 : ¬ (q : Int) ≤ 16384 := by omega
    have HV : Hid (mayB x = false) := Lib.hid (by rw [HT.out]; simp [h3])
    clear h3
    cases mo with
    | false =>
      go_enter Try.func45, Try.ntmps45
      go_upto_region 1 with (fail)
      rw [← hV, ← hp]
      clear hV hp
      go_upto_region 3 with (fail)
      go_wp2_with (first | (refine wpList_load_mid rfl 43 (.tmp 1) ?ho p 0 ?hx P _ ?hr Try.underlying43 rfl ?hi ?_; (case ho => with_reducible rfl); (case hx => rfl); (case hr => exact HR.out); (case hi => rw [HLEN.out]; exact HSZ.out)))
      refine (HE.out).mono ?_
      rintro e w2 ⟨rfl, hb2⟩
      have HB2 := Lib.hid (HAL.out.trans (hb2.mono HAL.out.size))
      clear hb2 HE
      go_wp2_with fail
      go_ret
      exact ⟨by rw [HV.out]; first | rfl | (show Ending.returned (.bool (decide ((q : Int) ≤ 16384))) = _; simp [t3]), HB2.out⟩
    | true =>
      by_cases h1 : m = 0
      · have t1 : ((m : Int) == 0) = true := by rw [beq_iff_eq]; omega
        clear h1
        go_enter Try.func45, Try.ntmps45
        go_upto_region 1 with (fail)
        rw [← hV, ← hp]
        clear hV hp
        go_wp2_with fail
        go_ret
        exact ⟨by rw [HV.out]; rfl, HAL.out⟩
      · have t1 : ((m : Int) == 0) = false := by rw [beq_eq_false_iff_ne]; omega
        by_cases h2 : m % 8 = 0
        · have t2 : (((m % 8 : Nat) : Int) == 0) = true := by rw [beq_iff_eq]; omega
          clear h1 h2
          go_enter Try.func45, Try.ntmps45
          go_upto_region 1 with (fail)
          rw [← hV, ← hp]
          clear hV hp
          go_upto_region 3 with (fail)
          go_wp2_with (first | (refine wpList_load_mid rfl 43 (.tmp 1) ?ho p 0 ?hx P _ ?hr Try.underlying43 rfl ?hi ?_; (case ho => with_reducible rfl); (case hx => rfl); (case hr => exact HR.out); (case hi => rw [HLEN.out]; exact HSZ.out)))
          refine (HE.out).mono ?_
          rintro e w2 ⟨rfl, hb2⟩
          have HB2 := Lib.hid (HAL.out.trans (hb2.mono HAL.out.size))
          clear hb2 HE
          go_wp2_with fail
          go_ret
          exact ⟨by rw [HV.out]; first | rfl | (show Ending.returned (.bool (decide ((q : Int) ≤ 16384))) = _; simp [t3]), HB2.out⟩
        · have t2 : (((m % 8 : Nat) : Int) == 0) = false := by rw [beq_eq_false_iff_ne]; omega
          clear h1 h2
          go_enter Try.func45, Try.ntmps45
          go_upto_region 1 with (fail)
          rw [← hV, ← hp]
          clear hV hp
          go_wp2_with fail
          go_ret
          exact ⟨by rw [HV.out]; rfl, HAL.out⟩
end Go.Proofs.Ytjldcblklbikaaa
