/- The reference: do two parts fit: the walk. No condition but the sizes that are named. (Written out by exp.py.) -/
import Derived.Test.YtjldcblklbikaaaRA
import Derived.Test.YtjldcblklbikaaaPlainR
import Derived.StillTactics
namespace Go.Proofs.Ytjldcblklbikaaa
open Go.RowKit
set_option linter.unusedVariables false
set_option linter.unusedSimpArgs false
set_option maxRecDepth 100000 in
set_option maxHeartbeats 8000000 in
theorem fits48 {P Q : List Value} {a b : Pk} {A A2 : Option Addr} {c c2 : Nat} (w : World) (h : PkAt P a A c) (k : PkAt Q b A2 c2) (hl : a.body.length ≤ 1000000000) (kl : b.body.length ≤ 1000000000) (ha : mayB a = true) (hb : mayB b = true) :
    Calls Try.prog 48 #[.agg P.toArray, .agg Q.toArray] w (BoolPost (!clashB a b) w) := by
  obtain ⟨V1, hV1⟩ : ∃ V, V = w.alloc (.cells P.toArray 43) := ⟨_, rfl⟩
  obtain ⟨V, hV⟩ : ∃ V, V = V1.alloc (.cells Q.toArray 43) := ⟨_, rfl⟩
  have h01 : Below w.heap.size w V1 := by rw [hV1]; exact (Below.refl _ _).alloc (Nat.le_refl _) _
  have h12 : Below V1.heap.size V1 V := by rw [hV]; exact (Below.refl _ _).alloc (Nat.le_refl _) _
  have hal : Below w.heap.size w V := h01.trans (h12.mono h01.size)
  have hs1 : V1.heap.size = w.heap.size + 1 := by rw [hV1]; simp
  have hxp : V.heap[w.heap.size]? = some (.cells P.toArray 43 (0, 0)) := (h12.block _ (by omega)).trans (by rw [hV1]; exact heap_alloc_new w _)
  have hxq : V.heap[V1.heap.size]? = some (.cells Q.toArray 43 (0, 0)) := by rw [hV]; exact heap_alloc_new V1 _
  obtain ⟨p, hp⟩ : ∃ p, p = w.heap.size := ⟨_, rfl⟩
  obtain ⟨q, hq⟩ : ∃ q, q = V1.heap.size := ⟨_, rfl⟩
  have hq' : q = w.heap.size + 1 := by omega
  rw [← hp] at hxp
  rw [← hq] at hxq
  have HXP := Lib.hid hxp; have HXQ := Lib.hid hxq; have HAL := Lib.hid hal
  have HP := Lib.hid h; have HQ := Lib.hid k
  have HLP := Lib.hid h.len; have HLQ := Lib.hid k.len; have HSZ := Lib.hid size43
  have HEA := Lib.hid (fun W => end65 W h hl)
  have HEB := Lib.hid (fun W => end65 W k kl)
  have HHB := Lib.hid (fun (W : World) (i : Nat) => has66 (k := i) W k kl)
  have HFC := Lib.hid (fits_clash ha hb)
  have c36 := box_cell hxp (h.tail 4)
  have ho := h.ok.off
  obtain ⟨oa, hoa⟩ : ∃ o, o = a.off := ⟨_, rfl⟩
  rw [← hoa] at c36 ho
  have HFA : Hid (frm a = oa * 8) := Lib.hid (by unfold frm; rw [hoa])
  obtain ⟨ta, hta⟩ : ∃ o, o = too a := ⟨_, rfl⟩
  obtain ⟨tb, htb⟩ : ∃ o, o = too b := ⟨_, rfl⟩
  rw [← hta] at HEA
  rw [← htb] at HEB
  have HTA := Lib.hid hta; have HTB := Lib.hid htb
  have HMX : Hid (ta ≤ 16384 ∧ tb ≤ 16384) := Lib.hid (by
    rw [hta, htb]
    constructor
    · unfold mayB at ha
      simp at ha
      exact ha.1
    · unfold mayB at hb
      simp at hb
      exact hb.1)
  have w1 : IntKind.i64.wrap (oa : Int) = (oa : Int) := i64_small (by omega)
  have w2 : IntKind.i64.wrap (8 * (oa : Int)) = 8 * (oa : Int) := by rw [show 8 * (oa : Int) = ((oa * 8 : Nat) : Int) by omega]; exact i64_small (by omega)
  clear h01 h12 hal hs1 hxp hxq h k hoa hta htb ha hb hq
  go_enter Try.func48, Try.ntmps48
  go_upto_region 1 with (fail)
  rw [← hV1, ← hV, ← hq', ← hp]
  clear hV1 hV hp hq'
  go_wp2_with fail
  go_loopw [5] (fun iv wr => ∃ i : Nat, iv = .int .i64 i ∧ frm a ≤ i ∧ i ≤ 1000000 ∧ (∀ j, frm a ≤ j → j < i → ¬ (frm b ≤ j ∧ j < too b) ∧ (b.more = true ∨ j < too b)) ∧ Below V.heap.size V wr) (fun iv _ => 1000000 - (intOf iv).toNat)
  case atStart => exact ⟨oa * 8, by go_num, by rw [HFA.out]; exact Nat.le_refl _, by omega, fun j h1 h2 => by rw [HFA.out] at h1; omega, Below.refl _ _⟩
  case round =>
    obtain ⟨i, rfl, hi1, hi2, hno, hW⟩ := hrel
    have RP := Lib.hid (row_of ((hW.block p (lt_of_blk HXP.out)).trans HXP.out))
    have HW := Lib.hid hW; have HNO := Lib.hid hno
    have HI := Lib.hid hi1
    clear hW hno hi1
    by_cases h1 : i < ta
    · have t1 : (i : Int) < (ta : Int) := by omega
      go_wp2_with (first | (refine wpList_load_mid rfl 43 (.tmp 2) ?ho p 0 ?hx P _ ?hr Try.underlying43 rfl ?hi ?_; (case ho => with_reducible rfl); (case hx => rfl); (case hr => exact RP.out); (case hi => rw [HLP.out]; exact HSZ.out)))
      refine (HEA.out wr).mono ?_
      rintro e w3 ⟨rfl, hb3⟩
      have HW3 := Lib.hid (HW.out.trans (hb3.mono HW.out.size))
      have RQ := Lib.hid (row_of ((HW3.out.block q (lt_of_blk HXQ.out)).trans HXQ.out))
      have cm := box_cell ((HW3.out.block q (lt_of_blk HXQ.out)).trans HXQ.out) (HQ.out.tail 5)
      clear hb3
      go_wp2_with (first | (refine wpList_load_mid rfl 43 (.tmp 3) ?ho q 0 ?hx Q _ ?hr Try.underlying43 rfl ?hi ?_; (case ho => with_reducible rfl); (case hx => rfl); (case hr => exact RQ.out); (case hi => rw [HLQ.out]; exact HSZ.out)))
      obtain ⟨hv, hhv⟩ : ∃ v, v = (decide (frm b ≤ i) && decide (i < too b)) := ⟨_, rfl⟩
      have H66 := HHB.out w3 i
      rw [← hhv] at H66
      refine H66.mono ?_
      rintro e w4 ⟨rfl, hb4⟩
      have HW4 := Lib.hid (HW3.out.trans (hb4.mono HW3.out.size))
      have RQ4 := Lib.hid (row_of ((HW4.out.block q (lt_of_blk HXQ.out)).trans HXQ.out))
      have cm4 := box_cell ((HW4.out.block q (lt_of_blk HXQ.out)).trans HXQ.out) (HQ.out.tail 5)
      obtain ⟨mo, hmo⟩ : ∃ m, m = b.more := ⟨_, rfl⟩
      rw [← hmo] at cm4
      have HHV := Lib.hid hhv; have HMO := Lib.hid hmo
      clear hb4 H66 hhv hmo cm
      cases hv with
      | true =>
        have HV : Hid ((!clashB a b) = false) := Lib.hid (by
          cases hc : clashB a b with
          | true => rfl
          | false =>
            have hf := HFC.out.2 hc
            have h3 := (hf.1 i HI.out (by rw [← HTA.out]; exact h1)).1
            have h4 := HHV.out.symm
            simp only [Bool.and_eq_true, decide_eq_true_eq] at h4
            exact absurd h4 h3)
        clear h1
        go_wp2_with fail
        go_ret
        exact ⟨by rw [HV.out]; rfl, HAL.out.trans (HW4.out.mono HAL.out.size)⟩
      | false =>
        have hnh : ¬ (frm b ≤ i ∧ i < too b) := fun h4 => by
          have := HHV.out
          rw [decide_eq_true h4.1, decide_eq_true h4.2] at this
          cases this
        have HNH := Lib.hid hnh
        clear hnh
        have HMXX := HMX.out.1
        cases mo with
        | true =>
          have HNX : Hid (∀ j, frm a ≤ j → j < i + 1 → ¬ (frm b ≤ j ∧ j < too b) ∧ (b.more = true ∨ j < too b)) := Lib.hid fun j h2 h3 => by
            by_cases e : j < i
            · exact HNO.out j h2 e
            · have : j = i := by omega
              rw [this]; exact ⟨HNH.out, .inl HMO.out.symm⟩
          go_wp2_with fail
          go_roundw
          case rel => exact ⟨i + 1, by go_num, by have := HI.out; omega, by omega, HNX.out, HW4.out⟩
          case measure => simp [intOf]; omega
        | false =>
          go_wp2_with (first | (refine wpList_load_mid_w ?hw 43 (.tmp 3) ?ho q 0 ?hx Q _ ?hr Try.underlying43 rfl ?hi ?_; (case ho => with_reducible rfl); (case hx => rfl); (case hw => rfl); (case hr => exact RQ4.out); (case hi => rw [HLQ.out]; exact HSZ.out)))
          refine (HEB.out w4).mono ?_
          rintro e w5 ⟨rfl, hb5⟩
          have HW5 := Lib.hid (HW4.out.trans (hb5.mono HW4.out.size))
          clear hb5
          by_cases h5 : i < tb
          · have t5 : ¬ (i : Int) ≥ (tb : Int) := by omega
            have HNX : Hid (∀ j, frm a ≤ j → j < i + 1 → ¬ (frm b ≤ j ∧ j < too b) ∧ (b.more = true ∨ j < too b)) := Lib.hid fun j h2 h3 => by
              by_cases e : j < i
              · exact HNO.out j h2 e
              · have : j = i := by omega
                rw [this]; exact ⟨HNH.out, .inr (by rw [← HTB.out]; exact h5)⟩
            clear h5
            go_wp2_with fail
            go_roundw
            case rel => exact ⟨i + 1, by go_num, by have := HI.out; omega, by omega, HNX.out, HW5.out⟩
            case measure => simp [intOf]; omega
          · have t5 : (i : Int) ≥ (tb : Int) := by omega
            have HV : Hid ((!clashB a b) = false) := Lib.hid (by
              cases hc : clashB a b with
              | true => rfl
              | false =>
                have hf := HFC.out.2 hc
                rcases (hf.1 i HI.out (by rw [← HTA.out]; exact h1)).2 with h | h
                · rw [← HMO.out] at h; cases h
                · rw [← HTB.out] at h; exact absurd h h5)
            clear h5
            go_wp2_with fail
            go_ret
            exact ⟨by rw [HV.out]; rfl, HAL.out.trans (HW5.out.mono HAL.out.size)⟩
    · have t1 : ¬ (i : Int) < (ta : Int) := by omega
      go_wp2_with (first | (refine wpList_load_mid rfl 43 (.tmp 2) ?ho p 0 ?hx P _ ?hr Try.underlying43 rfl ?hi ?_; (case ho => with_reducible rfl); (case hx => rfl); (case hr => exact RP.out); (case hi => rw [HLP.out]; exact HSZ.out)))
      refine (HEA.out wr).mono ?_
      rintro e w3 ⟨rfl, hb3⟩
      have HW3 := Lib.hid (HW.out.trans (hb3.mono HW.out.size))
      have HFL : Hid (fitL a b) := Lib.hid fun j h2 h3 => HNO.out j h2 (by rw [← HTA.out] at h3; omega)
      obtain ⟨ob, hob⟩ : ∃ o, o = b.off := ⟨_, rfl⟩
      have c36b := box_cell ((HW3.out.block q (lt_of_blk HXQ.out)).trans HXQ.out) (HQ.out.tail 4)
      rw [← hob] at c36b
      have hob8 : ob < 65536 := by rw [hob]; exact HQ.out.ok.off
      have HFB : Hid (frm b = ob * 8) := Lib.hid (by unfold frm; rw [hob])
      have v1 : IntKind.i64.wrap (ob : Int) = (ob : Int) := i64_small (by omega)
      have v2 : IntKind.i64.wrap (8 * (ob : Int)) = 8 * (ob : Int) := by rw [show 8 * (ob : Int) = ((ob * 8 : Nat) : Int) by omega]; exact i64_small (by omega)
      clear hb3 hob h1
      go_wp2_with fail
      obtain ⟨bb, hbb⟩ : ∃ x, x = decide (i < ta) := ⟨_, rfl⟩
      rw [← hbb]
      clear hbb
      go_loopw [6] (fun iv wr => ∃ i : Nat, iv = .int .i64 i ∧ frm b ≤ i ∧ i ≤ 1000000 ∧ (∀ j, frm b ≤ j → j < i → (a.more = true ∨ j < too a)) ∧ Below V.heap.size V wr) (fun iv _ => 1000000 - (intOf iv).toNat)
      case atStart => exact ⟨ob * 8, by go_num, by rw [HFB.out]; exact Nat.le_refl _, by omega, fun j h1 h2 => by rw [HFB.out] at h1; omega, HW3.out⟩
      case round =>
        rename_i wr1 _ _
        obtain ⟨i2, rfl, hj1, hj2, hno2, hW2⟩ := hrel
        have RQ2 := Lib.hid (row_of ((hW2.block q (lt_of_blk HXQ.out)).trans HXQ.out))
        have HW2 := Lib.hid hW2; have HNO2 := Lib.hid hno2
        have HJ := Lib.hid hj1
        clear hW2 hno2 hj1
        by_cases h1 : i2 < tb
        · have t6 : (i2 : Int) < (tb : Int) := by omega
          go_wp2_with (first | (refine wpList_load_mid rfl 43 (.tmp 3) ?ho q 0 ?hx Q _ ?hr Try.underlying43 rfl ?hi ?_; (case ho => with_reducible rfl); (case hx => rfl); (case hr => exact RQ2.out); (case hi => rw [HLQ.out]; exact HSZ.out)))
          refine (HEB.out _).mono ?_
          rintro e w4 ⟨rfl, hb4⟩
          have HW4 := Lib.hid (HW2.out.trans (hb4.mono HW2.out.size))
          have RP4 := Lib.hid (row_of ((HW4.out.block p (lt_of_blk HXP.out)).trans HXP.out))
          have cma := box_cell ((HW4.out.block p (lt_of_blk HXP.out)).trans HXP.out) (HP.out.tail 5)
          obtain ⟨mo, hmo⟩ : ∃ m, m = a.more := ⟨_, rfl⟩
          rw [← hmo] at cma
          have HMO := Lib.hid hmo
          have HMXX := HMX.out.2
          clear hb4 hmo
          cases mo with
          | true =>
            have HNX : Hid (∀ j, frm b ≤ j → j < i2 + 1 → (a.more = true ∨ j < too a)) := Lib.hid fun j h2 h3 => .inl HMO.out.symm
            go_wp2_with fail
            go_roundw
            case rel => exact ⟨i2 + 1, by go_num, by have := HJ.out; omega, by omega, HNX.out, HW4.out⟩
            case measure => simp [intOf]; omega
          | false =>
            go_wp2_with (first | (refine wpList_load_mid_w ?hw 43 (.tmp 2) ?ho p 0 ?hx P _ ?hr Try.underlying43 rfl ?hi ?_; (case ho => with_reducible rfl); (case hx => rfl); (case hw => rfl); (case hr => exact RP4.out); (case hi => rw [HLP.out]; exact HSZ.out)))
            refine (HEA.out w4).mono ?_
            rintro e w5 ⟨rfl, hb5⟩
            have HW5 := Lib.hid (HW4.out.trans (hb5.mono HW4.out.size))
            clear hb5
            by_cases h5 : i2 < ta
            · have t5 : ¬ (i2 : Int) ≥ (ta : Int) := by omega
              have HNX : Hid (∀ j, frm b ≤ j → j < i2 + 1 → (a.more = true ∨ j < too a)) := Lib.hid fun j h2 h3 => .inr (by rw [← HTA.out]; omega)
              clear h5
              go_wp2_with fail
              go_roundw
              case rel => exact ⟨i2 + 1, by go_num, by have := HJ.out; omega, by omega, HNX.out, HW5.out⟩
              case measure => simp [intOf]; omega
            · have t5 : (i2 : Int) ≥ (ta : Int) := by omega
              have HV : Hid ((!clashB a b) = false) := Lib.hid (by
                cases hc : clashB a b with
                | true => rfl
                | false =>
                  have hf := HFC.out.2 hc
                  rcases hf.2.1 i2 HJ.out (by rw [← HTB.out]; exact h1) with h | h
                  · rw [← HMO.out] at h; cases h
                  · rw [← HTA.out] at h; exact absurd h h5)
              clear h5
              go_wp2_with fail
              go_ret
              exact ⟨by rw [HV.out]; rfl, HAL.out.trans (HW5.out.mono HAL.out.size)⟩
        · have t6 : ¬ (i2 : Int) < (tb : Int) := by omega
          go_wp2_with (first | (refine wpList_load_mid rfl 43 (.tmp 3) ?ho q 0 ?hx Q _ ?hr Try.underlying43 rfl ?hi ?_; (case ho => with_reducible rfl); (case hx => rfl); (case hr => exact RQ2.out); (case hi => rw [HLQ.out]; exact HSZ.out)))
          refine (HEB.out _).mono ?_
          rintro e w4 ⟨rfl, hb4⟩
          have HW4 := Lib.hid (HW2.out.trans (hb4.mono HW2.out.size))
          have HFR : Hid (fitR a b) := Lib.hid fun j h2 h3 => HNO2.out j h2 (by rw [← HTB.out] at h3; omega)
          clear hb4 h1
          have cma := box_cell ((HW4.out.block p (lt_of_blk HXP.out)).trans HXP.out) (HP.out.tail 5)
          have cmb := box_cell ((HW4.out.block q (lt_of_blk HXQ.out)).trans HXQ.out) (HQ.out.tail 5)
          have HWD : Hid (Below w.heap.size w w4.drew) := Lib.hid (HAL.out.trans (HW4.out.mono HAL.out.size)).drew
          obtain ⟨ma, hma⟩ : ∃ m, m = a.more := ⟨_, rfl⟩
          obtain ⟨mb, hmb⟩ : ∃ m, m = b.more := ⟨_, rfl⟩
          rw [← hma] at cma
          rw [← hmb] at cmb
          have HMA := Lib.hid hma; have HMB := Lib.hid hmb
          clear hma hmb
          go_upto_region 11 with (fail)
          cases ma with
          | true =>
            have HV : Hid ((!clashB a b) = true) := Lib.hid (by rw [HFC.out.1 ⟨HFL.out, HFR.out, .inl HMA.out.symm⟩]; rfl)
            go_still (by kernel_rfl)
            change Exit.then _ _ _ _ w4.drew
            go_wp2_with fail
            go_ret
            exact ⟨by rw [HV.out]; rfl, HWD.out⟩
          | false =>
            cases mb with
            | true =>
              have HV : Hid ((!clashB a b) = true) := Lib.hid (by rw [HFC.out.1 ⟨HFL.out, HFR.out, .inr (.inl HMB.out.symm)⟩]; rfl)
              go_still (by kernel_rfl)
              change Exit.then _ _ _ _ w4.drew
              go_wp2_with fail
              go_ret
              exact ⟨by rw [HV.out]; rfl, HWD.out⟩
            | false =>
              have HPM : Hid (P[37]? = some (.bool false)) := Lib.hid (by rw [show (false : Bool) = a.more from HMA.out]; exact HP.out.tail 5)
              have HQM : Hid (Q[37]? = some (.bool false)) := Lib.hid (by rw [show (false : Bool) = b.more from HMB.out]; exact HQ.out.tail 5)
              have HBP : Hid (BoxAt w4 p P) := Lib.hid ⟨(HW4.out.block p (lt_of_blk HXP.out)).trans HXP.out⟩
              have HBQ : Hid (BoxAt w4 q Q) := Lib.hid ⟨(HW4.out.block q (lt_of_blk HXQ.out)).trans HXQ.out⟩
              have hS : Two w p q P Q w4.drew := ⟨HWD.out, HBP.out.step (Below.refl _ _).drew, HBQ.out.step (Below.refl _ _).drew⟩
              have HV : Hid ((!clashB a b) = decide (ta = tb)) := Lib.hid (by
                by_cases e : ta = tb
                · rw [decide_eq_true e, HFC.out.1 ⟨HFL.out, HFR.out, .inr (.inr (by rw [← HTA.out, ← HTB.out]; exact e))⟩]; rfl
                · rw [decide_eq_false e]
                  cases hc : clashB a b with
                  | true => rfl
                  | false =>
                    rcases (HFC.out.2 hc).2.2 with h | h | h
                    · rw [← HMA.out] at h; cases h
                    · rw [← HMB.out] at h; cases h
                    · exact absurd (by rw [HTA.out, HTB.out]; exact h) e)
              obtain ⟨bb, hbb⟩ : ∃ x : Bool, x = decide (ta = tb) := ⟨_, rfl⟩
              have t8 : ((ta : Int) == (tb : Int)) = bb := by
                rw [hbb]
                by_cases e : ta = tb
                · rw [decide_eq_true e, e]; simp
                · rw [decide_eq_false e, beq_eq_false_iff_ne]; omega
              rw [← hbb] at HV
              clear cma cmb w1 w2 v1 v2 hbb HFC HNO HNO2 HMX HFA HFB HFL HFR HHB
              refine wp_region_held_drew (S := fun W => Two w p q P Q W) (by kernel_rfl) hS ?_
              clear hS
              intro HS
              refine wpAnyH_take (i := 0) (v := ?_) rfl (by kernel_rfl) (by kernel_rfl) (by kernel_rfl) (fun _ _ _ h => h) (Or.inl ⟨by go_simp, ?hy⟩) HS ?_
              case hy => intro W hW; go_simp; (try with_reducible rfl)
              try simp only [List.getElem_toArray, List.getElem_cons_zero, List.getElem_cons_succ, Act.put, List.setIfInBounds_toArray, List.set_cons_zero, List.set_cons_succ]
              refine wpAnyH_take (i := 1) (v := ?_) rfl (by kernel_rfl) (by kernel_rfl) (by kernel_rfl) (fun _ _ _ h => h) (Or.inl ⟨by go_simp, ?hy⟩) HS ?_
              case hy => intro W hW; go_simp; (try with_reducible rfl)
              try simp only [List.getElem_toArray, List.getElem_cons_zero, List.getElem_cons_succ, Act.put, List.setIfInBounds_toArray, List.set_cons_zero, List.set_cons_succ]
              refine wpAnyH_take (i := 2) (v := ?_) rfl (by kernel_rfl) (by kernel_rfl) (by kernel_rfl) (fun _ _ _ h => h) (Or.inl ⟨by go_simp, ?hy⟩) HS ?_
              case hy => intro W hW; have d := box_cell hW.bP.blk HPM.out; go_simp; (try with_reducible rfl)
              try simp only [List.getElem_toArray, List.getElem_cons_zero, List.getElem_cons_succ, Act.put, List.setIfInBounds_toArray, List.set_cons_zero, List.set_cons_succ]
              refine wpAnyH_take (i := 3) (v := ?_) rfl (by kernel_rfl) (by kernel_rfl) (by kernel_rfl) (fun _ _ _ h => h) (Or.inl ⟨by go_simp, ?hy⟩) HS ?_
              case hy => intro W hW; go_simp; (try with_reducible rfl)
              try simp only [List.getElem_toArray, List.getElem_cons_zero, List.getElem_cons_succ, Act.put, List.setIfInBounds_toArray, List.set_cons_zero, List.set_cons_succ]
              refine wpAnyH_take (i := 4) (v := ?_) rfl (by kernel_rfl) (by kernel_rfl) (by kernel_rfl) (fun _ _ _ h => h) (Or.inl ⟨by go_simp, ?hy⟩) HS ?_
              case hy => intro W hW; go_simp; (try with_reducible rfl)
              try simp only [List.getElem_toArray, List.getElem_cons_zero, List.getElem_cons_succ, Act.put, List.setIfInBounds_toArray, List.set_cons_zero, List.set_cons_succ]
              refine wpAnyH_take (i := 5) (v := ?_) rfl (by kernel_rfl) (by kernel_rfl) (by kernel_rfl) (fun _ _ _ h => h) (Or.inl ⟨by go_simp, ?hy⟩) HS ?_
              case hy => intro W hW; go_simp; (try with_reducible rfl)
              try simp only [List.getElem_toArray, List.getElem_cons_zero, List.getElem_cons_succ, Act.put, List.setIfInBounds_toArray, List.set_cons_zero, List.set_cons_succ]
              refine wpAnyH_take (i := 6) (v := ?_) rfl (by kernel_rfl) (by kernel_rfl) (by kernel_rfl) (fun _ _ _ h => h) (Or.inl ⟨by go_simp, ?hy⟩) HS ?_
              case hy => intro W hW; have d := box_cell hW.bQ.blk HQM.out; go_simp; (try with_reducible rfl)
              try simp only [List.getElem_toArray, List.getElem_cons_zero, List.getElem_cons_succ, Act.put, List.setIfInBounds_toArray, List.set_cons_zero, List.set_cons_succ]
              refine wpAnyH_take (i := 7) (v := ?_) rfl (by kernel_rfl) (by kernel_rfl) (by kernel_rfl) (fun _ _ _ h => h) (Or.inl ⟨by go_simp, ?hy⟩) HS ?_
              case hy => intro W hW; go_simp; (try with_reducible rfl)
              try simp only [List.getElem_toArray, List.getElem_cons_zero, List.getElem_cons_succ, Act.put, List.setIfInBounds_toArray, List.set_cons_zero, List.set_cons_succ]
              refine wpAnyH_take (i := 8) (v := ?_) rfl (by kernel_rfl) (by kernel_rfl) (by kernel_rfl) (fun _ _ _ h => h) (Or.inl ⟨by go_simp, ?hy⟩) HS ?_
              case hy => intro W hW; go_simp; (try with_reducible rfl)
              try simp only [List.getElem_toArray, List.getElem_cons_zero, List.getElem_cons_succ, Act.put, List.setIfInBounds_toArray, List.set_cons_zero, List.set_cons_succ]
              refine wpAnyH_take (i := 9) (v := .agg P.toArray) rfl (by kernel_rfl) (by kernel_rfl) (by kernel_rfl) (fun _ _ _ h => h) (by refine yieldsIf_load_mid ?hw 43 (.tmp 2) ?ho p 0 ?hx P _ (fun W hW => row_of hW.bP.blk) Try.underlying43 rfl (by rw [HLP.out]; exact HSZ.out); (case ho => rfl); (case hw => go_simp); (case hx => go_simp)) HS ?_
              try simp only [List.getElem_toArray, List.getElem_cons_zero, List.getElem_cons_succ, Act.put, List.setIfInBounds_toArray, List.set_cons_zero, List.set_cons_succ]
              refine wpAnyH_take (i := 11) (v := .agg Q.toArray) rfl (by kernel_rfl) (by kernel_rfl) (by kernel_rfl) (fun _ _ _ h => h) (by refine yieldsIf_load_mid ?hw 43 (.tmp 3) ?ho q 0 ?hx Q _ (fun W hW => row_of hW.bQ.blk) Try.underlying43 rfl (by rw [HLQ.out]; exact HSZ.out); (case ho => rfl); (case hw => go_simp); (case hx => go_simp)) HS ?_
              try simp only [List.getElem_toArray, List.getElem_cons_zero, List.getElem_cons_succ, Act.put, List.setIfInBounds_toArray, List.set_cons_zero, List.set_cons_succ]
              refine wpAnyH_ready (rs := [10]) (by kernel_rfl) (by simp) ?_
              refine AllReadyH.cons rfl (fun K hK => ?_) AllReadyH.nil
              rw [if_pos (by kernel_rfl)]
              simp only [List.getElem_toArray, List.getElem_cons_zero, List.getElem_cons_succ]
              go_simp
              refine (HEA.out _).mono ?_
              rintro e w5 ⟨rfl, hb5⟩
              go_simp
              refine hK.out _ _ (HS.step hb5) (fun HS => ?_)
              clear hK
              try simp only [List.getElem_toArray, List.getElem_cons_zero, List.getElem_cons_succ, Act.put, List.setIfInBounds_toArray, List.set_cons_zero, List.set_cons_succ]
              clear hb5
              refine wpAnyH_ready (rs := [12]) (by kernel_rfl) (by simp) ?_
              refine AllReadyH.cons rfl (fun K hK => ?_) AllReadyH.nil
              rw [if_pos (by kernel_rfl)]
              simp only [List.getElem_toArray, List.getElem_cons_zero, List.getElem_cons_succ]
              go_simp
              refine (HEB.out _).mono ?_
              rintro e w6 ⟨rfl, hb6⟩
              have HW6 := Lib.hid (HS.step hb6).below
              go_simp
              refine hK.out _ _ (HS.step hb6) (fun HS => ?_)
              clear hK
              try simp only [List.getElem_toArray, List.getElem_cons_zero, List.getElem_cons_succ, Act.put, List.setIfInBounds_toArray, List.set_cons_zero, List.set_cons_succ]
              clear hb6
              refine wpAnyH_take (i := 13) (v := ?_) rfl (by kernel_rfl) (by kernel_rfl) (by kernel_rfl) (fun _ _ _ h => h) (Or.inl ⟨by go_simp, ?hy⟩) HS ?_
              case hy => intro W hW; go_simp; (try with_reducible rfl)
              try simp only [List.getElem_toArray, List.getElem_cons_zero, List.getElem_cons_succ, Act.put, List.setIfInBounds_toArray, List.set_cons_zero, List.set_cons_succ]
              refine wpAnyH_take (i := 14) (v := ?_) rfl (by kernel_rfl) (by kernel_rfl) (by kernel_rfl) (fun _ _ _ h => h) (Or.inl ⟨by go_simp, ?hy⟩) HS ?_
              case hy => intro W hW; go_simp; (try with_reducible rfl)
              try simp only [List.getElem_toArray, List.getElem_cons_zero, List.getElem_cons_succ, Act.put, List.setIfInBounds_toArray, List.set_cons_zero, List.set_cons_succ]
              refine wpAnyH_take (i := 15) (v := ?_) rfl (by kernel_rfl) (by kernel_rfl) (by kernel_rfl) (fun _ _ _ h => h) (Or.inl ⟨by go_simp, ?hy⟩) HS ?_
              case hy => intro W hW; go_simp; (try with_reducible rfl)
              try simp only [List.getElem_toArray, List.getElem_cons_zero, List.getElem_cons_succ, Act.put, List.setIfInBounds_toArray, List.set_cons_zero, List.set_cons_succ]
              refine wpAnyH_done (by kernel_rfl) ?_ _
              go_wp2_with fail
              go_ret
              exact ⟨by rw [HV.out]; rfl, HW6.out⟩
end Go.Proofs.Ytjldcblklbikaaa
