/- PrefixesBound's walk. No condition but that the numbers fit. -/
import Derived.Test.YtkhbchgocilclaaBoundK
namespace Go.Proofs.Ytkhbchgocilclaa
open Go.RowKit
set_option linter.unusedVariables false
set_option maxRecDepth 100000 in
set_option maxHeartbeats 4000000 in
theorem bound_out (p : Option Addr) (len cap : Nat) (w : World) (hl : len < 9223372036854775808) (hx : 150 < len) :
    Calls Try.prog 4 #[.slice p len cap] w fun e w' => e = .returned (.bool true) ∧ Below w.heap.size w w' := by
  have t1 : decide ((150 : Int) < len) = true := by simp; omega
  clear hx
  go_enter Try.func4, Try.ntmps4
  go_wp2_with fail
  refine (lives_any w).mono ?_
  rintro e w2 ⟨rfl, b2⟩
  have HB := Lib.hid b2
  clear b2
  go_wp2_with fail
  go_ret
  exact ⟨rfl, HB.out⟩
theorem i64_succ {k : Nat} (h : k + 1 < 9223372036854775808) : IntKind.i64.wrap ((k : Int) + 1) = (k + 1 : Nat) := by
  have := wrap_small (m := k + 1) h
  rw [← this]; rfl
set_option maxRecDepth 100000 in
set_option maxHeartbeats 20000000 in
theorem bound_yes (p : Option Addr) (len cap : Nat) (o : Nat → Info) (tick : Nat → Bool) (later : Nat → Nat) (w : World) (hA : ActsIn w w.heap.size p len o tick later) (hlen : len ≤ 150) :
    Calls Try.prog 4 #[.slice p len cap] w fun e w' => e = .returned (.bool true) ∧ Below w.heap.size w w' := by
  have t1 : decide ((150 : Int) < len) = false := by simp; omega
  go_enter Try.func4, Try.ntmps4
  go_wp2_with fail
  refine (new_any w).mono ?_
  rintro e w2 ⟨b, mb, rfl, hb, hle, hne, hm⟩
  have H2 := Lib.hid (show BHeld b mb (.map []) w w2 from ⟨hb.get, hm, hb.new, hle, hb.below⟩)
  clear hb hle hne hm t1
  go_wp2_with fail
  go_loopw [4] (fun i wr => ∃ (i' : Nat) (D : PD), i' ≤ len ∧ i = .int .i64 i' ∧ BHeld b mb D w wr ∧ LOk D) (fun i _ => len - (intOf i).toNat)
  case atStart => exact ⟨0, _, by omega, rfl, H2.out, lok_empty⟩
  case round =>
    clear H2
    obtain ⟨i, D, hi, rfl, I, hD⟩ := hrel
    have HI := Lib.hid I; have HD := Lib.hid hD
    clear I hD
    by_cases hlt : i < len
    · obtain ⟨lb, off, rfl, hlb, hc⟩ := hA (by omega)
      obtain ⟨hr, hok, hla⟩ := hc i hlt
      have hr1 : w.rangeAt lb (off + i * 23 + 1) (o i).L := (hA.at (by omega)).elim (fun lb' h => by
        obtain ⟨off', e, _, hc'⟩ := h
        injection e with e; injection e with e1 e2
        subst e1 e2
        exact (hc' i hlt).1)
      have hc1 : w.cell? ⟨lb, off + i * 23 + 22, none⟩ = some (.int .u32 (later i : Int)) := by
        refine hr 22 _ ?_
        rw [List.cons_append, List.getElem?_cons_succ, List.getElem?_append_right (by rw [Info.L_length]; exact Nat.le_refl _), Info.L_length]; rfl
      have HR1 := Lib.hid hr1; have HC1 := Lib.hid hc1; have HOK := Lib.hid hok; have HLA := Lib.hid hla; have HA := Lib.hid hA
      clear hr hr1 hc1 hok hla hc hA
      go_wp2_with fail
      refine reg7 HI.out HD.out HOK.out hlt hlen hlb HR1.out HC1.out HLA.out (fun c a d v W h => (by cases (show _ ∧ (_ = _) ∧ _ from h).2.1)) ?_
      clear HI HR1 HC1
      intro W H7
      have HD7 := Lib.hid (HD.out.learn (i := o i) (now := later i) HOK.out)
      generalize learnD (o i) (later i) D = D7 at *
      have HI := Lib.hid H7; clear H7 HD
      go_wp2_with fail
      refine (list_any b mb D7 W HI.out.hb HI.out.map HD7.out).mono ?_
      rintro e w8 ⟨v, ks, rfl, L⟩
      have H8 := Lib.hid (HI.out.step L.below)
      clear HI
      have h8 := L.len
      rcases L.val with ⟨hks, rfl⟩ | ⟨g, rfl, _, hg, hat⟩
      · clear L
        go_wp2_with fail
        refine wp_loop_rounds 1 ?_
        rw [rounds_succ]
        go_wp2_with fail
        go_roundw
        case rel => exact ⟨i + 1, D7, by omega, by go_num, H8.out, HD7.out⟩
        case measure => simp [intOf]; omega
      · have HRW := Lib.hid (show InRow (untilAt D7) ks g w8 from ⟨hg, fun i c k x h1 h2 => (hat i c k x h1 h2).1⟩)
        have HU := Lib.hid L.up
        have HM := Lib.hid (show ∀ y ∈ ks, adrNe (masked (adrOf y) (bitsOf y)) (adrOf y) = false from fun y hy => key_masked HD7.out (L.old y hy))
        clear L hat hg
        go_wp2_with fail
        go_loopw [6] (fun k wr => ∃ (k' : Nat), k' ≤ ks.length ∧ k = .int .i64 k' ∧ BHeld b mb D7 w wr ∧ InRow (untilAt D7) ks g wr) (fun k _ => ks.length - (intOf k).toNat)
        case atStart => exact ⟨0, by omega, rfl, H8.out, HRW.out⟩
        case round =>
          clear H8 HRW
          obtain ⟨k, hk, rfl, I, IR⟩ := hrel
          have HI := Lib.hid I; have HR := Lib.hid IR
          clear I IR
          by_cases hkn : k < ks.length
          · refine bound_in HI HR rfl h8 hkn HU HM (fun c a d v W h => (by cases (show _ ∧ (_ = _) ∧ _ from h).2.1)) ?_
            intro v7 v34 v35 v36 v37 v38 v39 v40 v41 v42 v43 v44 v45 v46 v47 v48 v49 v50 v51 v52 v53 v54 v55 v56 v57 v58 v59 v60 v61 v62 v63 v64 v65 v66 v67 v68 v69 v70 v71 v72 v73 v74 v75 v76 v77 v78 v79 v80 v81 v82 v83 v84 v85 v86 v87 v88 v89 v90 v91 v92 v93 v94 W hB hR
            refine ⟨⟨u2, .int .i64 ((k + 1 : Nat) : Int), v7, v34, v35, v36, v37, v38, v39, v40, v41, v42, v43, v44, v45, v46, v47, v48, v49, v50, v51, v52, v53, v54, v55, v56, v57, v58, v59, v60, v61, v62, v63, v64, v65, v66, v67, v68, v69, v70, v71, v72, v73, v74, v75, v76, v77, v78, v79, v80, v81, v82, v83, v84, v85, v86, v87, v88, v89, v90, v91, v92, v93, v94, ⟨k + 1, by omega, rfl, hB, hR⟩, rfl⟩, ?_⟩
            simp [intOf]; omega
          · obtain rfl : k = ks.length := by omega
            have t8 : decide ((8 : Int) < ks.length) = false := by simp; omega
            go_wp2_with fail
            go_roundw
            case rel => exact ⟨i + 1, D7, by omega, by go_num, HI.out, HD7.out⟩
            case measure => simp [intOf]; omega
    · obtain rfl : i = len := by omega
      go_wp2_with fail
      refine (lives_any _).mono ?_
      rintro e w9 ⟨rfl, b9⟩
      have H9 := Lib.hid (HI.out.step b9)
      clear HI b9
      go_wp2_with fail
      go_ret
      exact ⟨rfl, H9.out.below⟩
end Go.Proofs.Ytkhbchgocilclaa
