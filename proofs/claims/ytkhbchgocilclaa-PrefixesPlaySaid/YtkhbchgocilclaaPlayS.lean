/- The law's same: the list and the document's, one beside the other. No condition. -/
import Derived.Test.YtkhbchgocilclaaPlayN
namespace Go.Proofs.Ytkhbchgocilclaa
open Go.RowKit
set_option linter.unusedVariables false
set_option linter.unusedSimpArgs false
theorem pre_neq {a : Nat → Nat} {n : Nat} (ha : ∀ i, i < 16 → a i < 256) (hn : n < 256) (W : World) :
    (binOp .neq 25 (.agg (preL a n).toArray) (.agg (preL a n).toArray)).run Try.prog W = .ok (.bool false) W := by
  have h := pre_eql ha ha hn hn W
  rw [run_eql_struct] at h
  rw [run_neq_struct]
  have e : preEq a n a n = true := (preEq_iff _ _ _ _).2 ⟨fun _ _ => rfl, rfl⟩
  rw [e] at h
  generalize (Op.equalIn 10000 25 (.agg (preL a n).toArray) (.agg (preL a n).toArray)).run Try.prog W = r at *
  cases r with
  | ok b w' =>
    simp only [Result.andThen_ok] at h ⊢
    injection h with h1 h2
    injection h1 with h1
    rw [h1, h2]; rfl
  | halt x w' => simp [Result.andThen] at h
set_option maxRecDepth 100000 in
set_option maxHeartbeats 4000000 in
theorem same17 {base mk cap b mb : Nat} {p : Option Addr} {D : PD} {L : List Ent} {w : World} (hb : w.heap[b]? = some (.cells #[.map (some mb)] 58 (0, 0))) (hm : MapIs w mb D) (hD : LOk D) (hRel : Rel D L) (hV : RefV base mk p cap L w) :
    Calls Try.prog 17 #[.pointer (some ⟨b, 0, none⟩), .pointer (some ⟨mk, 0, none⟩)] w fun e w' => e = .returned (.bool true) ∧ Below w.heap.size w w' := by
  have hlen : L.length ≤ 8 := by have := hRel.size (hm.canon keyed); have := hD.size; omega
  have HL := Lib.hid hlen; have HV := Lib.hid hV; have HHB := Lib.hid hb; have HM := Lib.hid hm
  clear hb hm hV hlen
  go_enter Try.func17, Try.ntmps17
  go_wp2_with fail
  refine (list_any b mb D _ HHB.out HM.out hD).mono ?_
  rintro e w1 ⟨v, ks, rfl, LL⟩
  have hks := hRel.keys_is LL.up LL.all LL.old
  have b1 := LL.below
  have hV1 := HV.out.step b1
  have hb1 := (b1.block _ (lt_of_blk HHB.out)).trans HHB.out
  have hm1 := HM.out.below b1 HM.out.lt
  have cm1 := cell_blk hV1.h 0
  have hv : ∃ pA, v = .slice pA L.length L.length ∧ (0 < L.length → ∃ h, pA = some ⟨h, 0, none⟩ ∧ RowE L h w1) := by
    have hl : ks.length = L.length := by rw [hks, List.length_map]
    rcases LL.val with ⟨e1, rfl⟩ | ⟨g, rfl, _, hg, hat⟩
    · have : L.length = 0 := by rw [← hl, e1]; rfl
      rw [this]; exact ⟨none, rfl, fun h => by omega⟩
    · rw [hl]
      refine ⟨_, rfl, fun _ => ⟨g, rfl, hg, fun i c e x h1 h2 => ?_⟩⟩
      refine (hat i c e.1 x ?_ ?_).1
      · rw [hks, List.getElem?_map, h1]; rfl
      · have := (hRel.old e (List.mem_of_getElem? h1)).2
        have e2 : encK (untilAt D) e.1 = encE e := by
          unfold encE encK; rw [this]
        rw [e2]; exact h2
  obtain ⟨pA, rfl, hrow⟩ := hv
  have HR1 := Lib.hid hrow; have HV1 := Lib.hid hV1; have HB1 := Lib.hid b1; have HH1 := Lib.hid hb1; have HM1 := Lib.hid hm1
  clear LL hks b1 hV1 hb1 hm1 hrow
  go_wp2_with fail
  refine (next34 b mb D _ HH1.out HM1.out hD hRel).mono ?_
  rintro e w2 ⟨rfl, b2⟩
  have hV2 := HV1.out.step b2
  have HV2 := Lib.hid hV2; have HB2 := Lib.hid (HB1.out.trans (b2.mono HB1.out.size))
  have HR2 := Lib.hid (show 0 < L.length → ∃ h, pA = some ⟨h, 0, none⟩ ∧ RowE L h w2 from fun hp => by obtain ⟨h, e1, e2⟩ := HR1.out hp; exact ⟨h, e1, e2.step b2⟩)
  clear HR1 HV1 HB1 HH1 HM1 b2 hV2 cm1
  go_wp2_with fail
  refine (next35 HV2.out HL.out).mono ?_
  rintro e w3 ⟨rfl, rfl⟩
  have cm2 := cell_blk HV2.out.h 0
  go_wp2_with fail
  go_loopw [6] (fun i wr => ∃ k : Nat, k ≤ L.length ∧ i = .int .i64 k ∧ RefV base mk p cap L wr ∧ (0 < L.length → ∃ h, pA = some ⟨h, 0, none⟩ ∧ RowE L h wr) ∧ Below w.heap.size w wr) (fun i _ => L.length - (intOf i).toNat)
  case atStart => exact ⟨0, by omega, rfl, HV2.out, HR2.out, HB2.out⟩
  case round =>
    clear cm2 HV2 HR2 HB2
    obtain ⟨k, hk, rfl, IV, IR, IB⟩ := hrel
    have HI := Lib.hid IV; have HIR := Lib.hid IR; have HIB := Lib.hid IB
    clear IV IR IB
    by_cases hlt : k < L.length
    · obtain ⟨g, rfl, hg, _⟩ := HI.out.row.row (by omega)
      obtain ⟨h, rfl, hRX⟩ := HIR.out (by omega)
      obtain ⟨e, he⟩ : ∃ e, L[k]? = some e := ⟨L[k], List.getElem?_eq_getElem hlt⟩
      have hk1 : ¬ ((L.length : Int) ≤ k) := by omega
      have hk2 : (k : Int) < L.length := by omega
      have hRW : ∀ W, RefV base mk (some ⟨g, 0, none⟩) cap L W → RowE L g W := fun W hW => by
        obtain ⟨g', e1, _, h2⟩ := hW.row.row (by omega)
        injection e1 with e1; injection e1 with e1
        subst e1
        exact h2
      have HE := Lib.hid he
      have HRW := fun W (h : RefV base mk (some ⟨g, 0, none⟩) cap L W) => (hRW W h).pre HE.out
      have HTM := fun W (h : RefV base mk (some ⟨g, 0, none⟩) cap L W) => (hRW W h).time HE.out
      have HEQ := fun W => pre_neq (adrOf_lt e.1) (bitsOf_lt e.1) W
      have HRX := Lib.hid hRX
      clear hRW he hRX
      go_wp2_with fail
      refine wp_region_held_drew (S := fun w' => RefV base mk (some ⟨g, 0, none⟩) cap L w' ∧ RowE L h w') (by kernel_rfl) ⟨HI.out.step (Below.refl _ _).drew, HRX.out.step (Below.refl _ _).drew⟩ ?_
      intro HS
      refine wpAnyH_take (i := 0) (v := .slice (some ⟨h, 0, none⟩) L.length L.length) rfl (by kernel_rfl) (by kernel_rfl) (by kernel_rfl) (fun _ _ _ h => h) (Or.inl ⟨by rfl, fun W hW => by go_simp⟩) HS ?_
      try simp only [List.getElem_toArray, List.getElem_cons_zero, List.getElem_cons_succ, Act.put, List.setIfInBounds_toArray, List.set_cons_zero, List.set_cons_succ]
      refine wpAnyH_take (i := 1) (v := .int .i64 (k : Int)) rfl (by kernel_rfl) (by kernel_rfl) (by kernel_rfl) (fun _ _ _ h => h) (Or.inl ⟨by rfl, fun W hW => by go_simp⟩) HS ?_
      try simp only [List.getElem_toArray, List.getElem_cons_zero, List.getElem_cons_succ, Act.put, List.setIfInBounds_toArray, List.set_cons_zero, List.set_cons_succ]
      refine wpAnyH_take (i := 2) (v := .pointer (some ⟨h, k * 18, none⟩)) rfl (by kernel_rfl) (by kernel_rfl) (by kernel_rfl) (fun _ _ _ h => h) (Or.inl ⟨by rfl, fun W hW => by go_simp⟩) HS ?_
      try simp only [List.getElem_toArray, List.getElem_cons_zero, List.getElem_cons_succ, Act.put, List.setIfInBounds_toArray, List.set_cons_zero, List.set_cons_succ]
      refine wpAnyH_take (i := 3) (v := .pointer (some ⟨h, k * 18, none⟩)) rfl (by kernel_rfl) (by kernel_rfl) (by kernel_rfl) (fun _ _ _ h => h) (Or.inl ⟨by rfl, fun W hW => by go_simp⟩) HS ?_
      try simp only [List.getElem_toArray, List.getElem_cons_zero, List.getElem_cons_succ, Act.put, List.setIfInBounds_toArray, List.set_cons_zero, List.set_cons_succ]
      refine wpAnyH_take (i := 4) (v := .agg (preL (adrOf e.1) (bitsOf e.1)).toArray) rfl (by kernel_rfl) (by kernel_rfl) (by kernel_rfl) (fun _ _ _ h => h) (by refine yieldsIf_load_mid ?_ 25 (.tmp 33) rfl h (k * 18) ?_ (preL (adrOf e.1) (bitsOf e.1)) _ (fun W hW => hW.2.pre HE.out) Try.underlying25 rfl (info25 _ _); (go_simp); (go_simp)) HS ?_
      try simp only [List.getElem_toArray, List.getElem_cons_zero, List.getElem_cons_succ, Act.put, List.setIfInBounds_toArray, List.set_cons_zero, List.set_cons_succ]
      refine wpAnyH_take (i := 5) (v := .pointer (some ⟨mk, 0, none⟩)) rfl (by kernel_rfl) (by kernel_rfl) (by kernel_rfl) (fun _ _ _ h => h) (Or.inl ⟨by rfl, fun W hW => by go_simp⟩) HS ?_
      try simp only [List.getElem_toArray, List.getElem_cons_zero, List.getElem_cons_succ, Act.put, List.setIfInBounds_toArray, List.set_cons_zero, List.set_cons_succ]
      refine wpAnyH_take (i := 6) (v := .pointer (some ⟨mk, 0, none⟩)) rfl (by kernel_rfl) (by kernel_rfl) (by kernel_rfl) (fun _ _ _ h => h) (Or.inl ⟨by rfl, fun W hW => by go_simp⟩) HS ?_
      try simp only [List.getElem_toArray, List.getElem_cons_zero, List.getElem_cons_succ, Act.put, List.setIfInBounds_toArray, List.set_cons_zero, List.set_cons_succ]
      refine wpAnyH_take (i := 7) (v := .pointer (some ⟨mk, 0, none⟩)) rfl (by kernel_rfl) (by kernel_rfl) (by kernel_rfl) (fun _ _ _ h => h) (Or.inl ⟨by rfl, fun W hW => by go_simp⟩) HS ?_
      try simp only [List.getElem_toArray, List.getElem_cons_zero, List.getElem_cons_succ, Act.put, List.setIfInBounds_toArray, List.set_cons_zero, List.set_cons_succ]
      refine wpAnyH_take (i := 8) (v := .slice (some ⟨g, 0, none⟩) L.length cap) rfl (by kernel_rfl) (by kernel_rfl) (by kernel_rfl) (fun _ _ _ h => h) (Or.inl ⟨by rfl, fun W hW => by have c0 : W.cell? ⟨mk, 0, none⟩ = some (.slice (some ⟨g, 0, none⟩) L.length cap) := cell_blk hW.1.h 0; go_simp⟩) HS ?_
      try simp only [List.getElem_toArray, List.getElem_cons_zero, List.getElem_cons_succ, Act.put, List.setIfInBounds_toArray, List.set_cons_zero, List.set_cons_succ]
      refine wpAnyH_take (i := 9) (v := .int .i64 (k : Int)) rfl (by kernel_rfl) (by kernel_rfl) (by kernel_rfl) (fun _ _ _ h => h) (Or.inl ⟨by rfl, fun W hW => by go_simp⟩) HS ?_
      try simp only [List.getElem_toArray, List.getElem_cons_zero, List.getElem_cons_succ, Act.put, List.setIfInBounds_toArray, List.set_cons_zero, List.set_cons_succ]
      refine wpAnyH_take (i := 10) (v := .pointer (some ⟨g, k * 18, none⟩)) rfl (by kernel_rfl) (by kernel_rfl) (by kernel_rfl) (fun _ _ _ h => h) (Or.inl ⟨by rfl, fun W hW => by go_simp⟩) HS ?_
      try simp only [List.getElem_toArray, List.getElem_cons_zero, List.getElem_cons_succ, Act.put, List.setIfInBounds_toArray, List.set_cons_zero, List.set_cons_succ]
      refine wpAnyH_take (i := 11) (v := .pointer (some ⟨g, k * 18, none⟩)) rfl (by kernel_rfl) (by kernel_rfl) (by kernel_rfl) (fun _ _ _ h => h) (Or.inl ⟨by rfl, fun W hW => by go_simp⟩) HS ?_
      try simp only [List.getElem_toArray, List.getElem_cons_zero, List.getElem_cons_succ, Act.put, List.setIfInBounds_toArray, List.set_cons_zero, List.set_cons_succ]
      refine wpAnyH_take (i := 12) (v := .agg (preL (adrOf e.1) (bitsOf e.1)).toArray) rfl (by kernel_rfl) (by kernel_rfl) (by kernel_rfl) (fun _ _ _ h => h) (by refine yieldsIf_load_mid ?_ 25 (.tmp 41) rfl g (k * 18) ?_ (preL (adrOf e.1) (bitsOf e.1)) _ (fun W hW => HRW W hW.1) Try.underlying25 rfl (info25 _ _); (go_simp); (go_simp)) HS ?_
      try simp only [List.getElem_toArray, List.getElem_cons_zero, List.getElem_cons_succ, Act.put, List.setIfInBounds_toArray, List.set_cons_zero, List.set_cons_succ]
      refine wpAnyH_take (i := 13) (v := .bool false) rfl (by kernel_rfl) (by kernel_rfl) (by kernel_rfl) (fun _ _ _ h => h) (Or.inl ⟨by rfl, fun W hW => by have := HEQ W; go_simp⟩) HS ?_
      try simp only [List.getElem_toArray, List.getElem_cons_zero, List.getElem_cons_succ, Act.put, List.setIfInBounds_toArray, List.set_cons_zero, List.set_cons_succ]
      refine wpAnyH_take (i := 14) (v := .bool false) rfl (by kernel_rfl) (by kernel_rfl) (by kernel_rfl) (fun _ _ _ h => h) (Or.inl ⟨by rfl, fun W hW => by go_simp⟩) HS ?_
      try simp only [List.getElem_toArray, List.getElem_cons_zero, List.getElem_cons_succ, Act.put, List.setIfInBounds_toArray, List.set_cons_zero, List.set_cons_succ]
      refine wpAnyH_take (i := 15) (v := .slice (some ⟨h, 0, none⟩) L.length L.length) rfl (by kernel_rfl) (by kernel_rfl) (by kernel_rfl) (fun _ _ _ h => h) (Or.inl ⟨by kernel_rfl, fun W hW => by go_simp⟩) HS ?_
      try simp only [List.getElem_toArray, List.getElem_cons_zero, List.getElem_cons_succ, Act.put, List.setIfInBounds_toArray, List.set_cons_zero, List.set_cons_succ]
      refine wpAnyH_take (i := 16) (v := .int .i64 (k : Int)) rfl (by kernel_rfl) (by kernel_rfl) (by kernel_rfl) (fun _ _ _ h => h) (Or.inl ⟨by kernel_rfl, fun W hW => by go_simp⟩) HS ?_
      try simp only [List.getElem_toArray, List.getElem_cons_zero, List.getElem_cons_succ, Act.put, List.setIfInBounds_toArray, List.set_cons_zero, List.set_cons_succ]
      refine wpAnyH_take (i := 17) (v := .pointer (some ⟨h, k * 18, none⟩)) rfl (by kernel_rfl) (by kernel_rfl) (by kernel_rfl) (fun _ _ _ h => h) (Or.inl ⟨by kernel_rfl, fun W hW => by go_simp⟩) HS ?_
      try simp only [List.getElem_toArray, List.getElem_cons_zero, List.getElem_cons_succ, Act.put, List.setIfInBounds_toArray, List.set_cons_zero, List.set_cons_succ]
      refine wpAnyH_take (i := 18) (v := .pointer (some ⟨h, k * 18 + 17, none⟩)) rfl (by kernel_rfl) (by kernel_rfl) (by kernel_rfl) (fun _ _ _ h => h) (Or.inl ⟨by kernel_rfl, fun W hW => by go_simp⟩) HS ?_
      try simp only [List.getElem_toArray, List.getElem_cons_zero, List.getElem_cons_succ, Act.put, List.setIfInBounds_toArray, List.set_cons_zero, List.set_cons_succ]
      refine wpAnyH_take (i := 19) (v := .int .u64 (e.2 : Int)) rfl (by kernel_rfl) (by kernel_rfl) (by kernel_rfl) (fun _ _ _ h => h) (Or.inl ⟨by kernel_rfl, fun W hW => by have := hW.2.time HE.out; go_simp⟩) HS ?_
      try simp only [List.getElem_toArray, List.getElem_cons_zero, List.getElem_cons_succ, Act.put, List.setIfInBounds_toArray, List.set_cons_zero, List.set_cons_succ]
      refine wpAnyH_take (i := 20) (v := .pointer (some ⟨mk, 0, none⟩)) rfl (by kernel_rfl) (by kernel_rfl) (by kernel_rfl) (fun _ _ _ h => h) (Or.inl ⟨by kernel_rfl, fun W hW => by go_simp⟩) HS ?_
      try simp only [List.getElem_toArray, List.getElem_cons_zero, List.getElem_cons_succ, Act.put, List.setIfInBounds_toArray, List.set_cons_zero, List.set_cons_succ]
      refine wpAnyH_take (i := 21) (v := .pointer (some ⟨mk, 0, none⟩)) rfl (by kernel_rfl) (by kernel_rfl) (by kernel_rfl) (fun _ _ _ h => h) (Or.inl ⟨by kernel_rfl, fun W hW => by go_simp⟩) HS ?_
      try simp only [List.getElem_toArray, List.getElem_cons_zero, List.getElem_cons_succ, Act.put, List.setIfInBounds_toArray, List.set_cons_zero, List.set_cons_succ]
      refine wpAnyH_take (i := 22) (v := .pointer (some ⟨mk, 0, none⟩)) rfl (by kernel_rfl) (by kernel_rfl) (by kernel_rfl) (fun _ _ _ h => h) (Or.inl ⟨by kernel_rfl, fun W hW => by go_simp⟩) HS ?_
      try simp only [List.getElem_toArray, List.getElem_cons_zero, List.getElem_cons_succ, Act.put, List.setIfInBounds_toArray, List.set_cons_zero, List.set_cons_succ]
      refine wpAnyH_take (i := 23) (v := .slice (some ⟨g, 0, none⟩) L.length cap) rfl (by kernel_rfl) (by kernel_rfl) (by kernel_rfl) (fun _ _ _ h => h) (Or.inl ⟨by kernel_rfl, fun W hW => by have c0 : W.cell? ⟨mk, 0, none⟩ = some (.slice (some ⟨g, 0, none⟩) L.length cap) := cell_blk hW.1.h 0; go_simp⟩) HS ?_
      try simp only [List.getElem_toArray, List.getElem_cons_zero, List.getElem_cons_succ, Act.put, List.setIfInBounds_toArray, List.set_cons_zero, List.set_cons_succ]
      refine wpAnyH_take (i := 24) (v := .int .i64 (k : Int)) rfl (by kernel_rfl) (by kernel_rfl) (by kernel_rfl) (fun _ _ _ h => h) (Or.inl ⟨by kernel_rfl, fun W hW => by go_simp⟩) HS ?_
      try simp only [List.getElem_toArray, List.getElem_cons_zero, List.getElem_cons_succ, Act.put, List.setIfInBounds_toArray, List.set_cons_zero, List.set_cons_succ]
      refine wpAnyH_take (i := 25) (v := .pointer (some ⟨g, k * 18, none⟩)) rfl (by kernel_rfl) (by kernel_rfl) (by kernel_rfl) (fun _ _ _ h => h) (Or.inl ⟨by kernel_rfl, fun W hW => by go_simp⟩) HS ?_
      try simp only [List.getElem_toArray, List.getElem_cons_zero, List.getElem_cons_succ, Act.put, List.setIfInBounds_toArray, List.set_cons_zero, List.set_cons_succ]
      refine wpAnyH_take (i := 26) (v := .pointer (some ⟨g, k * 18 + 17, none⟩)) rfl (by kernel_rfl) (by kernel_rfl) (by kernel_rfl) (fun _ _ _ h => h) (Or.inl ⟨by kernel_rfl, fun W hW => by go_simp⟩) HS ?_
      try simp only [List.getElem_toArray, List.getElem_cons_zero, List.getElem_cons_succ, Act.put, List.setIfInBounds_toArray, List.set_cons_zero, List.set_cons_succ]
      refine wpAnyH_take (i := 27) (v := .int .u64 (e.2 : Int)) rfl (by kernel_rfl) (by kernel_rfl) (by kernel_rfl) (fun _ _ _ h => h) (Or.inl ⟨by kernel_rfl, fun W hW => by have := HTM W hW.1; go_simp⟩) HS ?_
      try simp only [List.getElem_toArray, List.getElem_cons_zero, List.getElem_cons_succ, Act.put, List.setIfInBounds_toArray, List.set_cons_zero, List.set_cons_succ]
      refine wpAnyH_take (i := 28) (v := .bool false) rfl (by kernel_rfl) (by kernel_rfl) (by kernel_rfl) (fun _ _ _ h => h) (Or.inl ⟨by kernel_rfl, fun W hW => by go_simp⟩) HS ?_
      try simp only [List.getElem_toArray, List.getElem_cons_zero, List.getElem_cons_succ, Act.put, List.setIfInBounds_toArray, List.set_cons_zero, List.set_cons_succ]
      refine wpAnyH_take (i := 29) (v := .bool false) rfl (by kernel_rfl) (by kernel_rfl) (by kernel_rfl) (fun _ _ _ h => h) (Or.inl ⟨by rfl, fun W hW => by go_simp⟩) HS ?_
      try simp only [List.getElem_toArray, List.getElem_cons_zero, List.getElem_cons_succ, Act.put, List.setIfInBounds_toArray, List.set_cons_zero, List.set_cons_succ]
      refine wpAnyH_done (by kernel_rfl) ?_ _
      have HW := Lib.hid HS; clear HS HRW HTM HEQ
      have HB := Lib.hid HIB.out.drew
      clear HI HIB
      have h8 := HL.out
      go_wp2_with fail
      go_roundw
      case rel => exact ⟨k + 1, by omega, by go_num, HW.out.1, fun _ => ⟨h, rfl, HW.out.2⟩, HB.out⟩
      case measure => simp [intOf]; omega
    · obtain rfl : k = L.length := by omega
      go_wp2_with fail
      go_ret
      exact ⟨rfl, HIB.out⟩
end Go.Proofs.Ytkhbchgocilclaa
