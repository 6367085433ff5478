/- The document's Has and Next. No condition but that the numbers fit. -/
import Derived.Test.YtkhbchgocilclaaPlayC
namespace Go.Proofs.Ytkhbchgocilclaa
open Go.RowKit
set_option linter.unusedVariables false
set_option linter.unusedSimpArgs false
def hasR (L : List Ent) (a : Nat → Nat) : Bool := L.any (fun e => withinR a (adrOf e.1) (bitsOf e.1)) || linkB a
set_option maxRecDepth 100000 in
set_option maxHeartbeats 4000000 in
theorem has18 {base mk cap : Nat} {p : Option Addr} {L : List Ent} {w : World} (hV : RefV base mk p cap L w) (a : Nat → Nat) (ha : ∀ i, i < 16 → a i < 256) (hlen : L.length ≤ 8) :
    Calls Try.prog 18 #[.pointer (some ⟨mk, 0, none⟩), .agg (adrCells a)] w fun e w' => e = .returned (.bool (hasR L a)) ∧ Below w.heap.size w w' := by
  have hx := heap_alloc_new w (.cells (adrCells a) 23)
  have hb : Below w.heap.size w (w.alloc (.cells (adrCells a) 23)) := (Below.refl _ _).alloc (Nat.le_refl _) _
  have I := Lib.hid (show (RefV base mk p cap L (w.alloc (.cells (adrCells a) 23)) ∧ (w.alloc (.cells (adrCells a) 23)).heap[w.heap.size]? = some (.cells (adrCells a) 23 (0, 0))) ∧ Below w.heap.size w (w.alloc (.cells (adrCells a) 23)) from ⟨⟨hV.step hb, hx⟩, hb⟩)
  have HQ := Lib.hid ha
  clear hx hb hV ha
  go_enter Try.func18, Try.ntmps18
  go_wp2_with fail
  obtain ⟨B, hB⟩ : ∃ B, B = w.heap.size := ⟨_, rfl⟩
  rw [← hB] at I ⊢
  have NB := Lib.hid hB; clear hB
  go_loopw [5] (fun i wr => ∃ k : Nat, k ≤ L.length ∧ i = .int .i64 k ∧ ((RefV base mk p cap L wr ∧ wr.heap[B]? = some (.cells (adrCells a) 23 (0, 0))) ∧ Below B w wr) ∧ ∀ (j : Nat) (e : Ent), j < k → L[j]? = some e → withinR a (adrOf e.1) (bitsOf e.1) = false) (fun i _ => L.length - (intOf i).toNat)
  case atStart => exact ⟨0, by omega, rfl, I.out, fun j e h => by omega⟩
  case round =>
    clear I
    obtain ⟨k, hk, rfl, I, hno⟩ := hrel
    have cm := cell_blk I.1.1.h 0
    have HI := Lib.hid I; have HNO := Lib.hid hno
    clear I hno
    by_cases hlt : k < L.length
    · obtain ⟨g, rfl, hg, _⟩ := HI.out.1.1.row.row (by omega)
      obtain ⟨e, he⟩ : ∃ e, L[k]? = some e := ⟨L[k], List.getElem?_eq_getElem hlt⟩
      have hk1 : ¬ ((L.length : Int) ≤ k) := by omega
      have hk2 : (k : Int) < L.length := by omega
      have hRW : ∀ W, RefV base mk (some ⟨g, 0, none⟩) cap L W → W.rangeAt g (k * 18) (preL (adrOf e.1) (bitsOf e.1)) := fun W hW => by
        obtain ⟨g', e1, _, h2⟩ := hW.row.row (by omega)
        injection e1 with e1; injection e1 with e1
        subst e1
        exact h2.pre he
      have HRW := fun W h => hRW W h
      clear hRW
      go_wp2_with fail
      obtain ⟨w1, hw1⟩ : ∃ w1, w1 = wr := ⟨_, rfl⟩
      rw [← hw1] at HI cm ⊢
      clear hw1
      have HB0 := Lib.hid (HI.out.2.drew)
      have HSZ := Lib.hid (show B ≤ w1.drew.heap.size from Nat.le_of_lt (lt_of_blk HI.out.1.2))
      refine wp_region_held_drew (S := fun w' => RefV base mk (some ⟨g, 0, none⟩) cap L w' ∧ w'.heap[B]? = some (.cells (adrCells a) 23 (0, 0))) (by kernel_rfl) ⟨HI.out.1.1.step (Below.refl _ _).drew, HI.out.1.2⟩ ?_
      intro HS
      refine wpAnyH_take (i := 0) (v := .agg (adrL a).toArray) rfl (by kernel_rfl) (by kernel_rfl) (by kernel_rfl) (fun _ _ _ h => h) (by refine yieldsIf_load_mid ?_ 23 (.tmp 3) rfl B 0 ?_ (adrL a) _ (fun W hW => range_adr hW.2) Try.underlying23 rfl (info23 _); (go_simp); (go_simp)) HS ?_
      try simp only [List.getElem_toArray, List.getElem_cons_zero, List.getElem_cons_succ, Act.put, List.setIfInBounds_toArray, List.set_cons_zero, List.set_cons_succ]
      refine wpAnyH_take (i := 1) (v := .pointer (some ⟨mk, 0, none⟩)) rfl (by kernel_rfl) (by kernel_rfl) (by kernel_rfl) (fun _ _ _ h => h) (Or.inl ⟨by rfl, fun W hW => by go_simp⟩) HS ?_
      try simp only [List.getElem_toArray, List.getElem_cons_zero, List.getElem_cons_succ, Act.put, List.setIfInBounds_toArray, List.set_cons_zero, List.set_cons_succ]
      refine wpAnyH_take (i := 2) (v := .pointer (some ⟨mk, 0, none⟩)) rfl (by kernel_rfl) (by kernel_rfl) (by kernel_rfl) (fun _ _ _ h => h) (Or.inl ⟨by rfl, fun W hW => by go_simp⟩) HS ?_
      try simp only [List.getElem_toArray, List.getElem_cons_zero, List.getElem_cons_succ, Act.put, List.setIfInBounds_toArray, List.set_cons_zero, List.set_cons_succ]
      refine wpAnyH_take (i := 3) (v := .pointer (some ⟨mk, 0, none⟩)) rfl (by kernel_rfl) (by kernel_rfl) (by kernel_rfl) (fun _ _ _ h => h) (Or.inl ⟨by rfl, fun W hW => by go_simp⟩) HS ?_
      try simp only [List.getElem_toArray, List.getElem_cons_zero, List.getElem_cons_succ, Act.put, List.setIfInBounds_toArray, List.set_cons_zero, List.set_cons_succ]
      refine wpAnyH_take (i := 4) (v := .slice (some ⟨g, 0, none⟩) L.length cap) rfl (by kernel_rfl) (by kernel_rfl) (by kernel_rfl) (fun _ _ _ h => h) (Or.inl ⟨by rfl, fun W hW => by have c0 : W.cell? ⟨mk, 0, none⟩ = some (.slice (some ⟨g, 0, none⟩) L.length cap) := cell_blk hW.1.h 0; go_simp⟩) HS ?_
      try simp only [List.getElem_toArray, List.getElem_cons_zero, List.getElem_cons_succ, Act.put, List.setIfInBounds_toArray, List.set_cons_zero, List.set_cons_succ]
      refine wpAnyH_take (i := 5) (v := .int .i64 (k : Int)) rfl (by kernel_rfl) (by kernel_rfl) (by kernel_rfl) (fun _ _ _ h => h) (Or.inl ⟨by rfl, fun W hW => by go_simp⟩) HS ?_
      try simp only [List.getElem_toArray, List.getElem_cons_zero, List.getElem_cons_succ, Act.put, List.setIfInBounds_toArray, List.set_cons_zero, List.set_cons_succ]
      refine wpAnyH_take (i := 6) (v := .pointer (some ⟨g, k * 18, none⟩)) rfl (by kernel_rfl) (by kernel_rfl) (by kernel_rfl) (fun _ _ _ h => h) (Or.inl ⟨by rfl, fun W hW => by go_simp⟩) HS ?_
      try simp only [List.getElem_toArray, List.getElem_cons_zero, List.getElem_cons_succ, Act.put, List.setIfInBounds_toArray, List.set_cons_zero, List.set_cons_succ]
      refine wpAnyH_take (i := 7) (v := .pointer (some ⟨g, k * 18, none⟩)) rfl (by kernel_rfl) (by kernel_rfl) (by kernel_rfl) (fun _ _ _ h => h) (Or.inl ⟨by rfl, fun W hW => by go_simp⟩) HS ?_
      try simp only [List.getElem_toArray, List.getElem_cons_zero, List.getElem_cons_succ, Act.put, List.setIfInBounds_toArray, List.set_cons_zero, List.set_cons_succ]
      refine wpAnyH_take (i := 8) (v := .agg (preL (adrOf e.1) (bitsOf e.1)).toArray) rfl (by kernel_rfl) (by kernel_rfl) (by kernel_rfl) (fun _ _ _ h => h) (by refine yieldsIf_load_mid ?_ 25 (.tmp 22) rfl g (k * 18) ?_ (preL (adrOf e.1) (bitsOf e.1)) _ (fun W hW => HRW W hW.1) Try.underlying25 rfl (info25 _ _); (go_simp); (go_simp)) HS ?_
      try simp only [List.getElem_toArray, List.getElem_cons_zero, List.getElem_cons_succ, Act.put, List.setIfInBounds_toArray, List.set_cons_zero, List.set_cons_succ]
      refine wpAnyH_ready (rs := [9]) (by kernel_rfl) (by simp) ?_
      refine AllReadyH.cons rfl (fun K hK => ?_) AllReadyH.nil
      rw [if_pos (by kernel_rfl)]
      simp only [List.getElem_toArray, List.getElem_cons_zero, List.getElem_cons_succ]
      go_simp
      refine (within36 a (adrOf e.1) (bitsOf e.1) _ HQ.out (adrOf_lt e.1) (bitsOf_lt e.1)).mono ?_
      rintro e7 w7 ⟨rfl, b7⟩
      have HB7 := Lib.hid ((show Below B w w1.drew from HB0.out).trans (b7.mono HSZ.out))
      refine hK.out _ _ ⟨HS.1.step b7, (b7.block _ (lt_of_blk HS.2)).trans HS.2⟩ (fun HS => ?_)
      clear hK b7
      try simp only [List.getElem_toArray, List.getElem_cons_zero, List.getElem_cons_succ, Act.put, List.setIfInBounds_toArray, List.set_cons_zero, List.set_cons_succ]
      refine wpAnyH_done (by kernel_rfl) ?_ _
      have HW := Lib.hid HS; clear HS HRW cm HB0 HSZ
      clear HI
      have HE := Lib.hid he; clear he
      cases hf : withinR a (adrOf e.1) (bitsOf e.1) with
      | true =>
        have hh : hasR L a = true := by unfold hasR; rw [List.any_eq_true.2 ⟨e, List.mem_of_getElem? HE.out, hf⟩]; rfl
        have HH := Lib.hid hh; clear hh hf
        go_wp2_with fail
        go_ret
        exact ⟨by rw [HH.out]; rfl, by rw [← NB.out]; exact HB7.out⟩
      | false =>
        have HF := Lib.hid hf; clear hf
        go_wp2_with fail
        go_roundw
        case rel => exact ⟨k + 1, by omega, by go_num, ⟨HW.out, HB7.out⟩, fun j x hj hx => by
          by_cases ej : j = k
          · subst ej; have := HE.out; rw [hx] at this; injection this with this; subst this; exact HF.out
          · exact HNO.out j x (by omega) hx⟩
        case measure => simp [intOf]; omega
    · obtain rfl : k = L.length := by omega
      have hh : hasR L a = linkB a := by
        unfold hasR
        rw [any_false fun j e he => HNO.out j e (List.getElem?_eq_some_iff.1 he).1 he, Bool.false_or]
      have HH := Lib.hid hh; clear hh
      have RA := Lib.hid (range_adr HI.out.1.2)
      go_wp2_with (refine wpList_load_mid rfl 23 _ rfl B 0 rfl (adrL a) _ RA.out Try.underlying23 rfl (info23 _) ?_)
      refine (link30 a _ HQ.out).mono ?_
      rintro e7 w7 ⟨rfl, b7⟩
      have HB7 := Lib.hid (HI.out.2.trans (b7.mono (Nat.le_of_lt (lt_of_blk HI.out.1.2))))
      clear HI RA b7 cm
      go_wp2_with fail
      go_ret
      exact ⟨by rw [HH.out]; rfl, by rw [← NB.out]; exact HB7.out⟩
def minL (L : List Ent) : Nat := L.foldl (fun n e => min n e.2) forever
set_option maxRecDepth 100000 in
set_option maxHeartbeats 4000000 in
theorem next35 {base mk cap : Nat} {p : Option Addr} {L : List Ent} {w : World} (hV : RefV base mk p cap L w) (hlen : L.length ≤ 8) :
    Calls Try.prog 35 #[.pointer (some ⟨mk, 0, none⟩)] w fun e w' => e = .returned (.int .u64 (minL L : Int)) ∧ w = w' := by
  have hmk := lt_of_blk hV.h
  go_enter Try.func35, Try.ntmps35
  go_wp2_with fail
  have HV := Lib.hid hV; clear hV
  go_loopw [3, 4] (fun n i wr => ∃ k : Nat, k ≤ L.length ∧ i = .int .i64 k ∧ n = .int .u64 (((L.take k).foldl (fun n e => min n e.2) forever : Nat) : Int) ∧ wr = w) (fun n i _ => L.length - (intOf i).toNat)
  case atStart => exact ⟨0, by omega, rfl, rfl, rfl⟩
  case round =>
    obtain ⟨k, hk, rfl, rfl, rfl⟩ := hrel
    have cm := cell_blk HV.out.h 0
    by_cases hlt : k < L.length
    · obtain ⟨g, rfl, hg, hR⟩ := HV.out.row.row (by omega)
      obtain ⟨e, he⟩ : ∃ e, L[k]? = some e := ⟨L[k], List.getElem?_eq_getElem hlt⟩
      have hk1 : ¬ ((L.length : Int) ≤ k) := by omega
      have hk2 : (k : Int) < L.length := by omega
      have ct := hR.time he
      have e1 : (L.take (k + 1)).foldl (fun n e => min n e.2) forever = min ((L.take k).foldl (fun n e => min n e.2) forever) e.2 := by
        rw [List.take_add_one, he, List.foldl_append]; rfl
      have HE1 := Lib.hid e1; clear e1 hR
      generalize (L.take k).foldl (fun n e => min n e.2) forever = x at *
      go_wp2_with fail
      case roundEnd =>
        refine ⟨⟨k + 1, by omega, by congr 1, ?_, trivial⟩, by simp [intOf]; omega⟩
        rw [HE1.out]; congr 1; omega
    · obtain rfl : k = L.length := by omega
      rw [List.take_length]
      go_wp2_with fail
      go_ret
      exact ⟨rfl, rfl⟩
end Go.Proofs.Ytkhbchgocilclaa
