/- Which datagram of the pool has the name: the walk. No condition but that the pool is one. -/
import Derived.Test.YtjldcblklbikaaaFH
namespace Go.Proofs.Ytjldcblklbikaaa
open Go.RowKit
set_option linter.unusedVariables false
set_option linter.unusedSimpArgs false
/-- the first that is told of, or none is -/
def FirstD (D : List Dg) (t : Dg → Bool) (r : Option Nat) : Prop := match r with
  | none => ∀ x ∈ D, t x = false
  | some k => ∃ x, D[k]? = some x ∧ t x = true ∧ ∀ j y, j < k → D[j]? = some y → t y = false
def ptrK (D : List Dg) (r : Option Nat) : Value := match r with
  | none => .pointer none
  | some k => match D[k]? with
    | some d => ptrTo d
    | none => .pointer none
def Dg.has (s d : List Nat) (i : Nat) (x : Dg) : Bool := x.src == s && (x.dst == d && x.id == i)
/-- the pointers' row reads -/
theorem PoolAt.ptrs {w : World} {pb : Nat} {rv : Value} {D : List Dg} (h : PoolAt w pb rv D) : ∃ A c, rv = .slice A D.length c ∧ (D ≠ [] → ∃ g, A = some ⟨g, 0, none⟩ ∧ g < w.heap.size ∧ ∀ k d, D[k]? = some d → w.cell? ⟨g, k, none⟩ = some (ptrTo d)) := by
  rcases h.row.2 with ⟨e, hl⟩ | ⟨g, cap, cur, e, hb, hg, hn, hx, hs, ht⟩
  · exact ⟨none, 0, by rw [e, hl], fun hne => absurd (List.length_eq_zero_iff.1 hl) hne⟩
  · refine ⟨_, _, e, fun _ => ⟨g, rfl, lt_of_blk hg, fun k d hk => ?_⟩⟩
    have h1 : (D.map ptrTo)[k]? = some (ptrTo d) := by rw [List.getElem?_map, hk]; rfl
    rw [← ht, List.getElem?_take] at h1
    split at h1
    · rw [cell_blk hg]; simpa using h1
    · cases h1
structure FS (w : World) (q : Nat) (N : List Value) (W : World) : Prop where
  box : W.heap[q]? = some (.cells N.toArray 73 (0, 0))
  below : Below w.heap.size w W
attribute [-go_sem] run_eql_struct run_equalIn_agg in
set_option maxRecDepth 100000 in
set_option maxHeartbeats 1000000 in
theorem find34 {pb i : Nat} {rv : Value} {D : List Dg} {s d : List Nat} (w : World) (h : PoolAt w pb rv D) (hs : s.length = 16) (hd : d.length = 16) (hs8 : ∀ y ∈ s, y < 256) (hd8 : ∀ y ∈ d, y < 256) :
    Calls Try.prog 34 #[.pointer (some ⟨pb, 0, none⟩), .agg (nmL s d i).toArray] w fun e w' => ∃ r, FirstD D (Dg.has s d i) r ∧ e = .returned (ptrK D r) ∧ Below w.heap.size w w' := by
  obtain ⟨A, c, rfl, hrow⟩ := h.ptrs
  have hal : Below w.heap.size w (w.alloc (.cells (nmL s d i).toArray 73)) := (Below.refl _ _).alloc (Nat.le_refl _) _
  have hF : FS w w.heap.size (nmL s d i) (w.alloc (.cells (nmL s d i).toArray 73)) := ⟨heap_alloc_new w _, hal⟩
  have HP : Hid ((w.alloc (.cells (nmL s d i).toArray 73)).cell? ⟨pb, 0, none⟩ = some (.slice A D.length c)) := Lib.hid ((hal.cell (p := ⟨pb, 0, none⟩) (lt_of_blk h.blk)).trans (by rw [cell_blk h.blk]; rfl))
  have HEQ : Hid (∀ x ∈ D, ∀ W, (binOp .eql 73 (.agg (nmL x.src x.dst x.id).toArray) (.agg (nmL s d i).toArray)).run Try.prog W = .ok (.bool (Dg.has s d i x)) W) := Lib.hid fun x hx W => nm_eq (h.each x hx).src (h.each x hx).dst hs hd (h.each x hx).src8 (h.each x hx).dst8 hs8 hd8 W
  have HNL := Lib.hid (nmL_length (i := i) hs hd)
  have HROW := Lib.hid hrow
  have HD := Lib.hid h.each
  have HZ := Lib.hid zero73
  have hm := h.four
  obtain ⟨n, hn⟩ : ∃ n, D.length = n := ⟨_, rfl⟩
  have HN := Lib.hid hn
  rw [hn] at HP hm
  obtain ⟨V, hV⟩ : ∃ V, V = w.alloc (.cells (nmL s d i).toArray 73) := ⟨_, rfl⟩
  obtain ⟨q, hq⟩ : ∃ p, p = w.heap.size := ⟨_, rfl⟩
  rw [← hV] at HP hF
  rw [← hq] at hF
  obtain ⟨N, hN⟩ : ∃ N, N = nmL s d i := ⟨_, rfl⟩
  rw [← hN] at HEQ HNL hV hF ⊢
  have HF := Lib.hid hF
  have p0 := HP.out
  clear h hs hd hs8 hd8 hrow hal hF hn hN
  go_enter Try.func34, Try.ntmps34
  go_upto_region 1 with (fail)
  rw [← hV, ← hq]
  clear hV hq
  go_wp2_with fail
  go_loopw [12] (fun z wr => ∃ k : Nat, k ≤ n ∧ z = .int .i64 k ∧ (∀ j y, j < k → D[j]? = some y → Dg.has s d i y = false) ∧ FS w q N wr) (fun z _ => n - (intOf z).toNat)
  case atStart => exact ⟨0, Nat.zero_le _, rfl, fun j y hj => absurd hj (by omega), HF.out⟩
  case round =>
    obtain ⟨k, hk, rfl, hno, hW⟩ := hrel
    have HNO := Lib.hid hno
    clear hno HF HP p0
    by_cases hlt : k < n
    · obtain ⟨x, hx⟩ : ∃ x, D[k]? = some x := ⟨D[k]'(by rw [HN.out]; exact hlt), List.getElem?_eq_getElem _⟩
      obtain ⟨g, rfl, hg, hc⟩ := HROW.out (by rintro rfl; simp at hx)
      have hxm := List.mem_of_getElem? hx
      have c0 := (hW.below.cell (p := ⟨g, k, none⟩) hg).trans (hc k x hx)
      have HX := Lib.hid hx
      have HE := Lib.hid (HEQ.out x hxm)
      have hdx := HD.out x hxm
      have HNX := Lib.hid (Dg.name hdx)
      have HLX := Lib.hid (nmL_length (i := x.id) hdx.src hdx.dst)
      have HB := Lib.hid (lt_of_blk hdx.blk)
      obtain ⟨M, hM⟩ : ∃ M, M = nmL x.src x.dst x.id := ⟨_, rfl⟩
      rw [← hM] at HE HNX HLX
      obtain ⟨xb, hxb⟩ : ∃ b, b = x.blk := ⟨_, rfl⟩
      have HPX : Hid (ptrTo x = .pointer (some ⟨xb, 0, none⟩)) := Lib.hid (by rw [hxb]; rfl)
      rw [HPX.out] at c0
      rw [← hxb] at HNX HB
      obtain ⟨t, ht⟩ : ∃ t, t = Dg.has s d i x := ⟨_, rfl⟩
      have HT := Lib.hid ht
      rw [← ht] at HE
      have hS : FS w q N wr.drew := ⟨hW.box, hW.below.drew⟩
      clear hx hc hxm hdx hM hxb ht hW hg
      go_upto_region 4 with (fail)
      refine wp_region_held_drew (S := fun W => FS w q N W) (by kernel_rfl) hS ?_
      clear hS
      intro HS
      refine wpAnyH_take (i := 0) (v := ?_) rfl (by kernel_rfl) (by kernel_rfl) (by kernel_rfl) (fun _ _ _ h => h) (Or.inl ⟨by go_simp, ?hy⟩) HS ?_
      case hy => intro W hW; go_simp; (try with_reducible rfl)
      try simp only [List.getElem_toArray, List.getElem_cons_zero, List.getElem_cons_succ, Act.put, List.setIfInBounds_toArray, List.set_cons_zero, List.set_cons_succ]
      refine wpAnyH_take (i := 1) (v := ?_) rfl (by kernel_rfl) (by kernel_rfl) (by kernel_rfl) (fun _ _ _ h => h) (Or.inl ⟨by go_simp, ?hy⟩) HS ?_
      case hy => intro W hW; go_simp; (try with_reducible rfl)
      try simp only [List.getElem_toArray, List.getElem_cons_zero, List.getElem_cons_succ, Act.put, List.setIfInBounds_toArray, List.set_cons_zero, List.set_cons_succ]
      refine wpAnyH_take (i := 2) (v := ?_) rfl (by kernel_rfl) (by kernel_rfl) (by kernel_rfl) (fun _ _ _ h => h) (Or.inl ⟨by go_simp, ?hy⟩) HS ?_
      case hy => intro W hW; go_simp; (try with_reducible rfl)
      try simp only [List.getElem_toArray, List.getElem_cons_zero, List.getElem_cons_succ, Act.put, List.setIfInBounds_toArray, List.set_cons_zero, List.set_cons_succ]
      refine wpAnyH_take (i := 3) (v := .agg M.toArray) rfl (by kernel_rfl) (by kernel_rfl) (by kernel_rfl) (fun _ _ _ h => h) (by refine yieldsIf_load_mid ?hw 73 (.tmp 18) ?ho xb 0 ?hx M _ (fun W hW => range_below HNX.out HB.out hW.below) Try.underlying73 rfl (by rw [HLX.out]; exact HZ.out); (case ho => rfl); (case hw => go_simp); (case hx => go_simp)) HS ?_
      try simp only [List.getElem_toArray, List.getElem_cons_zero, List.getElem_cons_succ, Act.put, List.setIfInBounds_toArray, List.set_cons_zero, List.set_cons_succ]
      refine wpAnyH_take (i := 4) (v := .agg N.toArray) rfl (by kernel_rfl) (by kernel_rfl) (by kernel_rfl) (fun _ _ _ h => h) (by refine yieldsIf_load_mid ?hw 73 (.tmp 3) ?ho q 0 ?hx N _ (fun W hW => row_of hW.box) Try.underlying73 rfl (by rw [HNL.out]; exact HZ.out); (case ho => rfl); (case hw => go_simp); (case hx => go_simp)) HS ?_
      try simp only [List.getElem_toArray, List.getElem_cons_zero, List.getElem_cons_succ, Act.put, List.setIfInBounds_toArray, List.set_cons_zero, List.set_cons_succ]
      refine wpAnyH_take (i := 5) (v := .bool t) rfl (by kernel_rfl) (by kernel_rfl) (by kernel_rfl) (fun _ _ _ h => h) (Or.inl ⟨by go_simp, fun W hW => by have e := HE.out W; go_simp⟩) HS ?_
      try simp only [List.getElem_toArray, List.getElem_cons_zero, List.getElem_cons_succ, Act.put, List.setIfInBounds_toArray, List.set_cons_zero, List.set_cons_succ]
      cases t with
      | true =>
        refine wpAnyH_done (by kernel_rfl) ?_ _
        go_wp2_with fail
        go_ret
        exact ⟨some k, ⟨x, HX.out, HT.out.symm, HNO.out⟩, by simp only [ptrK, HX.out, HPX.out]; rfl, HS.below⟩
      | false =>
        have HNX : Hid (∀ j y, j < k + 1 → D[j]? = some y → Dg.has s d i y = false) := Lib.hid (by
          intro j y hj hy
          rcases Nat.lt_or_ge j k with h1 | h1
          · exact HNO.out j y h1 hy
          · obtain rfl : j = k := by omega
            have := HX.out
            rw [hy] at this
            cases this
            exact HT.out.symm)
        refine wpAnyH_done (by kernel_rfl) ?_ _
        go_wp2_with fail
        go_roundw
        case rel => exact ⟨k + 1, by omega, by go_num, HNX.out, HS⟩
        case measure => simp [intOf]; omega
    · obtain rfl : k = n := by omega
      clear hlt
      have HW := Lib.hid hW
      clear hW
      go_wp2_with fail
      go_ret
      refine ⟨none, fun x hx => ?_, rfl, HW.out.below⟩
      obtain ⟨j, hj⟩ := List.getElem?_of_mem hx
      exact HNO.out j x (by rw [← HN.out]; exact (List.getElem?_eq_some_iff.1 hj).1) hj
end Go.Proofs.Ytjldcblklbikaaa
