/- Is a group told of; its record; is a table there: the walks. No condition but that the table of known addresses is as it was laid. (Written out by exp.py.) -/
import Derived.Test.YthbkjhacnnoolaaDoorGD
import Derived.Stop.BytesEq
namespace Go.Proofs.YthbkjhacnnoolaaDoor
open Go.RowKit
set_option linter.unusedVariables false
set_option linter.unusedSimpArgs false
theorem size5r (w : World) : (sizeOf 5).run Tryd.prog w = .ok 1 w := by
  obtain ⟨i, hi⟩ : ∃ i, Tryd.prog.info? 5 = some i := Option.isSome_iff_exists.1 (by kernel_rfl)
  have e : Tryd.prog.cellsOf 5 = 1 := by kernel_rfl
  rw [← e]
  exact run_sizeOf w hi
theorem u8_cell {x : Nat} (h : x < 256) : Value.int .u8 (x : Int) = Extern.Stop.cell (UInt8.ofNat x) := by
  simp [Extern.Stop.cell, Nat.mod_eq_of_lt h]
theorem row8_cell : ∀ {l : List Nat}, (∀ x ∈ l, x < 256) → row8 l = (l.map UInt8.ofNat).map Extern.Stop.cell
  | [], _ => rfl
  | x :: l, h => by
    have := row8_cell (l := l) (fun y hy => h y (List.mem_cons_of_mem _ hy))
    have e := u8_cell (h x List.mem_cons_self)
    simp only [row8, List.map_cons] at this ⊢
    rw [e, this]
theorem map8_inj : ∀ {l m : List Nat}, (∀ x ∈ l, x < 256) → (∀ x ∈ m, x < 256) → l.map UInt8.ofNat = m.map UInt8.ofNat → l = m
  | [], [], _, _, _ => rfl
  | [], y :: m, _, _, h => by simp at h
  | x :: l, [], _, _, h => by simp at h
  | x :: l, y :: m, hl, hm, h => by
    simp only [List.map_cons, List.cons.injEq] at h
    have e := congrArg UInt8.toNat h.1
    simp only [UInt8.toNat_ofNat'] at e
    have h1 := hl x List.mem_cons_self
    have h2 := hm y List.mem_cons_self
    rw [Nat.mod_eq_of_lt h1, Nat.mod_eq_of_lt h2] at e
    rw [e, map8_inj (fun a ha => hl a (List.mem_cons_of_mem _ ha)) (fun a ha => hm a (List.mem_cons_of_mem _ ha)) h.2]
theorem eq26 {l m : List Nat} (hl : Adr l) (hm : Adr m) (d : Nat) (W : World) :
    (Op.equalIn (d + 2) 26 (.agg (row8 l).toArray) (.agg (row8 m).toArray)).run Tryd.prog W = .ok (l == m) W := by
  rw [row8_cell hl.low, row8_cell hm.low, run_equalIn_bytes W d 26 5 16 (by kernel_rfl) (by kernel_rfl) size5r _ _ (by simp [hl.len]) (by simp [hm.len])]
  congr 1
  by_cases e : l = m
  · subst e; simp
  · rw [beq_false_of_ne e, beq_eq_false_iff_ne]
    exact fun h => e (map8_inj hl.low hm.low h)
def toldB (l : List Nat) : Bool := decide (1 < scopeN l) && !(l == nodesL)
set_option maxRecDepth 100000 in
theorem told28 {l : List Nat} (w : World) (hk : Kn w) (h : Adr l) (h0 : l.headD 0 = 255) :
    Calls Tryd.prog 28 #[.agg (row8 l).toArray] w fun e w' => e = .returned (.bool (toldB l)) ∧ Below w.heap.size w w' := by
  have hal : Below w.heap.size w (w.alloc (.cells (row8 l).toArray 26)) := (Below.refl _ _).alloc (Nat.le_refl _) _
  have hb := heap_alloc_new w (.cells (row8 l).toArray 26)
  obtain ⟨V, hV⟩ : ∃ V, V = w.alloc (.cells (row8 l).toArray 26) := ⟨_, rfl⟩
  obtain ⟨b, hbb⟩ : ∃ b, b = w.heap.size := ⟨_, rfl⟩
  rw [← hV] at hal hb; rw [← hbb] at hb
  have HB := Lib.hid hb; have HAL := Lib.hid hal
  have H36 : Hid (∀ W, Calls Tryd.prog 36 #[.agg (row8 l).toArray] W fun e w' => e = .returned (.int .i64 (scopeN l : Int)) ∧ Below W.heap.size W w') := Lib.hid fun W => scope36 W h h0
  have H31 : Hid (∀ W, Below w.heap.size w W → Calls Tryd.prog 31 #[] W fun e w' => e = .returned (.agg (row8 nodesL).toArray) ∧ Below W.heap.size W w') := Lib.hid fun W hW => nodes31 W (hk.below hW hk.lt)
  have heq := fun d W => eq26 h nodes_adr d W
  have hs : toldB l = (decide (1 < scopeN l) && !(l == nodesL)) := rfl
  obtain ⟨r, hr⟩ : ∃ r, r = (l == nodesL) := ⟨_, rfl⟩
  obtain ⟨s, hss⟩ : ∃ s, s = scopeN l := ⟨_, rfl⟩
  obtain ⟨q, hq⟩ : ∃ q, q = toldB l := ⟨_, rfl⟩
  obtain ⟨X, hX⟩ : ∃ X, X = row8 l := ⟨_, rfl⟩
  obtain ⟨Y, hY⟩ : ∃ Y, Y = row8 nodesL := ⟨_, rfl⟩
  have HXL : Hid (X.length = 16) := Lib.hid (by rw [hX, row8_length, h.len])
  have HSZ := Lib.hid size26
  rw [← hX] at HB H36 heq hV ⊢
  rw [← hY] at H31 heq
  rw [← hr] at heq hs
  rw [← hss] at H36 hs
  rw [← hq] at hs ⊢
  have HSS := Lib.hid hs; have HEQ := Lib.hid heq
  have HLE : Hid (w.heap.size ≤ b) := Lib.hid (by omega)
  clear hal hb h h0 hX hY hr hss hq hs heq hk
  go_enter Tryd.func28, Tryd.ntmps28
  go_upto_region 1 with (fail)
  rw [← hV, ← hbb]
  clear hV hbb
  have hS0 : Below w.heap.size w V.drew ∧ V.drew.heap[b]? = some (.cells X.toArray 26 (0, 0)) := ⟨HAL.out.drew, HB.out⟩
  refine wp_region_held_drew (S := fun W => Below w.heap.size w W ∧ W.heap[b]? = some (.cells X.toArray 26 (0, 0))) (by kernel_rfl) hS0 ?_
  clear hS0
  intro HS
  refine wpAnyH_take (i := 0) (v := .agg X.toArray) rfl (by kernel_rfl) (by kernel_rfl) (by kernel_rfl) (fun _ _ _ h => h) (by refine yieldsIf_load_mid ?hw 26 (.tmp 1) ?ho b 0 ?hx X _ (fun W hW => row_at hW.2) Tryd.underlying26 rfl (by rw [HXL.out]; exact HSZ.out); (case ho => rfl); (case hw => go_simp); (case hx => go_simp)) HS ?_
  try simp only [List.getElem_toArray, List.getElem_cons_zero, List.getElem_cons_succ, Act.put, List.setIfInBounds_toArray, List.set_cons_zero, List.set_cons_succ]
  refine wpAnyH_ready (rs := [1]) (by kernel_rfl) (by simp) ?_
  refine AllReadyH.cons rfl (fun K hK => ?_) AllReadyH.nil
  rw [if_pos (by kernel_rfl)]
  simp only [List.getElem_toArray, List.getElem_cons_zero, List.getElem_cons_succ]
  go_simp
  refine (H36.out _).mono ?_
  rintro e w1 ⟨rfl, hb1⟩
  have HS1 := Lib.hid (show Below w.heap.size w w1 ∧ w1.heap[b]? = some (.cells X.toArray 26 (0, 0)) from ⟨HS.1.trans (hb1.mono HS.1.size), (hb1.block b (lt_of_blk HS.2)).trans HS.2⟩)
  clear hb1
  refine hK.out _ _ HS1.out (fun HS => ?_)
  clear hK
  try simp only [List.getElem_toArray, List.getElem_cons_zero, List.getElem_cons_succ, Act.put, List.setIfInBounds_toArray, List.set_cons_zero, List.set_cons_succ]
  by_cases h1 : 1 < s
  · have t1 : (1 : Int) < (s : Int) := by omega
    have HQ : Hid (q = !r) := Lib.hid (by rw [HSS.out, decide_eq_true h1, Bool.true_and])
    clear h1
    refine wpAnyH_take (i := 2) (v := ?_) rfl (by kernel_rfl) (by kernel_rfl) (by kernel_rfl) (fun _ _ _ h => h) (Or.inl ⟨by go_simp, ?hy⟩) HS ?_
    case hy => intro W hW; go_simp; (try with_reducible rfl)
    try simp only [List.getElem_toArray, List.getElem_cons_zero, List.getElem_cons_succ, Act.put, List.setIfInBounds_toArray, List.set_cons_zero, List.set_cons_succ]
    refine wpAnyH_take (i := 3) (v := ?_) rfl (by kernel_rfl) (by kernel_rfl) (by kernel_rfl) (fun _ _ _ h => h) (Or.inl ⟨by go_simp, ?hy⟩) HS ?_
    case hy => intro W hW; go_simp; (try with_reducible rfl)
    try simp only [List.getElem_toArray, List.getElem_cons_zero, List.getElem_cons_succ, Act.put, List.setIfInBounds_toArray, List.set_cons_zero, List.set_cons_succ]
    refine wpAnyH_take (i := 4) (v := .agg X.toArray) rfl (by kernel_rfl) (by kernel_rfl) (by kernel_rfl) (fun _ _ _ h => h) (by refine yieldsIf_load_mid ?hw 26 (.tmp 1) ?ho b 0 ?hx X _ (fun W hW => row_at hW.2) Tryd.underlying26 rfl (by rw [HXL.out]; exact HSZ.out); (case ho => rfl); (case hw => go_simp); (case hx => go_simp)) HS ?_
    try simp only [List.getElem_toArray, List.getElem_cons_zero, List.getElem_cons_succ, Act.put, List.setIfInBounds_toArray, List.set_cons_zero, List.set_cons_succ]
    refine wpAnyH_ready (rs := [5]) (by kernel_rfl) (by simp) ?_
    refine AllReadyH.cons rfl (fun K hK => ?_) AllReadyH.nil
    rw [if_pos (by kernel_rfl)]
    simp only [List.getElem_toArray, List.getElem_cons_zero, List.getElem_cons_succ]
    go_simp
    refine (H31.out _ HS1.out.1).mono ?_
    rintro e w2 ⟨rfl, hb2⟩
    have HS2 := Lib.hid (show Below w.heap.size w w2 ∧ w2.heap[b]? = some (.cells X.toArray 26 (0, 0)) from ⟨HS1.out.1.trans (hb2.mono HS1.out.1.size), (hb2.block b (lt_of_blk HS1.out.2)).trans HS1.out.2⟩)
    clear hb2
    refine hK.out _ _ HS2.out (fun HS => ?_)
    clear hK
    try simp only [List.getElem_toArray, List.getElem_cons_zero, List.getElem_cons_succ, Act.put, List.setIfInBounds_toArray, List.set_cons_zero, List.set_cons_succ]
    have heq := HEQ.out
    refine wpAnyH_take (i := 6) (v := .bool (!r)) rfl (by kernel_rfl) (by kernel_rfl) (by kernel_rfl) (fun _ _ _ h => h) (Or.inl ⟨by go_simp, fun W hW => by go_simp⟩) HS ?_
    try simp only [List.getElem_toArray, List.getElem_cons_zero, List.getElem_cons_succ, Act.put, List.setIfInBounds_toArray, List.set_cons_zero, List.set_cons_succ]
    clear heq
    refine wpAnyH_take (i := 7) (v := ?_) rfl (by kernel_rfl) (by kernel_rfl) (by kernel_rfl) (fun _ _ _ h => h) (Or.inl ⟨by go_simp, ?hy⟩) HS ?_
    case hy => intro W hW; go_simp; (try with_reducible rfl)
    try simp only [List.getElem_toArray, List.getElem_cons_zero, List.getElem_cons_succ, Act.put, List.setIfInBounds_toArray, List.set_cons_zero, List.set_cons_succ]
    refine wpAnyH_take (i := 8) (v := ?_) rfl (by kernel_rfl) (by kernel_rfl) (by kernel_rfl) (fun _ _ _ h => h) (Or.inl ⟨by go_simp, ?hy⟩) HS ?_
    case hy => intro W hW; go_simp; (try with_reducible rfl)
    try simp only [List.getElem_toArray, List.getElem_cons_zero, List.getElem_cons_succ, Act.put, List.setIfInBounds_toArray, List.set_cons_zero, List.set_cons_succ]
    refine wpAnyH_done (by kernel_rfl) ?_ _
    go_wp2_with fail
    go_ret
    exact ⟨by rw [HQ.out]; rfl, HS2.out.1⟩
  · have t1 : ¬ (1 : Int) < (s : Int) := by omega
    have HQ : Hid (q = false) := Lib.hid (by rw [HSS.out, decide_eq_false h1, Bool.false_and])
    clear h1
    refine wpAnyH_take (i := 2) (v := ?_) rfl (by kernel_rfl) (by kernel_rfl) (by kernel_rfl) (fun _ _ _ h => h) (Or.inl ⟨by go_simp, ?hy⟩) HS ?_
    case hy => intro W hW; go_simp; (try with_reducible rfl)
    try simp only [List.getElem_toArray, List.getElem_cons_zero, List.getElem_cons_succ, Act.put, List.setIfInBounds_toArray, List.set_cons_zero, List.set_cons_succ]
    refine wpAnyH_take (i := 3) (v := ?_) rfl (by kernel_rfl) (by kernel_rfl) (by kernel_rfl) (fun _ _ _ h => h) (Or.inl ⟨by go_simp, ?hy⟩) HS ?_
    case hy => intro W hW; go_simp; (try with_reducible rfl)
    try simp only [List.getElem_toArray, List.getElem_cons_zero, List.getElem_cons_succ, Act.put, List.setIfInBounds_toArray, List.set_cons_zero, List.set_cons_succ]
    refine wpAnyH_take (i := 4) (v := undef) rfl (by kernel_rfl) (by kernel_rfl) (by kernel_rfl) (fun _ _ _ h => h) (Or.inr ⟨by first | (go_simp; done) | (go_simp; intro h; cases h; done) | kernel_rfl, rfl⟩) HS ?_
    try simp only [List.getElem_toArray, List.getElem_cons_zero, List.getElem_cons_succ, Act.put, List.setIfInBounds_toArray, List.set_cons_zero, List.set_cons_succ]
    refine wpAnyH_take (i := 5) (v := undef) rfl (by kernel_rfl) (by kernel_rfl) (by kernel_rfl) (fun _ _ _ h => h) (Or.inr ⟨by first | (go_simp; done) | (go_simp; intro h; cases h; done) | kernel_rfl, rfl⟩) HS ?_
    try simp only [List.getElem_toArray, List.getElem_cons_zero, List.getElem_cons_succ, Act.put, List.setIfInBounds_toArray, List.set_cons_zero, List.set_cons_succ]
    refine wpAnyH_take (i := 6) (v := undef) rfl (by kernel_rfl) (by kernel_rfl) (by kernel_rfl) (fun _ _ _ h => h) (Or.inr ⟨by first | (go_simp; done) | (go_simp; intro h; cases h; done) | kernel_rfl, rfl⟩) HS ?_
    try simp only [List.getElem_toArray, List.getElem_cons_zero, List.getElem_cons_succ, Act.put, List.setIfInBounds_toArray, List.set_cons_zero, List.set_cons_succ]
    refine wpAnyH_take (i := 7) (v := ?_) rfl (by kernel_rfl) (by kernel_rfl) (by kernel_rfl) (fun _ _ _ h => h) (Or.inl ⟨by go_simp, ?hy⟩) HS ?_
    case hy => intro W hW; go_simp; (try with_reducible rfl)
    try simp only [List.getElem_toArray, List.getElem_cons_zero, List.getElem_cons_succ, Act.put, List.setIfInBounds_toArray, List.set_cons_zero, List.set_cons_succ]
    refine wpAnyH_take (i := 8) (v := ?_) rfl (by kernel_rfl) (by kernel_rfl) (by kernel_rfl) (fun _ _ _ h => h) (Or.inl ⟨by go_simp, ?hy⟩) HS ?_
    case hy => intro W hW; go_simp; (try with_reducible rfl)
    try simp only [List.getElem_toArray, List.getElem_cons_zero, List.getElem_cons_succ, Act.put, List.setIfInBounds_toArray, List.set_cons_zero, List.set_cons_succ]
    refine wpAnyH_done (by kernel_rfl) ?_ _
    go_wp2_with fail
    go_ret
    exact ⟨by rw [HQ.out]; rfl, HS1.out.1⟩
end Go.Proofs.YthbkjhacnnoolaaDoor
