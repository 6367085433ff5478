/- The document's reader of a prefix. No condition but that the bytes are bytes. (Printed by gRdP.py.) -/
import Derived.Test.YtfolamkjlgpgmaaGreatDoorRd
namespace Go.Proofs.YtfolamkjlgpgmaaGreatDoor
open Go.RowKit
set_option linter.unusedVariables false
set_option linter.unusedSimpArgs false
theorem on_128 : ∀ f : Fin 256, ((((f.val : Int) / 128) == 1) = onB f.val 128) := by decide +kernel
theorem on_64 : ∀ f : Fin 256, (((((f.val : Int) / 64).tmod 2) == 1) = onB f.val 64) := by decide +kernel
theorem w_128 : ∀ f : Fin 256, IntKind.u8.wrap ((f.val : Int) / 128) = (f.val : Int) / 128 := by decide +kernel
theorem w_64 : ∀ f : Fin 256, IntKind.u8.wrap ((f.val : Int) / 64) = (f.val : Int) / 64 := by decide +kernel
theorem row_adr {l : List Nat} (h : l.length = 30) : (row8 ((l.drop 14).take 16)).toArray = adrCells (adrOf l) := by
  unfold adrCells adrL row8 adrOf
  congr 1
  apply List.ext_getElem?
  intro i
  by_cases hi : i < 16
  · simp [List.getElem?_take_of_lt hi, List.getElem?_drop, List.getElem?_range hi, List.getElem?_eq_getElem (show 14 + i < l.length by omega)]
  · rw [List.getElem?_eq_none (by simp; omega), List.getElem?_eq_none (by simp; omega)]
/-- a block's cells, those from o on given anew -/
def overW (c : Array Value) (o : Nat) : List Value → Array Value
  | [] => c
  | v :: vs => overW (c.setIfInBounds o v) (o + 1) vs
theorem overW_size (c : Array Value) (o : Nat) (vs : List Value) : (overW c o vs).size = c.size := by
  induction vs generalizing c o with
  | nil => rfl
  | cons v vs ih => unfold overW; rw [ih]; simp
theorem Turned.setCells {b : Nat} {t : TypeId} {z : Nat × Nat} : ∀ (vs : List Value) {w : World} {c : Array Value} (o : Nat), w.heap[b]? = some (.cells c t z) → Turned b (.cells (overW c o vs) t z) w (w.setCells b o vs)
  | [], w, c, o, h => Turned.refl h
  | v :: vs, w, c, o, h => by
    have t1 := Turned.setCell h o v
    have t2 := Turned.setCells (t := t) (z := z) vs (o + 1) (t1.get (lt_of_blk h))
    exact t1.trans t2
theorem there_blk {w : World} {b o n : Nat} {c : Array Value} {t : TypeId} (h : w.heap[b]? = some (.cells c t (0, 0))) (hn : o + n ≤ c.size) : w.there b o n := fun j hj => by
  refine ⟨?_, frozen_blk h (o + j)⟩
  rw [cell_blk h, Array.getElem?_eq_getElem (by omega)]; rfl
structure PW (q : Nat) (C : Array Value) (V W : World) : Prop where
  blk : W.heap[q]? = some (.cells C 37 (0, 0))
  below : Below V.heap.size V W
  size : W.heap.size = q + 1
structure PR (V : World) (q3 B kd b o c : Nat) (C : Array Value) (W : World) : Prop where
  row : W.heap[q3]? = some (.cells C 32 (0, 0))
  box : W.heap[B]? = some (.cells #[.int .u8 (kd : Int), .slice (some ⟨b, o, none⟩) 30 c] 24 (0, 0))
  below : Below V.heap.size V W
theorem PR.step {V W W' : World} {q3 B kd b o c : Nat} {C : Array Value} (h : PR V q3 B kd b o c C W) (hb : Below W.heap.size W W') : PR V q3 B kd b o c C W' :=
  ⟨(hb.block _ (lt_of_blk h.row)).trans h.row, (hb.block _ (lt_of_blk h.box)).trans h.box, h.below.trans (hb.mono h.below.size)⟩
theorem PR.turn {V W W' : World} {q3 B kd b o c q : Nat} {C : Array Value} {ob : Obj} (h : PR V q3 B kd b o c C W) (t : Turned q ob W W') (h1 : q3 ≠ q) (h2 : B ≠ q) (h3 : V.heap.size ≤ q) : PR V q3 B kd b o c C W' :=
  ⟨t.keep h.row h1, t.keep h.box h2, h.below.trans (t.below h3)⟩
theorem num_one {l : List Nat} {p x : Nat} (h : l[p]? = some x) : num1 l p 1 = x := by
  have := List.getElem?_eq_some_iff.1 h
  unfold num1
  rw [List.take_add_one, List.getElem?_drop, Nat.add_zero, h]
  simp [beN]
set_option maxRecDepth 100000 in
set_option maxHeartbeats 4000000 in
theorem prefix9 {kd : Nat} {A : Option Addr} {c : Nat} {l : List Nat} (w : World) (h : Bs w w.heap.size A c l) (hl : l.length ≤ 1000000000) (h256 : ∀ x ∈ l, x < 256) :
    Calls Tryz.prog 9 #[.agg #[.int .u8 (kd : Int), .slice A l.length c]] w fun e w' => e = .returned (.tuple #[.agg (if l.length = 30 ∧ (kd == 3 && decide (num1 l 0 1 ≤ 128)) = true then preC l else #[.int .u8 0, .int .u8 0, .int .u8 0, .int .u8 0, .int .u8 0, .int .u8 0, .int .u8 0, .int .u8 0, .int .u8 0, .int .u8 0, .int .u8 0, .int .u8 0, .int .u8 0, .int .u8 0, .int .u8 0, .int .u8 0, .int .u8 0, .bool false, .bool false, .int .u32 0, .int .u32 0]), .bool (decide (l.length = 30 ∧ (kd == 3 && decide (num1 l 0 1 ≤ 128)) = true))]) ∧ Below w.heap.size w w' := by
  obtain ⟨V, hV⟩ : ∃ V, V = (w.alloc (.cells #[.int .u8 (kd : Int), .slice A l.length c] 24)).alloc (.cells #[.int .u8 0, .int .u8 0, .int .u8 0, .int .u8 0, .int .u8 0, .int .u8 0, .int .u8 0, .int .u8 0, .int .u8 0, .int .u8 0, .int .u8 0, .int .u8 0, .int .u8 0, .int .u8 0, .int .u8 0, .int .u8 0, .int .u8 0, .bool false, .bool false, .int .u32 0, .int .u32 0] 37) := ⟨_, rfl⟩
  have hbV : Below w.heap.size w V := by rw [hV]; exact ((Below.refl _ _).alloc (Nat.le_refl _) _).alloc (by simp) _
  have s1 : V.heap.size = w.heap.size + 1 + 1 := by rw [hV]; simp
  have b1 : V.heap[w.heap.size]? = some (.cells #[.int .u8 (kd : Int), .slice A l.length c] 24 (0, 0)) := by rw [hV, heap_alloc_old _ _ (by simp), heap_alloc_new]
  have b2 : V.heap[w.heap.size + 1]? = some (.cells #[.int .u8 0, .int .u8 0, .int .u8 0, .int .u8 0, .int .u8 0, .int .u8 0, .int .u8 0, .int .u8 0, .int .u8 0, .int .u8 0, .int .u8 0, .int .u8 0, .int .u8 0, .int .u8 0, .int .u8 0, .int .u8 0, .int .u8 0, .bool false, .bool false, .int .u32 0, .int .u32 0] 37 (0, 0)) := by rw [hV, show w.heap.size + 1 = (w.alloc (.cells #[.int .u8 (kd : Int), .slice A l.length c] 24)).heap.size by simp, heap_alloc_new]
  have HBV := Lib.hid hbV; have HB1 := Lib.hid b1; have HB2 := Lib.hid b2; have HS1 := Lib.hid s1
  have HR := Lib.hid (h.rd.below hbV)
  have HZ : Hid ((Tryz.prog.info? 37).map (·.size) = some (#[.int .u8 0, .int .u8 0, .int .u8 0, .int .u8 0, .int .u8 0, .int .u8 0, .int .u8 0, .int .u8 0, .int .u8 0, .int .u8 0, .int .u8 0, .int .u8 0, .int .u8 0, .int .u8 0, .int .u8 0, .int .u8 0, .int .u8 0, .bool false, .bool false, .int .u32 0, .int .u32 0] : Array Value).size) := Lib.hid (by kernel_rfl)
  have HZ1 : Hid ((#[.int .u8 0, .int .u8 0, .int .u8 0, .int .u8 0, .int .u8 0, .int .u8 0, .int .u8 0, .int .u8 0, .int .u8 0, .int .u8 0, .int .u8 0, .int .u8 0, .int .u8 0, .int .u8 0, .int .u8 0, .int .u8 0, .int .u8 0, .bool false, .bool false, .int .u32 0, .int .u32 0] : Array Value).all (·.oneCell') = true) := Lib.hid (by simp [Value.oneCell'])
  have hcap := h.cap
  obtain ⟨n, hn⟩ : ∃ n, l.length = n := ⟨_, rfl⟩
  rw [hn] at hV HB1 hl hcap ⊢
  have HN := Lib.hid hn; have H256 := Lib.hid h256
  obtain ⟨q1, hq1⟩ : ∃ q, q = w.heap.size + 1 := ⟨_, rfl⟩
  rw [← hq1] at HB2
  clear h hbV b1 b2 s1 hn h256
  have c0 := cell_blk HB1.out 0
  have c1 := cell_blk HB1.out 1
  simp only [List.getElem?_toArray, List.getElem?_cons_zero, List.getElem?_cons_succ] at c0 c1
  have HQ1 := Lib.hid hq1
  have fin : ∀ (C : Array Value) (b : Bool), Below w.heap.size w (V.setRow q1 C) := fun C b => HBV.out.trans ((Turned.setRow HB2.out C).below (by rw [HQ1.out]; omega))
  have HFIN := Lib.hid fin
  clear fin
  by_cases hok : n = 30 ∧ (kd == 3 && decide (num1 l 0 1 ≤ 128)) = true
  · obtain ⟨rfl, hk⟩ := hok
    have hkd : kd = 3 := by
      by_cases k1 : kd = 3
      · exact k1
      · simp [k1] at hk
    have t1 : ((kd : Int) != 3) = false := by rw [bne_eq_false_iff_eq]; omega
    have hle : num1 l 0 1 ≤ 128 := by simpa [hkd] using hk
    rw [if_pos ⟨rfl, hk⟩, decide_eq_true (⟨rfl, hk⟩ : (30 : Nat) = 30 ∧ _)]
    obtain ⟨x0, hx0⟩ : ∃ x, l[0]? = some x := ⟨l[0]'(by rw [HN.out]; omega), List.getElem?_eq_getElem _⟩
    obtain ⟨f1, hf1⟩ : ∃ x, l[1]? = some x := ⟨l[1]'(by rw [HN.out]; omega), List.getElem?_eq_getElem _⟩
    have e0 := num_one hx0; have e1 := num_one hf1
    have hx0b := H256.out _ (List.mem_of_getElem? hx0); have hf1b := H256.out _ (List.mem_of_getElem? hf1)
    obtain ⟨b, o, rfl, hb, hc⟩ := HR.out (by rintro rfl; simp at hx0)
    have cx0 : V.cell? ⟨b, o, none⟩ = some (.int .u8 (x0 : Nat)) := by simpa using hc 0 x0 hx0
    have cf1 : V.cell? ⟨b, o + 1, none⟩ = some (.int .u8 (f1 : Nat)) := hc 1 f1 hf1
    have HNUM : ∀ k W, k + 4 ≤ 30 → Below V.heap.size V W → Calls Tryz.prog 36 #[.slice (some ⟨b, o + k, none⟩) (30 - k) (c - k)] W fun e w' => e = .returned (.int .u32 (num1 l k 4 : Nat)) ∧ W = w' := fun k W hk hW => by
      have hr := (slice_drop (HR.out.below (hW.mono HBV.out.size)) (k := k) (by rw [HN.out]; omega))
      have := num36 (c := c - k) W hr (by rw [List.length_drop, HN.out]; omega) (fun x hx => H256.out x (List.mem_of_mem_drop hx))
      rwa [List.length_drop, HN.out] at this
    have HN2 := Lib.hid (fun W h => HNUM 2 W (by decide) h)
    have HN6 := Lib.hid (fun W h => HNUM 6 W (by decide) h)
    have HR14 := Lib.hid (fun (W : World) (h : Below V.heap.size V W) => slice_drop (HR.out.below (h.mono HBV.out.size)) (k := 14) (by rw [HN.out]; decide))
    obtain ⟨va, hva⟩ : ∃ va, va = num1 l 2 4 := ⟨_, rfl⟩
    obtain ⟨pr, hpr⟩ : ∃ pr, pr = num1 l 6 4 := ⟨_, rfl⟩
    have hpc : preC l = #[.int .u8 ((masked (adrOf l) x0) 0 : Int), .int .u8 ((masked (adrOf l) x0) 1 : Int), .int .u8 ((masked (adrOf l) x0) 2 : Int), .int .u8 ((masked (adrOf l) x0) 3 : Int), .int .u8 ((masked (adrOf l) x0) 4 : Int), .int .u8 ((masked (adrOf l) x0) 5 : Int), .int .u8 ((masked (adrOf l) x0) 6 : Int), .int .u8 ((masked (adrOf l) x0) 7 : Int), .int .u8 ((masked (adrOf l) x0) 8 : Int), .int .u8 ((masked (adrOf l) x0) 9 : Int), .int .u8 ((masked (adrOf l) x0) 10 : Int), .int .u8 ((masked (adrOf l) x0) 11 : Int), .int .u8 ((masked (adrOf l) x0) 12 : Int), .int .u8 ((masked (adrOf l) x0) 13 : Int), .int .u8 ((masked (adrOf l) x0) 14 : Int), .int .u8 ((masked (adrOf l) x0) 15 : Int), .int .u8 (x0 : Int), .bool (onB f1 128), .bool (onB f1 64), .int .u32 (va : Int), .int .u32 (pr : Int)] := by
      unfold preC; rw [e0, e1, ← hva, ← hpr]
    rw [← hva] at HN2; rw [← hpr] at HN6
    obtain ⟨PC, hPC⟩ : ∃ PC, PC = preC l := ⟨_, rfl⟩
    rw [← hPC] at hpc ⊢
    have HPC := Lib.hid hpc
    clear hPC
    have e128 := on_128 ⟨f1, hf1b⟩; have e64 := on_64 ⟨f1, hf1b⟩
    simp only at e128 e64
    have w128 := w_128 ⟨f1, hf1b⟩; have w64 := w_64 ⟨f1, hf1b⟩
    simp only at w128 w64
    have h128 : ¬ (128 : Int) < x0 := by omega
    have n2 : ¬ c = 2 := by omega
    have n6 : ¬ c = 6 := by omega
    have n14 : ¬ c = 14 := by omega
    have hadr : Hid (∀ j, j < 16 → adrOf l j < 256) := Lib.hid (fun j hj => by
      unfold adrOf
      rw [List.getD_eq_getElem?_getD, List.getElem?_eq_getElem (by rw [HN.out]; omega)]
      exact H256.out _ (List.getElem_mem _))
    have hrow : Hid ((row8 ((l.drop 14).take 16)).toArray = adrCells (adrOf l)) := Lib.hid (row_adr HN.out)
    have HVS := Lib.hid HS1.out
    obtain ⟨q2, hq2⟩ : ∃ q, q = V.heap.size := ⟨_, rfl⟩
    have HQ2 := Lib.hid hq2
    have cell9 : ∀ W, Below V.heap.size V W → W.cell? ⟨b, o, none⟩ = some (.int .u8 (x0 : Nat)) ∧ W.cell? ⟨b, o + 1, none⟩ = some (.int .u8 (f1 : Nat)) ∧ W.cell? ⟨w.heap.size, 1, none⟩ = some (.slice (some ⟨b, o, none⟩) 30 c) := fun W hW => ⟨(hW.cell (lt_of_cell cx0)).trans cx0, (hW.cell (lt_of_cell cf1)).trans cf1, (hW.cell (lt_of_cell c1)).trans c1⟩
    have C9 := Lib.hid cell9
    clear hk hkd hle hx0 hf1 e0 e1 hc HNUM hva hpr hpc cell9 hx0b hf1b
    have t2 : (((30 : Nat) : Int) != 30) = false := by decide
    go_enter Tryz.func9, Tryz.ntmps9
    go_upto_region 1 with (fail)
    rw [← hV, ← hq1]
    clear hV hq1 hq2
    go_upto_region 3 with (fail)
    have HSC : Hid ((Tryz.prog.info? 37).map (·.size) = some (#[.int .u8 0, .int .u8 0, .int .u8 0, .int .u8 0, .int .u8 0, .int .u8 0, .int .u8 0, .int .u8 0, .int .u8 0, .int .u8 0, .int .u8 0, .int .u8 0, .int .u8 0, .int .u8 0, .int .u8 0, .int .u8 0, .int .u8 0, .bool (onB f1 128), .bool (onB f1 64), .int .u32 (va : Int), .int .u32 (pr : Int)] : Array Value).size) := Lib.hid (by kernel_rfl)
    go_cut [4] (fun u wx => u = .pointer (some ⟨q2, 0, none⟩) ∧ PW q2 #[.int .u8 0, .int .u8 0, .int .u8 0, .int .u8 0, .int .u8 0, .int .u8 0, .int .u8 0, .int .u8 0, .int .u8 0, .int .u8 0, .int .u8 0, .int .u8 0, .int .u8 0, .int .u8 0, .int .u8 0, .int .u8 0, .int .u8 0, .bool (onB f1 128), .bool (onB f1 64), .int .u32 (va : Int), .int .u32 (pr : Int)] V wx)
    case first =>
      have hS : Below V.heap.size V V.drew := (Below.refl _ _).drew
      refine wp_region_held_drew (S := fun W => Below V.heap.size V W) (by kernel_rfl) hS ?_
      clear hS
      intro HS
      refine wpAnyH_take (i := 0) (v := ?_) rfl (by kernel_rfl) (by kernel_rfl) (by kernel_rfl) (fun _ _ _ h => h) (Or.inl ⟨by go_simp, ?hy⟩) HS ?_
      case hy => intro W hW; go_simp; (try with_reducible rfl)
      try simp only [List.getElem_toArray, List.getElem_cons_zero, List.getElem_cons_succ, Act.put, List.setIfInBounds_toArray, List.set_cons_zero, List.set_cons_succ]
      refine wpAnyH_take (i := 1) (v := (.slice (some ⟨b, o, none⟩) 30 c)) rfl (by kernel_rfl) (by kernel_rfl) (by kernel_rfl) (fun _ _ _ h => h) (Or.inl ⟨by go_simp, fun W hW => by obtain ⟨d0, d1, d2⟩ := C9.out W hW; go_simp⟩) HS ?_
      try simp only [List.getElem_toArray, List.getElem_cons_zero, List.getElem_cons_succ, Act.put, List.setIfInBounds_toArray, List.set_cons_zero, List.set_cons_succ]
      refine wpAnyH_take (i := 2) (v := (.pointer (some ⟨b, o + 1, none⟩))) rfl (by kernel_rfl) (by kernel_rfl) (by kernel_rfl) (fun _ _ _ h => h) (Or.inl ⟨by go_simp, fun W hW => by go_simp⟩) HS ?_
      try simp only [List.getElem_toArray, List.getElem_cons_zero, List.getElem_cons_succ, Act.put, List.setIfInBounds_toArray, List.set_cons_zero, List.set_cons_succ]
      refine wpAnyH_take (i := 3) (v := (.int .u8 (f1 : Int))) rfl (by kernel_rfl) (by kernel_rfl) (by kernel_rfl) (fun _ _ _ h => h) (Or.inl ⟨by go_simp, fun W hW => by obtain ⟨d0, d1, d2⟩ := C9.out W hW; go_simp⟩) HS ?_
      try simp only [List.getElem_toArray, List.getElem_cons_zero, List.getElem_cons_succ, Act.put, List.setIfInBounds_toArray, List.set_cons_zero, List.set_cons_succ]
      refine wpAnyH_take (i := 4) (v := (.int .u8 ((f1 : Int) / 128))) rfl (by kernel_rfl) (by kernel_rfl) (by kernel_rfl) (fun _ _ _ h => h) (Or.inl ⟨by go_simp, fun W hW => by go_simp⟩) HS ?_
      try simp only [List.getElem_toArray, List.getElem_cons_zero, List.getElem_cons_succ, Act.put, List.setIfInBounds_toArray, List.set_cons_zero, List.set_cons_succ]
      refine wpAnyH_take (i := 5) (v := (.bool (onB f1 128))) rfl (by kernel_rfl) (by kernel_rfl) (by kernel_rfl) (fun _ _ _ h => h) (Or.inl ⟨by go_simp, fun W hW => by go_simp⟩) HS ?_
      try simp only [List.getElem_toArray, List.getElem_cons_zero, List.getElem_cons_succ, Act.put, List.setIfInBounds_toArray, List.set_cons_zero, List.set_cons_succ]
      refine wpAnyH_take (i := 6) (v := ?_) rfl (by kernel_rfl) (by kernel_rfl) (by kernel_rfl) (fun _ _ _ h => h) (Or.inl ⟨by go_simp, ?hy⟩) HS ?_
      case hy => intro W hW; go_simp; (try with_reducible rfl)
      try simp only [List.getElem_toArray, List.getElem_cons_zero, List.getElem_cons_succ, Act.put, List.setIfInBounds_toArray, List.set_cons_zero, List.set_cons_succ]
      refine wpAnyH_take (i := 7) (v := (.slice (some ⟨b, o, none⟩) 30 c)) rfl (by kernel_rfl) (by kernel_rfl) (by kernel_rfl) (fun _ _ _ h => h) (Or.inl ⟨by go_simp, fun W hW => by obtain ⟨d0, d1, d2⟩ := C9.out W hW; go_simp⟩) HS ?_
      try simp only [List.getElem_toArray, List.getElem_cons_zero, List.getElem_cons_succ, Act.put, List.setIfInBounds_toArray, List.set_cons_zero, List.set_cons_succ]
      refine wpAnyH_take (i := 8) (v := (.pointer (some ⟨b, o + 1, none⟩))) rfl (by kernel_rfl) (by kernel_rfl) (by kernel_rfl) (fun _ _ _ h => h) (Or.inl ⟨by go_simp, fun W hW => by go_simp⟩) HS ?_
      try simp only [List.getElem_toArray, List.getElem_cons_zero, List.getElem_cons_succ, Act.put, List.setIfInBounds_toArray, List.set_cons_zero, List.set_cons_succ]
      refine wpAnyH_take (i := 9) (v := (.int .u8 (f1 : Int))) rfl (by kernel_rfl) (by kernel_rfl) (by kernel_rfl) (fun _ _ _ h => h) (Or.inl ⟨by go_simp, fun W hW => by obtain ⟨d0, d1, d2⟩ := C9.out W hW; go_simp⟩) HS ?_
      try simp only [List.getElem_toArray, List.getElem_cons_zero, List.getElem_cons_succ, Act.put, List.setIfInBounds_toArray, List.set_cons_zero, List.set_cons_succ]
      refine wpAnyH_take (i := 10) (v := (.int .u8 ((f1 : Int) / 64))) rfl (by kernel_rfl) (by kernel_rfl) (by kernel_rfl) (fun _ _ _ h => h) (Or.inl ⟨by go_simp, fun W hW => by go_simp⟩) HS ?_
      try simp only [List.getElem_toArray, List.getElem_cons_zero, List.getElem_cons_succ, Act.put, List.setIfInBounds_toArray, List.set_cons_zero, List.set_cons_succ]
      refine wpAnyH_take (i := 11) (v := (.int .u8 (((f1 : Int) / 64).tmod 2))) rfl (by kernel_rfl) (by kernel_rfl) (by kernel_rfl) (fun _ _ _ h => h) (Or.inl ⟨by go_simp, fun W hW => by go_simp⟩) HS ?_
      try simp only [List.getElem_toArray, List.getElem_cons_zero, List.getElem_cons_succ, Act.put, List.setIfInBounds_toArray, List.set_cons_zero, List.set_cons_succ]
      refine wpAnyH_take (i := 12) (v := (.bool (onB f1 64))) rfl (by kernel_rfl) (by kernel_rfl) (by kernel_rfl) (fun _ _ _ h => h) (Or.inl ⟨by go_simp, fun W hW => by go_simp⟩) HS ?_
      try simp only [List.getElem_toArray, List.getElem_cons_zero, List.getElem_cons_succ, Act.put, List.setIfInBounds_toArray, List.set_cons_zero, List.set_cons_succ]
      refine wpAnyH_take (i := 13) (v := ?_) rfl (by kernel_rfl) (by kernel_rfl) (by kernel_rfl) (fun _ _ _ h => h) (Or.inl ⟨by go_simp, ?hy⟩) HS ?_
      case hy => intro W hW; go_simp; (try with_reducible rfl)
      try simp only [List.getElem_toArray, List.getElem_cons_zero, List.getElem_cons_succ, Act.put, List.setIfInBounds_toArray, List.set_cons_zero, List.set_cons_succ]
      refine wpAnyH_take (i := 14) (v := (.slice (some ⟨b, o, none⟩) 30 c)) rfl (by kernel_rfl) (by kernel_rfl) (by kernel_rfl) (fun _ _ _ h => h) (Or.inl ⟨by go_simp, fun W hW => by obtain ⟨d0, d1, d2⟩ := C9.out W hW; go_simp⟩) HS ?_
      try simp only [List.getElem_toArray, List.getElem_cons_zero, List.getElem_cons_succ, Act.put, List.setIfInBounds_toArray, List.set_cons_zero, List.set_cons_succ]
      refine wpAnyH_take (i := 15) (v := (.slice (some ⟨b, o + 2, none⟩) (30 - 2) (c - 2))) rfl (by kernel_rfl) (by kernel_rfl) (by kernel_rfl) (fun _ _ _ h => h) (Or.inl ⟨by go_simp, fun W hW => by go_simp⟩) HS ?_
      try simp only [List.getElem_toArray, List.getElem_cons_zero, List.getElem_cons_succ, Act.put, List.setIfInBounds_toArray, List.set_cons_zero, List.set_cons_succ]
      refine wpAnyH_take (i := 17) (v := ?_) rfl (by kernel_rfl) (by kernel_rfl) (by kernel_rfl) (fun _ _ _ h => h) (Or.inl ⟨by go_simp, ?hy⟩) HS ?_
      case hy => intro W hW; go_simp; (try with_reducible rfl)
      try simp only [List.getElem_toArray, List.getElem_cons_zero, List.getElem_cons_succ, Act.put, List.setIfInBounds_toArray, List.set_cons_zero, List.set_cons_succ]
      refine wpAnyH_take (i := 18) (v := (.slice (some ⟨b, o, none⟩) 30 c)) rfl (by kernel_rfl) (by kernel_rfl) (by kernel_rfl) (fun _ _ _ h => h) (Or.inl ⟨by go_simp, fun W hW => by obtain ⟨d0, d1, d2⟩ := C9.out W hW; go_simp⟩) HS ?_
      try simp only [List.getElem_toArray, List.getElem_cons_zero, List.getElem_cons_succ, Act.put, List.setIfInBounds_toArray, List.set_cons_zero, List.set_cons_succ]
      refine wpAnyH_take (i := 19) (v := (.slice (some ⟨b, o + 6, none⟩) (30 - 6) (c - 6))) rfl (by kernel_rfl) (by kernel_rfl) (by kernel_rfl) (fun _ _ _ h => h) (Or.inl ⟨by go_simp, fun W hW => by go_simp⟩) HS ?_
      try simp only [List.getElem_toArray, List.getElem_cons_zero, List.getElem_cons_succ, Act.put, List.setIfInBounds_toArray, List.set_cons_zero, List.set_cons_succ]
      refine wpAnyH_ready (rs := [16, 22]) (by kernel_rfl) (by simp) ?_
      refine AllReadyH.cons rfl (fun K hK => ?_) (AllReadyH.cons rfl (fun K hK => ?_) AllReadyH.nil)
      · rw [if_pos (by kernel_rfl)]
        simp only [List.getElem_toArray, List.getElem_cons_zero, List.getElem_cons_succ]
        go_simp
        refine (HN2.out _ HS).mono ?_
        rintro e w2 ⟨rfl, rfl⟩
        go_simp
        refine hK.out _ _ HS (fun HS => ?_)
        clear hK
        try simp only [List.getElem_toArray, List.getElem_cons_zero, List.getElem_cons_succ, Act.put, List.setIfInBounds_toArray, List.set_cons_zero, List.set_cons_succ]
        refine wpAnyH_ready (rs := [20, 22]) (by kernel_rfl) (by simp) ?_
        refine AllReadyH.cons rfl (fun K hK => ?_) (AllReadyH.cons rfl (fun K hK => ?_) AllReadyH.nil)
        · rw [if_pos (by kernel_rfl)]
          simp only [List.getElem_toArray, List.getElem_cons_zero, List.getElem_cons_succ]
          go_simp
          refine (HN6.out _ HS).mono ?_
          rintro e w2 ⟨rfl, rfl⟩
          go_simp
          refine hK.out _ _ HS (fun HS => ?_)
          clear hK
          try simp only [List.getElem_toArray, List.getElem_cons_zero, List.getElem_cons_succ, Act.put, List.setIfInBounds_toArray, List.set_cons_zero, List.set_cons_succ]
          refine wpAnyH_take (i := 21) (v := (.agg #[.int .u8 0, .int .u8 0, .int .u8 0, .int .u8 0, .int .u8 0, .int .u8 0, .int .u8 0, .int .u8 0, .int .u8 0, .int .u8 0, .int .u8 0, .int .u8 0, .int .u8 0, .int .u8 0, .int .u8 0, .int .u8 0, .int .u8 0, .bool (onB f1 128), .bool (onB f1 64), .int .u32 (va : Int), .int .u32 (pr : Int)])) rfl (by kernel_rfl) (by kernel_rfl) (by kernel_rfl) (fun _ _ _ h => h) (Or.inl ⟨by go_simp, fun W hW => by go_simp⟩) HS ?_
          try simp only [List.getElem_toArray, List.getElem_cons_zero, List.getElem_cons_succ, Act.put, List.setIfInBounds_toArray, List.set_cons_zero, List.set_cons_succ]
          refine wpAnyH_ready (rs := [22]) (by kernel_rfl) (by simp) ?_
          refine AllReadyH.cons rfl (fun K hK => ?_) AllReadyH.nil
          rw [if_pos (by kernel_rfl)]
          simp only [List.getElem_toArray, List.getElem_cons_zero, List.getElem_cons_succ]
          have HA := HS.alloc (Nat.le_refl _) (.cells #[.int .u8 0, .int .u8 0, .int .u8 0, .int .u8 0, .int .u8 0, .int .u8 0, .int .u8 0, .int .u8 0, .int .u8 0, .int .u8 0, .int .u8 0, .int .u8 0, .int .u8 0, .int .u8 0, .int .u8 0, .int .u8 0, .int .u8 0, .bool false, .bool false, .int .u32 0, .int .u32 0] 37)
          go_simp
          refine hK.out _ _ HA (fun HS => ?_)
          clear hK HA
          try simp only [List.getElem_toArray, List.getElem_cons_zero, List.getElem_cons_succ, Act.put, List.setIfInBounds_toArray, List.set_cons_zero, List.set_cons_succ]
          refine wpAnyH_ready (rs := [23]) (by kernel_rfl) (by simp) ?_
          refine AllReadyH.cons rfl (fun K hK => ?_) AllReadyH.nil
          rw [if_pos (by kernel_rfl)]
          simp only [List.getElem_toArray, List.getElem_cons_zero, List.getElem_cons_succ]
          have HB3 := heap_alloc_new V.drew (.cells #[.int .u8 0, .int .u8 0, .int .u8 0, .int .u8 0, .int .u8 0, .int .u8 0, .int .u8 0, .int .u8 0, .int .u8 0, .int .u8 0, .int .u8 0, .int .u8 0, .int .u8 0, .int .u8 0, .int .u8 0, .int .u8 0, .int .u8 0, .bool false, .bool false, .int .u32 0, .int .u32 0] 37)
          have HT := there_blk (o := 0) (n := 21) HB3 (by decide)
          have t := Turned.setCells [.int .u8 0, .int .u8 0, .int .u8 0, .int .u8 0, .int .u8 0, .int .u8 0, .int .u8 0, .int .u8 0, .int .u8 0, .int .u8 0, .int .u8 0, .int .u8 0, .int .u8 0, .int .u8 0, .int .u8 0, .int .u8 0, .int .u8 0, .bool (onB f1 128), .bool (onB f1 64), .int .u32 (va : Int), .int .u32 (pr : Int)] 0 HB3
          refine wp_store_mid 37 _ _ rfl V.heap.size 0 #[.int .u8 0, .int .u8 0, .int .u8 0, .int .u8 0, .int .u8 0, .int .u8 0, .int .u8 0, .int .u8 0, .int .u8 0, .int .u8 0, .int .u8 0, .int .u8 0, .int .u8 0, .int .u8 0, .int .u8 0, .int .u8 0, .int .u8 0, .bool (onB f1 128), .bool (onB f1 64), .int .u32 (va : Int), .int .u32 (pr : Int)] rfl rfl HT HSC.out (by simp [Value.oneCell']) ?_
          refine hK.out _ _ (HS.trans (t.below (Nat.le_refl _))) (fun HS => ?_)
          clear hK
          try simp only [List.getElem_toArray, List.getElem_cons_zero, List.getElem_cons_succ, Act.put, List.setIfInBounds_toArray, List.set_cons_zero, List.set_cons_succ]
          refine wpAnyH_done (by kernel_rfl) ?_ _
          go_wp2_with fail
          go_meet
          case rel => exact ⟨by rw [HQ2.out], by rw [HQ2.out]; exact t.get (lt_of_blk HB3), HS, t.size.trans (by rw [HQ2.out]; simp)⟩
        · rw [if_pos (by kernel_rfl)]
          simp only [List.getElem_toArray, List.getElem_cons_zero, List.getElem_cons_succ]
          have HA := HS.alloc (Nat.le_refl _) (.cells #[.int .u8 0, .int .u8 0, .int .u8 0, .int .u8 0, .int .u8 0, .int .u8 0, .int .u8 0, .int .u8 0, .int .u8 0, .int .u8 0, .int .u8 0, .int .u8 0, .int .u8 0, .int .u8 0, .int .u8 0, .int .u8 0, .int .u8 0, .bool false, .bool false, .int .u32 0, .int .u32 0] 37)
          go_simp
          refine hK.out _ _ HA (fun HS => ?_)
          clear hK HA
          try simp only [List.getElem_toArray, List.getElem_cons_zero, List.getElem_cons_succ, Act.put, List.setIfInBounds_toArray, List.set_cons_zero, List.set_cons_succ]
          refine wpAnyH_ready (rs := [20]) (by kernel_rfl) (by simp) ?_
          refine AllReadyH.cons rfl (fun K hK => ?_) AllReadyH.nil
          rw [if_pos (by kernel_rfl)]
          simp only [List.getElem_toArray, List.getElem_cons_zero, List.getElem_cons_succ]
          go_simp
          refine (HN6.out _ HS).mono ?_
          rintro e w2 ⟨rfl, rfl⟩
          go_simp
          refine hK.out _ _ HS (fun HS => ?_)
          clear hK
          try simp only [List.getElem_toArray, List.getElem_cons_zero, List.getElem_cons_succ, Act.put, List.setIfInBounds_toArray, List.set_cons_zero, List.set_cons_succ]
          refine wpAnyH_take (i := 21) (v := (.agg #[.int .u8 0, .int .u8 0, .int .u8 0, .int .u8 0, .int .u8 0, .int .u8 0, .int .u8 0, .int .u8 0, .int .u8 0, .int .u8 0, .int .u8 0, .int .u8 0, .int .u8 0, .int .u8 0, .int .u8 0, .int .u8 0, .int .u8 0, .bool (onB f1 128), .bool (onB f1 64), .int .u32 (va : Int), .int .u32 (pr : Int)])) rfl (by kernel_rfl) (by kernel_rfl) (by kernel_rfl) (fun _ _ _ h => h) (Or.inl ⟨by go_simp, fun W hW => by go_simp⟩) HS ?_
          try simp only [List.getElem_toArray, List.getElem_cons_zero, List.getElem_cons_succ, Act.put, List.setIfInBounds_toArray, List.set_cons_zero, List.set_cons_succ]
          refine wpAnyH_ready (rs := [23]) (by kernel_rfl) (by simp) ?_
          refine AllReadyH.cons rfl (fun K hK => ?_) AllReadyH.nil
          rw [if_pos (by kernel_rfl)]
          simp only [List.getElem_toArray, List.getElem_cons_zero, List.getElem_cons_succ]
          have HB3 := heap_alloc_new V.drew (.cells #[.int .u8 0, .int .u8 0, .int .u8 0, .int .u8 0, .int .u8 0, .int .u8 0, .int .u8 0, .int .u8 0, .int .u8 0, .int .u8 0, .int .u8 0, .int .u8 0, .int .u8 0, .int .u8 0, .int .u8 0, .int .u8 0, .int .u8 0, .bool false, .bool false, .int .u32 0, .int .u32 0] 37)
          have HT := there_blk (o := 0) (n := 21) HB3 (by decide)
          have t := Turned.setCells [.int .u8 0, .int .u8 0, .int .u8 0, .int .u8 0, .int .u8 0, .int .u8 0, .int .u8 0, .int .u8 0, .int .u8 0, .int .u8 0, .int .u8 0, .int .u8 0, .int .u8 0, .int .u8 0, .int .u8 0, .int .u8 0, .int .u8 0, .bool (onB f1 128), .bool (onB f1 64), .int .u32 (va : Int), .int .u32 (pr : Int)] 0 HB3
          refine wp_store_mid 37 _ _ rfl V.heap.size 0 #[.int .u8 0, .int .u8 0, .int .u8 0, .int .u8 0, .int .u8 0, .int .u8 0, .int .u8 0, .int .u8 0, .int .u8 0, .int .u8 0, .int .u8 0, .int .u8 0, .int .u8 0, .int .u8 0, .int .u8 0, .int .u8 0, .int .u8 0, .bool (onB f1 128), .bool (onB f1 64), .int .u32 (va : Int), .int .u32 (pr : Int)] rfl rfl HT HSC.out (by simp [Value.oneCell']) ?_
          refine hK.out _ _ (HS.trans (t.below (Nat.le_refl _))) (fun HS => ?_)
          clear hK
          try simp only [List.getElem_toArray, List.getElem_cons_zero, List.getElem_cons_succ, Act.put, List.setIfInBounds_toArray, List.set_cons_zero, List.set_cons_succ]
          refine wpAnyH_done (by kernel_rfl) ?_ _
          go_wp2_with fail
          go_meet
          case rel => exact ⟨by rw [HQ2.out], by rw [HQ2.out]; exact t.get (lt_of_blk HB3), HS, t.size.trans (by rw [HQ2.out]; simp)⟩
      · rw [if_pos (by kernel_rfl)]
        simp only [List.getElem_toArray, List.getElem_cons_zero, List.getElem_cons_succ]
        have HA := HS.alloc (Nat.le_refl _) (.cells #[.int .u8 0, .int .u8 0, .int .u8 0, .int .u8 0, .int .u8 0, .int .u8 0, .int .u8 0, .int .u8 0, .int .u8 0, .int .u8 0, .int .u8 0, .int .u8 0, .int .u8 0, .int .u8 0, .int .u8 0, .int .u8 0, .int .u8 0, .bool false, .bool false, .int .u32 0, .int .u32 0] 37)
        go_simp
        refine hK.out _ _ HA (fun HS => ?_)
        clear hK HA
        try simp only [List.getElem_toArray, List.getElem_cons_zero, List.getElem_cons_succ, Act.put, List.setIfInBounds_toArray, List.set_cons_zero, List.set_cons_succ]
        refine wpAnyH_ready (rs := [16]) (by kernel_rfl) (by simp) ?_
        refine AllReadyH.cons rfl (fun K hK => ?_) AllReadyH.nil
        rw [if_pos (by kernel_rfl)]
        simp only [List.getElem_toArray, List.getElem_cons_zero, List.getElem_cons_succ]
        go_simp
        refine (HN2.out _ HS).mono ?_
        rintro e w2 ⟨rfl, rfl⟩
        go_simp
        refine hK.out _ _ HS (fun HS => ?_)
        clear hK
        try simp only [List.getElem_toArray, List.getElem_cons_zero, List.getElem_cons_succ, Act.put, List.setIfInBounds_toArray, List.set_cons_zero, List.set_cons_succ]
        refine wpAnyH_ready (rs := [20]) (by kernel_rfl) (by simp) ?_
        refine AllReadyH.cons rfl (fun K hK => ?_) AllReadyH.nil
        rw [if_pos (by kernel_rfl)]
        simp only [List.getElem_toArray, List.getElem_cons_zero, List.getElem_cons_succ]
        go_simp
        refine (HN6.out _ HS).mono ?_
        rintro e w2 ⟨rfl, rfl⟩
        go_simp
        refine hK.out _ _ HS (fun HS => ?_)
        clear hK
        try simp only [List.getElem_toArray, List.getElem_cons_zero, List.getElem_cons_succ, Act.put, List.setIfInBounds_toArray, List.set_cons_zero, List.set_cons_succ]
        refine wpAnyH_take (i := 21) (v := (.agg #[.int .u8 0, .int .u8 0, .int .u8 0, .int .u8 0, .int .u8 0, .int .u8 0, .int .u8 0, .int .u8 0, .int .u8 0, .int .u8 0, .int .u8 0, .int .u8 0, .int .u8 0, .int .u8 0, .int .u8 0, .int .u8 0, .int .u8 0, .bool (onB f1 128), .bool (onB f1 64), .int .u32 (va : Int), .int .u32 (pr : Int)])) rfl (by kernel_rfl) (by kernel_rfl) (by kernel_rfl) (fun _ _ _ h => h) (Or.inl ⟨by go_simp, fun W hW => by go_simp⟩) HS ?_
        try simp only [List.getElem_toArray, List.getElem_cons_zero, List.getElem_cons_succ, Act.put, List.setIfInBounds_toArray, List.set_cons_zero, List.set_cons_succ]
        refine wpAnyH_ready (rs := [23]) (by kernel_rfl) (by simp) ?_
        refine AllReadyH.cons rfl (fun K hK => ?_) AllReadyH.nil
        rw [if_pos (by kernel_rfl)]
        simp only [List.getElem_toArray, List.getElem_cons_zero, List.getElem_cons_succ]
        have HB3 := heap_alloc_new V.drew (.cells #[.int .u8 0, .int .u8 0, .int .u8 0, .int .u8 0, .int .u8 0, .int .u8 0, .int .u8 0, .int .u8 0, .int .u8 0, .int .u8 0, .int .u8 0, .int .u8 0, .int .u8 0, .int .u8 0, .int .u8 0, .int .u8 0, .int .u8 0, .bool false, .bool false, .int .u32 0, .int .u32 0] 37)
        have HT := there_blk (o := 0) (n := 21) HB3 (by decide)
        have t := Turned.setCells [.int .u8 0, .int .u8 0, .int .u8 0, .int .u8 0, .int .u8 0, .int .u8 0, .int .u8 0, .int .u8 0, .int .u8 0, .int .u8 0, .int .u8 0, .int .u8 0, .int .u8 0, .int .u8 0, .int .u8 0, .int .u8 0, .int .u8 0, .bool (onB f1 128), .bool (onB f1 64), .int .u32 (va : Int), .int .u32 (pr : Int)] 0 HB3
        refine wp_store_mid 37 _ _ rfl V.heap.size 0 #[.int .u8 0, .int .u8 0, .int .u8 0, .int .u8 0, .int .u8 0, .int .u8 0, .int .u8 0, .int .u8 0, .int .u8 0, .int .u8 0, .int .u8 0, .int .u8 0, .int .u8 0, .int .u8 0, .int .u8 0, .int .u8 0, .int .u8 0, .bool (onB f1 128), .bool (onB f1 64), .int .u32 (va : Int), .int .u32 (pr : Int)] rfl rfl HT HSC.out (by simp [Value.oneCell']) ?_
        refine hK.out _ _ (HS.trans (t.below (Nat.le_refl _))) (fun HS => ?_)
        clear hK
        try simp only [List.getElem_toArray, List.getElem_cons_zero, List.getElem_cons_succ, Act.put, List.setIfInBounds_toArray, List.set_cons_zero, List.set_cons_succ]
        refine wpAnyH_done (by kernel_rfl) ?_ _
        go_wp2_with fail
        go_meet
        case rel => exact ⟨by rw [HQ2.out], by rw [HQ2.out]; exact t.get (lt_of_blk HB3), HS, t.size.trans (by rw [HQ2.out]; simp)⟩
    case rest =>
      obtain ⟨rfl, P⟩ := hcut
      obtain ⟨W, hW⟩ : ∃ W, W = wc.alloc (.cells #[.int .u8 0, .int .u8 0, .int .u8 0, .int .u8 0, .int .u8 0, .int .u8 0, .int .u8 0, .int .u8 0, .int .u8 0, .int .u8 0, .int .u8 0, .int .u8 0, .int .u8 0, .int .u8 0, .int .u8 0, .int .u8 0] 32) := ⟨_, rfl⟩
      obtain ⟨q3, hq3⟩ : ∃ q, q = q2 + 1 := ⟨_, rfl⟩
      have hb3 : W.heap[q3]? = some (.cells #[.int .u8 0, .int .u8 0, .int .u8 0, .int .u8 0, .int .u8 0, .int .u8 0, .int .u8 0, .int .u8 0, .int .u8 0, .int .u8 0, .int .u8 0, .int .u8 0, .int .u8 0, .int .u8 0, .int .u8 0, .int .u8 0] 32 (0, 0)) := by rw [hW, hq3, ← P.size, heap_alloc_new]
      have hWB : Below V.heap.size V W := by rw [hW]; exact P.below.alloc (by rw [P.size, HQ2.out]; omega) _
      have hb2 : W.heap[q2]? = some (.cells #[.int .u8 0, .int .u8 0, .int .u8 0, .int .u8 0, .int .u8 0, .int .u8 0, .int .u8 0, .int .u8 0, .int .u8 0, .int .u8 0, .int .u8 0, .int .u8 0, .int .u8 0, .int .u8 0, .int .u8 0, .int .u8 0, .int .u8 0, .bool (onB f1 128), .bool (onB f1 64), .int .u32 (va : Int), .int .u32 (pr : Int)] 37 (0, 0)) := by rw [hW, heap_alloc_old _ _ (lt_of_blk P.blk)]; exact P.blk
      have HP := Lib.hid P; have HW3 := Lib.hid hb3; have HWB := Lib.hid hWB; have HW2 := Lib.hid hb2; have HQ3 := Lib.hid hq3
      clear P hb3 hWB hb2
      go_upto_region 5 with (fail)
      rw [← hW, HP.out.size, ← hq3]
      clear hW hq3
      have hS : W.drew.heap[w.heap.size]? = some (.cells #[.int .u8 (kd : Int), .slice (some ⟨b, o, none⟩) 30 c] 24 (0, 0)) := (HWB.out.block _ (lt_of_blk HB1.out)).trans HB1.out
      have hlt3 : w.heap.size < q3 := by rw [HQ3.out, HQ2.out, HS1.out]; omega
      have HL3 := Lib.hid hlt3
      have hr14 := HR14.out W HWB.out
      have hcp := copy_all (c := c - 14) (m := 16) (w := W.drew) HW3.out rfl (by rw [List.length_drop, HN.out]; decide) hr14 (by decide)
      rw [List.length_drop, HN.out, hrow.out] at hcp
      have HCP := Lib.hid hcp
      obtain ⟨W5, hW5⟩ : ∃ W5, W5 = W.drew.setRow q3 (adrCells (adrOf l)) := ⟨_, rfl⟩
      have t5 := Turned.setRow (w := W.drew) HW3.out (adrCells (adrOf l))
      rw [← hW5] at t5
      have h53 := t5.get (lt_of_blk HW3.out)
      have h52 := t5.keep HW2.out (by rw [HQ3.out]; omega)
      have h51 := t5.keep hS (by omega)
      have h5B : Below V.heap.size V W5 := HWB.out.drew.trans (t5.below (B := V.heap.size) (by have e3 := HQ3.out; have e2 := HQ2.out; omega))
      have G3 := Lib.hid h53; have G2 := Lib.hid h52; have G1 := Lib.hid h51; have GB := Lib.hid h5B
      clear h53 h52 h51 h5B t5 hr14 hcp hlt3
      refine wp_region_held_drew (S := fun W => W.heap[w.heap.size]? = some (.cells #[.int .u8 (kd : Int), .slice (some ⟨b, o, none⟩) 30 c] 24 (0, 0))) (by kernel_rfl) hS ?_
      clear hS
      intro HS
      refine wpAnyH_take (i := 0) (v := ?_) rfl (by kernel_rfl) (by kernel_rfl) (by kernel_rfl) (fun _ _ _ h => h) (Or.inl ⟨by go_simp, ?hy⟩) HS ?_
      case hy => intro W hW; go_simp; (try with_reducible rfl)
      try simp only [List.getElem_toArray, List.getElem_cons_zero, List.getElem_cons_succ, Act.put, List.setIfInBounds_toArray, List.set_cons_zero, List.set_cons_succ]
      refine wpAnyH_take (i := 1) (v := ?_) rfl (by kernel_rfl) (by kernel_rfl) (by kernel_rfl) (fun _ _ _ h => h) (Or.inl ⟨by go_simp, ?hy⟩) HS ?_
      case hy => intro W hW; go_simp; (try with_reducible rfl)
      try simp only [List.getElem_toArray, List.getElem_cons_zero, List.getElem_cons_succ, Act.put, List.setIfInBounds_toArray, List.set_cons_zero, List.set_cons_succ]
      refine wpAnyH_take (i := 2) (v := (.slice (some ⟨b, o, none⟩) 30 c)) rfl (by kernel_rfl) (by kernel_rfl) (by kernel_rfl) (fun _ _ _ h => h) (Or.inl ⟨by go_simp, fun W hW => by have d := cell_blk hW 1; simp only [List.getElem?_toArray, List.getElem?_cons_zero, List.getElem?_cons_succ] at d; go_simp⟩) HS ?_
      try simp only [List.getElem_toArray, List.getElem_cons_zero, List.getElem_cons_succ, Act.put, List.setIfInBounds_toArray, List.set_cons_zero, List.set_cons_succ]
      refine wpAnyH_take (i := 3) (v := (.slice (some ⟨b, o + 14, none⟩) (30 - 14) (c - 14))) rfl (by kernel_rfl) (by kernel_rfl) (by kernel_rfl) (fun _ _ _ h => h) (Or.inl ⟨by go_simp, fun W hW => by go_simp⟩) HS ?_
      try simp only [List.getElem_toArray, List.getElem_cons_zero, List.getElem_cons_succ, Act.put, List.setIfInBounds_toArray, List.set_cons_zero, List.set_cons_succ]
      refine wpAnyH_ready (rs := [4]) (by kernel_rfl) (by simp) ?_
      refine AllReadyH.cons rfl (fun K hK => ?_) AllReadyH.nil
      rw [if_pos (by kernel_rfl)]
      simp only [List.getElem_toArray, List.getElem_cons_zero, List.getElem_cons_succ]
      refine Lib.wp_copy_run _ _ _ 22 22 rfl _ _ rfl rfl HCP.out ?_
      rw [← hW5]
      refine hK.out _ _ G1.out (fun HS => ?_)
      clear hK
      try simp only [List.getElem_toArray, List.getElem_cons_zero, List.getElem_cons_succ, Act.put, List.setIfInBounds_toArray, List.set_cons_zero, List.set_cons_succ]
      refine wpAnyH_done (by kernel_rfl) ?_ _
      clear hW5 HCP HS
      obtain ⟨d0, d1, d2⟩ := C9.out W5 GB.out
      have d16 := cell_blk G2.out 16
      simp only [List.getElem?_toArray, List.getElem?_cons_zero, List.getElem?_cons_succ] at d16
      have f16 := frozen_blk G2.out 16
      obtain ⟨W6, hW6⟩ : ∃ W6, W6 = W5.setCell ⟨q2, 16, none⟩ (.int .u8 (x0 : Int)) := ⟨_, rfl⟩
      have t6 := Turned.setCell G2.out 16 (.int .u8 (x0 : Int))
      rw [← hW6] at t6
      have h62 : W6.heap[q2]? = some (.cells #[.int .u8 0, .int .u8 0, .int .u8 0, .int .u8 0, .int .u8 0, .int .u8 0, .int .u8 0, .int .u8 0, .int .u8 0, .int .u8 0, .int .u8 0, .int .u8 0, .int .u8 0, .int .u8 0, .int .u8 0, .int .u8 0, .int .u8 (x0 : Int), .bool (onB f1 128), .bool (onB f1 64), .int .u32 (va : Int), .int .u32 (pr : Int)] 37 (0, 0)) := t6.get (lt_of_blk G2.out)
      have h63 := t6.keep G3.out (by have e3 := HQ3.out; omega)
      have h61 := t6.keep G1.out (by have e2 := HQ2.out; have e3 := HS1.out; omega)
      have h6B : Below V.heap.size V W6 := GB.out.trans (t6.below (B := V.heap.size) (by have e2 := HQ2.out; omega))
      have M2 := Lib.hid h62; have M3 := Lib.hid h63; have M1 := Lib.hid h61; have MB := Lib.hid h6B
      have HM37 := Lib.hid (fun W => mask37 (adrOf l) x0 W hadr.out (by omega))
      clear h62 h63 h61 h6B t6
      go_upto_region 7 with (fail)
      rw [← hW6]
      clear hW6 d0 d1 d2 d16 f16
      have HROW : Hid (∀ W : World, W.heap[q3]? = some (.cells (adrCells (adrOf l)) 32 (0, 0)) → W.rangeAt q3 0 (adrL (adrOf l))) := Lib.hid (fun W h j v hj => by rw [Nat.zero_add]; exact (cell_blk h j).trans (by simpa [adrCells] using hj))
      have HAL := Lib.hid (adrL_length (adrOf l))
      have HSZ := Lib.hid (show (Tryz.prog.info? 32).map (·.size) = some 16 by kernel_rfl)
      have HMA : Hid (adrCells (masked (adrOf l) x0) = #[.int .u8 ((masked (adrOf l) x0) 0 : Int), .int .u8 ((masked (adrOf l) x0) 1 : Int), .int .u8 ((masked (adrOf l) x0) 2 : Int), .int .u8 ((masked (adrOf l) x0) 3 : Int), .int .u8 ((masked (adrOf l) x0) 4 : Int), .int .u8 ((masked (adrOf l) x0) 5 : Int), .int .u8 ((masked (adrOf l) x0) 6 : Int), .int .u8 ((masked (adrOf l) x0) 7 : Int), .int .u8 ((masked (adrOf l) x0) 8 : Int), .int .u8 ((masked (adrOf l) x0) 9 : Int), .int .u8 ((masked (adrOf l) x0) 10 : Int), .int .u8 ((masked (adrOf l) x0) 11 : Int), .int .u8 ((masked (adrOf l) x0) 12 : Int), .int .u8 ((masked (adrOf l) x0) 13 : Int), .int .u8 ((masked (adrOf l) x0) 14 : Int), .int .u8 ((masked (adrOf l) x0) 15 : Int)]) := Lib.hid rfl
      have hS : PR V q3 w.heap.size kd b o c (adrCells (adrOf l)) W6.drew := ⟨M3.out, M1.out, MB.out.drew⟩
      refine wp_region_held_drew (S := fun W => PR V q3 w.heap.size kd b o c (adrCells (adrOf l)) W) (by kernel_rfl) hS ?_
      clear hS
      intro HS
      refine wpAnyH_take (i := 0) (v := .agg (adrCells (adrOf l))) rfl (by kernel_rfl) (by kernel_rfl) (by kernel_rfl) (fun _ _ _ h => h) (by refine yieldsIf_load_mid ?_ 32 (.tmp 5) rfl q3 0 ?_ (adrL (adrOf l)) _ (fun W hW => HROW.out W hW.row) Tryz.underlying32 rfl (by rw [HAL.out]; exact HSZ.out); (go_simp); (go_simp)) HS ?_
      try simp only [List.getElem_toArray, List.getElem_cons_zero, List.getElem_cons_succ, Act.put, List.setIfInBounds_toArray, List.set_cons_zero, List.set_cons_succ]
      refine wpAnyH_take (i := 1) (v := ?_) rfl (by kernel_rfl) (by kernel_rfl) (by kernel_rfl) (fun _ _ _ h => h) (Or.inl ⟨by go_simp, ?hy⟩) HS ?_
      case hy => intro W hW; go_simp; (try with_reducible rfl)
      try simp only [List.getElem_toArray, List.getElem_cons_zero, List.getElem_cons_succ, Act.put, List.setIfInBounds_toArray, List.set_cons_zero, List.set_cons_succ]
      refine wpAnyH_take (i := 2) (v := (.slice (some ⟨b, o, none⟩) 30 c)) rfl (by kernel_rfl) (by kernel_rfl) (by kernel_rfl) (fun _ _ _ h => h) (Or.inl ⟨by go_simp, fun W hW => by obtain ⟨d0, d1, d2⟩ := C9.out W hW.below; go_simp⟩) HS ?_
      try simp only [List.getElem_toArray, List.getElem_cons_zero, List.getElem_cons_succ, Act.put, List.setIfInBounds_toArray, List.set_cons_zero, List.set_cons_succ]
      refine wpAnyH_take (i := 3) (v := (.pointer (some ⟨b, o, none⟩))) rfl (by kernel_rfl) (by kernel_rfl) (by kernel_rfl) (fun _ _ _ h => h) (Or.inl ⟨by go_simp, fun W hW => by go_simp⟩) HS ?_
      try simp only [List.getElem_toArray, List.getElem_cons_zero, List.getElem_cons_succ, Act.put, List.setIfInBounds_toArray, List.set_cons_zero, List.set_cons_succ]
      refine wpAnyH_take (i := 4) (v := (.int .u8 (x0 : Int))) rfl (by kernel_rfl) (by kernel_rfl) (by kernel_rfl) (fun _ _ _ h => h) (Or.inl ⟨by go_simp, fun W hW => by obtain ⟨d0, d1, d2⟩ := C9.out W hW.below; go_simp⟩) HS ?_
      try simp only [List.getElem_toArray, List.getElem_cons_zero, List.getElem_cons_succ, Act.put, List.setIfInBounds_toArray, List.set_cons_zero, List.set_cons_succ]
      refine wpAnyH_ready (rs := [5]) (by kernel_rfl) (by simp) ?_
      refine AllReadyH.cons rfl (fun K hK => ?_) AllReadyH.nil
      rw [if_pos (by kernel_rfl)]
      simp only [List.getElem_toArray, List.getElem_cons_zero, List.getElem_cons_succ]
      go_simp
      refine (HM37.out _).mono ?_
      rintro e w2 ⟨rfl, hb2⟩
      have K2 := Lib.hid ((hb2.block _ (lt_of_blk M2.out)).trans M2.out)
      have KS := HS.step hb2
      go_simp
      refine hK.out _ _ KS (fun HS => ?_)
      clear hK KS hb2
      try simp only [List.getElem_toArray, List.getElem_cons_zero, List.getElem_cons_succ, Act.put, List.setIfInBounds_toArray, List.set_cons_zero, List.set_cons_succ]
      refine wpAnyH_take (i := 6) (v := ?_) rfl (by kernel_rfl) (by kernel_rfl) (by kernel_rfl) (fun _ _ _ h => h) (Or.inl ⟨by go_simp, ?hy⟩) HS ?_
      case hy => intro W hW; go_simp; (try with_reducible rfl)
      try simp only [List.getElem_toArray, List.getElem_cons_zero, List.getElem_cons_succ, Act.put, List.setIfInBounds_toArray, List.set_cons_zero, List.set_cons_succ]
      refine wpAnyH_take (i := 7) (v := ?_) rfl (by kernel_rfl) (by kernel_rfl) (by kernel_rfl) (fun _ _ _ h => h) (Or.inl ⟨by go_simp, ?hy⟩) HS ?_
      case hy => intro W hW; go_simp; (try with_reducible rfl)
      try simp only [List.getElem_toArray, List.getElem_cons_zero, List.getElem_cons_succ, Act.put, List.setIfInBounds_toArray, List.set_cons_zero, List.set_cons_succ]
      refine wpAnyH_ready (rs := [8]) (by kernel_rfl) (by simp) ?_
      refine AllReadyH.cons rfl (fun K hK => ?_) AllReadyH.nil
      rw [if_pos (by kernel_rfl)]
      simp only [List.getElem_toArray, List.getElem_cons_zero, List.getElem_cons_succ]
      have HT := there_blk (o := 0) (n := 16) K2.out (show 0 + 16 ≤ 21 by decide)
      have t := Turned.setCells [.int .u8 ((masked (adrOf l) x0) 0 : Int), .int .u8 ((masked (adrOf l) x0) 1 : Int), .int .u8 ((masked (adrOf l) x0) 2 : Int), .int .u8 ((masked (adrOf l) x0) 3 : Int), .int .u8 ((masked (adrOf l) x0) 4 : Int), .int .u8 ((masked (adrOf l) x0) 5 : Int), .int .u8 ((masked (adrOf l) x0) 6 : Int), .int .u8 ((masked (adrOf l) x0) 7 : Int), .int .u8 ((masked (adrOf l) x0) 8 : Int), .int .u8 ((masked (adrOf l) x0) 9 : Int), .int .u8 ((masked (adrOf l) x0) 10 : Int), .int .u8 ((masked (adrOf l) x0) 11 : Int), .int .u8 ((masked (adrOf l) x0) 12 : Int), .int .u8 ((masked (adrOf l) x0) 13 : Int), .int .u8 ((masked (adrOf l) x0) 14 : Int), .int .u8 ((masked (adrOf l) x0) 15 : Int)] 0 K2.out
      refine wp_store_mid 32 _ _ rfl q2 0 #[.int .u8 ((masked (adrOf l) x0) 0 : Int), .int .u8 ((masked (adrOf l) x0) 1 : Int), .int .u8 ((masked (adrOf l) x0) 2 : Int), .int .u8 ((masked (adrOf l) x0) 3 : Int), .int .u8 ((masked (adrOf l) x0) 4 : Int), .int .u8 ((masked (adrOf l) x0) 5 : Int), .int .u8 ((masked (adrOf l) x0) 6 : Int), .int .u8 ((masked (adrOf l) x0) 7 : Int), .int .u8 ((masked (adrOf l) x0) 8 : Int), .int .u8 ((masked (adrOf l) x0) 9 : Int), .int .u8 ((masked (adrOf l) x0) 10 : Int), .int .u8 ((masked (adrOf l) x0) 11 : Int), .int .u8 ((masked (adrOf l) x0) 12 : Int), .int .u8 ((masked (adrOf l) x0) 13 : Int), .int .u8 ((masked (adrOf l) x0) 14 : Int), .int .u8 ((masked (adrOf l) x0) 15 : Int)] rfl rfl HT HSZ.out (by simp [Value.oneCell']) ?_
      have KS := HS.turn t (by have e3 := HQ3.out; omega) (by have e2 := HQ2.out; have e3 := HS1.out; omega) (by have e2 := HQ2.out; omega)
      have K3 := Lib.hid (t.get (lt_of_blk K2.out))
      refine hK.out _ _ KS (fun HS => ?_)
      clear hK KS t HT
      try simp only [List.getElem_toArray, List.getElem_cons_zero, List.getElem_cons_succ, Act.put, List.setIfInBounds_toArray, List.set_cons_zero, List.set_cons_succ]
      refine wpAnyH_done (by kernel_rfl) ?_ _
      obtain ⟨W8, hW8⟩ : ∃ W8, W8 = w2.setCells q2 0 [.int .u8 ((masked (adrOf l) x0) 0 : Int), .int .u8 ((masked (adrOf l) x0) 1 : Int), .int .u8 ((masked (adrOf l) x0) 2 : Int), .int .u8 ((masked (adrOf l) x0) 3 : Int), .int .u8 ((masked (adrOf l) x0) 4 : Int), .int .u8 ((masked (adrOf l) x0) 5 : Int), .int .u8 ((masked (adrOf l) x0) 6 : Int), .int .u8 ((masked (adrOf l) x0) 7 : Int), .int .u8 ((masked (adrOf l) x0) 8 : Int), .int .u8 ((masked (adrOf l) x0) 9 : Int), .int .u8 ((masked (adrOf l) x0) 10 : Int), .int .u8 ((masked (adrOf l) x0) 11 : Int), .int .u8 ((masked (adrOf l) x0) 12 : Int), .int .u8 ((masked (adrOf l) x0) 13 : Int), .int .u8 ((masked (adrOf l) x0) 14 : Int), .int .u8 ((masked (adrOf l) x0) 15 : Int)] := ⟨_, rfl⟩
      rw [← hW8] at K3 HS ⊢
      clear hW8
      have n2 : W8.heap[q2]? = some (.cells #[.int .u8 ((masked (adrOf l) x0) 0 : Int), .int .u8 ((masked (adrOf l) x0) 1 : Int), .int .u8 ((masked (adrOf l) x0) 2 : Int), .int .u8 ((masked (adrOf l) x0) 3 : Int), .int .u8 ((masked (adrOf l) x0) 4 : Int), .int .u8 ((masked (adrOf l) x0) 5 : Int), .int .u8 ((masked (adrOf l) x0) 6 : Int), .int .u8 ((masked (adrOf l) x0) 7 : Int), .int .u8 ((masked (adrOf l) x0) 8 : Int), .int .u8 ((masked (adrOf l) x0) 9 : Int), .int .u8 ((masked (adrOf l) x0) 10 : Int), .int .u8 ((masked (adrOf l) x0) 11 : Int), .int .u8 ((masked (adrOf l) x0) 12 : Int), .int .u8 ((masked (adrOf l) x0) 13 : Int), .int .u8 ((masked (adrOf l) x0) 14 : Int), .int .u8 ((masked (adrOf l) x0) 15 : Int), .int .u8 (x0 : Int), .bool (onB f1 128), .bool (onB f1 64), .int .u32 (va : Int), .int .u32 (pr : Int)] 37 (0, 0)) := by
        have k3 := K3.out
        simp only [overW, Nat.reduceAdd, Nat.zero_add, List.setIfInBounds_toArray, List.set_cons_zero, List.set_cons_succ] at k3
        exact k3
      rw [← HPC.out] at n2
      have N2 := Lib.hid n2
      have h81 : W8.heap[q1]? = some (.cells #[.int .u8 0, .int .u8 0, .int .u8 0, .int .u8 0, .int .u8 0, .int .u8 0, .int .u8 0, .int .u8 0, .int .u8 0, .int .u8 0, .int .u8 0, .int .u8 0, .int .u8 0, .int .u8 0, .int .u8 0, .int .u8 0, .int .u8 0, .bool false, .bool false, .int .u32 0, .int .u32 0] 37 (0, 0)) := (HS.below.block _ (lt_of_blk HB2.out)).trans HB2.out
      have N1 := Lib.hid h81
      have NB := Lib.hid HS.below
      have HS37 := Lib.hid (show (Tryz.prog.info? 37).map (·.size) = some 21 by kernel_rfl)
      have HSF : Hid ((Tryz.prog.info? 37).map (·.size) = some PC.size) := Lib.hid (by rw [HS37.out, HPC.out]; rfl)
      have HPO : Hid (PC.all (·.oneCell') = true) := Lib.hid (by rw [HPC.out]; simp [Value.oneCell'])
      have HPZ : Hid (PC.size = (#[.int .u8 0, .int .u8 0, .int .u8 0, .int .u8 0, .int .u8 0, .int .u8 0, .int .u8 0, .int .u8 0, .int .u8 0, .int .u8 0, .int .u8 0, .int .u8 0, .int .u8 0, .int .u8 0, .int .u8 0, .int .u8 0, .int .u8 0, .bool false, .bool false, .int .u32 0, .int .u32 0] : Array Value).size) := Lib.hid (by rw [HPC.out]; rfl)
      clear h81 HS n2 K3
      go_wp2_with (first | (refine wpList_load_row rfl 37 _ rfl q2 rfl 37 _ (0, 0) _ N2.out Tryz.underlying37 rfl HSF.out ?_) | (refine wpList_store_row rfl 37 _ _ rfl q1 PC rfl rfl 37 _ N1.out HSF.out (by first | exact HPZ.out | exact HPZ.out.symm) HPO.out ?_))
      have t := Turned.setRow N1.out PC
      refine bodyPost_ret (results_row_tmp Tryz.results9 _ _ q1 37 _ (0, 0) _ rfl (t.get (lt_of_blk N1.out)) Tryz.underlying37 rfl HSF.out) rfl ⟨rfl, (HBV.out.trans (NB.out.mono HBV.out.size)).trans (t.below (by rw [HQ1.out]; omega))⟩
  · rw [if_neg hok, decide_eq_false hok]
    have HOK := Lib.hid hok
    clear hok
    have key : ((kd : Int) != 3) = true ∨ ((kd : Int) != 3) = false ∧ (((n : Int) != 30) = true ∨ ((n : Int) != 30) = false ∧ ∃ b o x, A = some ⟨b, o, none⟩ ∧ V.cell? ⟨b, o, none⟩ = some (.int .u8 (x : Nat)) ∧ (128 : Int) < x ∧ (0 : Int) < (n : Int)) := by
      have h0 := HOK.out
      by_cases k1 : kd = 3
      · right
        refine ⟨by rw [bne_eq_false_iff_eq]; omega, ?_⟩
        by_cases k2 : n = 30
        · right
          refine ⟨by rw [bne_eq_false_iff_eq]; omega, ?_⟩
          obtain ⟨x, hx⟩ : ∃ x, l[0]? = some x := ⟨l[0]'(by rw [HN.out]; omega), List.getElem?_eq_getElem _⟩
          obtain ⟨b, o, e, hb, hc⟩ := HR.out (by rintro rfl; simp at hx)
          refine ⟨b, o, x, e, by simpa using hc 0 x hx, ?_, by omega⟩
          rw [num_one hx] at h0
          have : ¬ x ≤ 128 := fun h => h0 ⟨k2, by simp [k1, h]⟩
          omega
        · left; rw [bne_iff_ne]; omega
      · left; rw [bne_iff_ne]; omega
    go_enter Tryz.func9, Tryz.ntmps9
    go_upto_region 1 with (fail)
    rw [← hV, ← hq1]
    clear hV hq1 HR
    rcases key with t1 | ⟨t1, t3 | ⟨t3, b, o, x, rfl, cx, t4, t5⟩⟩
    all_goals
      go_wp2_with (first | (refine wpList_store_row rfl 37 _ _ rfl q1 #[.int .u8 0, .int .u8 0, .int .u8 0, .int .u8 0, .int .u8 0, .int .u8 0, .int .u8 0, .int .u8 0, .int .u8 0, .int .u8 0, .int .u8 0, .int .u8 0, .int .u8 0, .int .u8 0, .int .u8 0, .int .u8 0, .int .u8 0, .bool false, .bool false, .int .u32 0, .int .u32 0] rfl rfl 37 _ HB2.out HZ.out rfl HZ1.out ?_))
      have t := Turned.setRow HB2.out #[.int .u8 0, .int .u8 0, .int .u8 0, .int .u8 0, .int .u8 0, .int .u8 0, .int .u8 0, .int .u8 0, .int .u8 0, .int .u8 0, .int .u8 0, .int .u8 0, .int .u8 0, .int .u8 0, .int .u8 0, .int .u8 0, .int .u8 0, .bool false, .bool false, .int .u32 0, .int .u32 0]
      refine bodyPost_ret (results_row_tmp Tryz.results9 _ _ q1 37 _ (0, 0) _ rfl (t.get (lt_of_blk HB2.out)) Tryz.underlying37 rfl HZ.out) rfl ⟨rfl, HFIN.out _ true⟩
end Go.Proofs.YtfolamkjlgpgmaaGreatDoor

