/- Several texts in one: TellP, TellU. No condition beyond those that each part names. -/
import Derived.Test.YtfolamkjlgpgmaaGreatDoorTold
import Derived.Test.YtfolamkjlgpgmaaGreatDoorTwinA
/- A prefix read: the walk. No condition but that the bytes are bytes. (Printed by gTellP.py.) -/
namespace Go.Proofs.YtfolamkjlgpgmaaGreatDoor
open Go.RowKit
set_option linter.unusedVariables false
set_option linter.unusedSimpArgs false
theorem mask89 (a : Nat → Nat) (n : Nat) (w : World) (ha : ∀ i, i < 16 → a i < 256) (hn : n < 256) :
    Calls Tryz.prog 35 #[.agg #[.int .u8 (a 0 : Int), .int .u8 (a 1 : Int), .int .u8 (a 2 : Int), .int .u8 (a 3 : Int), .int .u8 (a 4 : Int), .int .u8 (a 5 : Int), .int .u8 (a 6 : Int), .int .u8 (a 7 : Int), .int .u8 (a 8 : Int), .int .u8 (a 9 : Int), .int .u8 (a 10 : Int), .int .u8 (a 11 : Int), .int .u8 (a 12 : Int), .int .u8 (a 13 : Int), .int .u8 (a 14 : Int), .int .u8 (a 15 : Int)], .int .u8 (n : Int)] w fun e w' => ∃ y : Nat → Nat, e = .returned (.agg #[.int .u8 (y 0 : Int), .int .u8 (y 1 : Int), .int .u8 (y 2 : Int), .int .u8 (y 3 : Int), .int .u8 (y 4 : Int), .int .u8 (y 5 : Int), .int .u8 (y 6 : Int), .int .u8 (y 7 : Int), .int .u8 (y 8 : Int), .int .u8 (y 9 : Int), .int .u8 (y 10 : Int), .int .u8 (y 11 : Int), .int .u8 (y 12 : Int), .int .u8 (y 13 : Int), .int .u8 (y 14 : Int), .int .u8 (y 15 : Int)]) ∧ y = masked a n ∧ Below w.heap.size w w' :=
  (masked_any a n w ha hn).mono fun e w' h => ⟨masked a n, h.1, rfl, h.2⟩
def onB (f : Nat) (m : Int) : Bool := decide ((0 : Int) < bits .and .u64 (f : Int) m)
theorem size51 : (Tryz.prog.info? 32).map (·.size) = some 16 := by kernel_rfl
/-- what a prefix's bytes say -/
def adrOf (l : List Nat) : Nat → Nat := fun j => l.getD (14 + j) 0
def num1 (l : List Nat) (p k : Nat) : Nat := beN ((l.drop p).take k)
def preC (l : List Nat) : Array Value := #[.int .u8 ((masked (adrOf l) (num1 l 0 1)) 0 : Int), .int .u8 ((masked (adrOf l) (num1 l 0 1)) 1 : Int), .int .u8 ((masked (adrOf l) (num1 l 0 1)) 2 : Int), .int .u8 ((masked (adrOf l) (num1 l 0 1)) 3 : Int), .int .u8 ((masked (adrOf l) (num1 l 0 1)) 4 : Int), .int .u8 ((masked (adrOf l) (num1 l 0 1)) 5 : Int), .int .u8 ((masked (adrOf l) (num1 l 0 1)) 6 : Int), .int .u8 ((masked (adrOf l) (num1 l 0 1)) 7 : Int), .int .u8 ((masked (adrOf l) (num1 l 0 1)) 8 : Int), .int .u8 ((masked (adrOf l) (num1 l 0 1)) 9 : Int), .int .u8 ((masked (adrOf l) (num1 l 0 1)) 10 : Int), .int .u8 ((masked (adrOf l) (num1 l 0 1)) 11 : Int), .int .u8 ((masked (adrOf l) (num1 l 0 1)) 12 : Int), .int .u8 ((masked (adrOf l) (num1 l 0 1)) 13 : Int), .int .u8 ((masked (adrOf l) (num1 l 0 1)) 14 : Int), .int .u8 ((masked (adrOf l) (num1 l 0 1)) 15 : Int), .int .u8 (num1 l 0 1 : Int), .bool (onB (num1 l 1 1) 128), .bool (onB (num1 l 1 1) 64), .int .u32 (num1 l 2 4 : Int), .int .u32 (num1 l 6 4 : Int)]
set_option maxRecDepth 100000 in
set_option maxHeartbeats 8000000 in
theorem pre88 {w0 : World} {q kd p g c : Nat} {v : Value} {l : List Nat} (w : World) (h : CS w0 q kd v p g c 0 l w) (hl : l.length = 30) (h256 : ∀ x ∈ l, x < 256) {r : Bool} (hr : (kd == 3 && decide (num1 l 0 1 ≤ 128)) = r) :
    Calls Tryz.prog 33 #[.pointer (some ⟨p, 0, none⟩), .pointer (some ⟨q, 0, none⟩)] w fun e w' => e = .returned (.tuple #[.agg (preC l), .bool r]) ∧ CS w0 q kd v p g c 30 l w' := by
  have hz := heap_alloc_new w (.cells #[.int .u8 0, .int .u8 0, .int .u8 0, .int .u8 0, .int .u8 0, .int .u8 0, .int .u8 0, .int .u8 0, .int .u8 0, .int .u8 0, .int .u8 0, .int .u8 0, .int .u8 0, .int .u8 0, .int .u8 0, .int .u8 0, .int .u8 0, .bool false, .bool false, .int .u32 0, .int .u32 0] 37)
  have hB := h.step ((Below.refl w.heap.size w).alloc (Nat.le_refl _) (.cells #[.int .u8 0, .int .u8 0, .int .u8 0, .int .u8 0, .int .u8 0, .int .u8 0, .int .u8 0, .int .u8 0, .int .u8 0, .int .u8 0, .int .u8 0, .int .u8 0, .int .u8 0, .int .u8 0, .int .u8 0, .int .u8 0, .int .u8 0, .bool false, .bool false, .int .u32 0, .int .u32 0] 37))
  obtain ⟨A0, hp0, _⟩ := h.cut.at_
  have hpl := lt_of_blk hp0
  obtain ⟨t, ht⟩ : ∃ t, t = w.heap.size := ⟨_, rfl⟩
  have hnt : t ≠ p := by omega
  have hlow : w0.heap.size ≤ t := by rw [ht]; exact h.below.size
  have hqt : t ≠ q := by have := lt_of_blk h.box; omega
  have hgt : l ≠ [] → t ≠ g := fun _ => by have := lt_of_cell (h.cut.rd 0 (l[0]'(by omega)) (List.getElem?_eq_getElem _)); omega
  obtain ⟨V, hV⟩ : ∃ V, V = w.alloc (.cells #[.int .u8 0, .int .u8 0, .int .u8 0, .int .u8 0, .int .u8 0, .int .u8 0, .int .u8 0, .int .u8 0, .int .u8 0, .int .u8 0, .int .u8 0, .int .u8 0, .int .u8 0, .int .u8 0, .int .u8 0, .int .u8 0, .int .u8 0, .bool false, .bool false, .int .u32 0, .int .u32 0] 37) := ⟨_, rfl⟩
  rw [← hV] at hz hB
  rw [← ht] at hz
  have HT := Lib.hid hz; have HS := Lib.hid hB; have HR := Lib.hid hr; have HL := Lib.hid hl; have H256 := Lib.hid h256
  have HN0 := Lib.hid ht
  clear hz hB hp0 hr hl h256 h
  go_enter Tryz.func33, Tryz.ntmps33
  go_upto_region 1 with (fail)
  rw [← hV, ← ht]
  clear hV ht hpl HN0
  have HN := Lib.hid (num49_be (pos := 0) (k := 1) _ HS.out.cut (by decide) (by decide) (by rw [HL.out]; decide) H256.out)
  go_wp2_with fail
  refine (HN.out).mono ?_
  rintro e w1 ⟨rfl, k1, o1, k2⟩
  obtain ⟨b0, eb0⟩ : ∃ b0, beN ((l.drop 0).take 1) = b0 := ⟨_, rfl⟩
  have Eb0 := Lib.hid eb0
  have hb0 : b0 < 256 := by rw [← eb0]; exact beN_lt (k := 1) (fun x hx => H256.out x (List.mem_of_mem_drop (List.mem_of_mem_take hx))) (by rw [List.length_take]; omega)
  rw [eb0]
  have HT0 := Lib.hid (k2.keep HT.out hnt)
  have HS0 : Hid (CS w0 q kd v p g c 1 l w1) := Lib.hid (HS.out.turn k1 k2)
  clear k1 k2 eb0 HN HT HS
  have HT := HT0
  have HS := HS0
  clear HT0 HS0
  have z16 := cell_blk HT.out 16
  have f16 := frozen_blk HT.out 16
  simp only [List.getElem?_toArray, List.getElem?_cons_zero, List.getElem?_cons_succ] at z16
  have t0 := Turned.setCell HT.out 16 (.int .u8 (b0 : Int))
  simp only [List.setIfInBounds_toArray, List.set_cons_zero, List.set_cons_succ] at t0
  have HT0 := Lib.hid (t0.get (lt_of_blk HT.out))
  have HS0 := Lib.hid (HS.out.of_turn t0 hlow hqt hnt hgt)
  clear t0 HT HS
  have HT := HT0
  have HS := HS0
  clear HT0 HS0
  obtain ⟨u1, hu1⟩ : ∃ u1, u1 = w1.setCell ⟨t, 16, none⟩ (.int .u8 (b0 : Int)) := ⟨_, rfl⟩
  rw [← hu1] at HS HT
  have HN := Lib.hid (num49_be (pos := 1) (k := 1) _ HS.out.cut (by decide) (by decide) (by rw [HL.out]; decide) H256.out)
  go_wp2_with fail
  rw [← hu1]
  clear hu1
  refine (HN.out).mono ?_
  rintro e w2 ⟨rfl, k1, o1, k2⟩
  obtain ⟨b1, eb1⟩ : ∃ b1, beN ((l.drop 1).take 1) = b1 := ⟨_, rfl⟩
  have Eb1 := Lib.hid eb1
  have hb1 : b1 < 256 := by rw [← eb1]; exact beN_lt (k := 1) (fun x hx => H256.out x (List.mem_of_mem_drop (List.mem_of_mem_take hx))) (by rw [List.length_take]; omega)
  rw [eb1]
  have HT0 := Lib.hid (k2.keep HT.out hnt)
  have HS0 : Hid (CS w0 q kd v p g c 2 l w2) := Lib.hid (HS.out.turn k1 k2)
  clear k1 k2 eb1 HN HT HS
  have HT := HT0
  have HS := HS0
  clear HT0 HS0
  clear z16 f16
  have z17 := cell_blk HT.out 17
  have f17 := frozen_blk HT.out 17
  have z18 := cell_blk HT.out 18
  have f18 := frozen_blk HT.out 18
  simp only [List.getElem?_toArray, List.getElem?_cons_zero, List.getElem?_cons_succ] at z17 z18
  have t0 := Turned.setCell HT.out 17 (.bool (onB b1 128))
  simp only [List.setIfInBounds_toArray, List.set_cons_zero, List.set_cons_succ] at t0
  have HT0 := Lib.hid (t0.get (lt_of_blk HT.out))
  have HS0 := Lib.hid (HS.out.of_turn t0 hlow hqt hnt hgt)
  clear t0 HT HS
  have HT := HT0
  have HS := HS0
  clear HT0 HS0
  have t0 := Turned.setCell HT.out 18 (.bool (onB b1 64))
  simp only [List.setIfInBounds_toArray, List.set_cons_zero, List.set_cons_succ] at t0
  have HT0 := Lib.hid (t0.get (lt_of_blk HT.out))
  have HS0 := Lib.hid (HS.out.of_turn t0 hlow hqt hnt hgt)
  clear t0 HT HS
  have HT := HT0
  have HS := HS0
  clear HT0 HS0
  obtain ⟨u2, hu2⟩ : ∃ u2, u2 = (w2.setCell ⟨t, 17, none⟩ (.bool (onB b1 128))).setCell ⟨t, 18, none⟩ (.bool (onB b1 64)) := ⟨_, rfl⟩
  rw [← hu2] at HS HT
  unfold onB at hu2
  have HN := Lib.hid (num49_be (pos := 2) (k := 4) _ HS.out.cut (by decide) (by decide) (by rw [HL.out]; decide) H256.out)
  go_wp2_with fail
  rw [← hu2]
  clear hu2
  refine (HN.out).mono ?_
  rintro e w3 ⟨rfl, k1, o1, k2⟩
  obtain ⟨b2, eb2⟩ : ∃ b2, beN ((l.drop 2).take 4) = b2 := ⟨_, rfl⟩
  have Eb2 := Lib.hid eb2
  have hb2 : b2 < 4294967296 := by rw [← eb2]; exact beN_lt (k := 4) (fun x hx => H256.out x (List.mem_of_mem_drop (List.mem_of_mem_take hx))) (by rw [List.length_take]; omega)
  rw [eb2]
  have HT0 := Lib.hid (k2.keep HT.out hnt)
  have HS0 : Hid (CS w0 q kd v p g c 6 l w3) := Lib.hid (HS.out.turn k1 k2)
  clear k1 k2 eb2 HN HT HS
  have HT := HT0
  have HS := HS0
  clear HT0 HS0
  clear z17 z18 f17 f18
  have HN := Lib.hid (num49_be (pos := 6) (k := 4) _ HS.out.cut (by decide) (by decide) (by rw [HL.out]; decide) H256.out)
  go_wp2_with fail
  refine (HN.out).mono ?_
  rintro e w4 ⟨rfl, k1, o1, k2⟩
  obtain ⟨b6, eb6⟩ : ∃ b6, beN ((l.drop 6).take 4) = b6 := ⟨_, rfl⟩
  have Eb6 := Lib.hid eb6
  have hb6 : b6 < 4294967296 := by rw [← eb6]; exact beN_lt (k := 4) (fun x hx => H256.out x (List.mem_of_mem_drop (List.mem_of_mem_take hx))) (by rw [List.length_take]; omega)
  rw [eb6]
  have HT0 := Lib.hid (k2.keep HT.out hnt)
  have HS0 : Hid (CS w0 q kd v p g c 10 l w4) := Lib.hid (HS.out.turn k1 k2)
  clear k1 k2 eb6 HN HT HS
  have HT := HT0
  have HS := HS0
  clear HT0 HS0
  have z19 := cell_blk HT.out 19
  have f19 := frozen_blk HT.out 19
  have z20 := cell_blk HT.out 20
  have f20 := frozen_blk HT.out 20
  simp only [List.getElem?_toArray, List.getElem?_cons_zero, List.getElem?_cons_succ] at z19 z20
  have t0 := Turned.setCell HT.out 19 (.int .u32 (b2 : Int))
  simp only [List.setIfInBounds_toArray, List.set_cons_zero, List.set_cons_succ] at t0
  have HT0 := Lib.hid (t0.get (lt_of_blk HT.out))
  have HS0 := Lib.hid (HS.out.of_turn t0 hlow hqt hnt hgt)
  clear t0 HT HS
  have HT := HT0
  have HS := HS0
  clear HT0 HS0
  have t0 := Turned.setCell HT.out 20 (.int .u32 (b6 : Int))
  simp only [List.setIfInBounds_toArray, List.set_cons_zero, List.set_cons_succ] at t0
  have HT0 := Lib.hid (t0.get (lt_of_blk HT.out))
  have HS0 := Lib.hid (HS.out.of_turn t0 hlow hqt hnt hgt)
  clear t0 HT HS
  have HT := HT0
  have HS := HS0
  clear HT0 HS0
  obtain ⟨u3, hu3⟩ : ∃ u3, u3 = (w4.setCell ⟨t, 19, none⟩ (.int .u32 (b2 : Int))).setCell ⟨t, 20, none⟩ (.int .u32 (b6 : Int)) := ⟨_, rfl⟩
  rw [← hu3] at HS HT
  have HN := Lib.hid (num49_be (pos := 10) (k := 4) _ HS.out.cut (by decide) (by decide) (by rw [HL.out]; decide) H256.out)
  go_wp2_with fail
  rw [← hu3]
  clear hu3
  refine (HN.out).mono ?_
  rintro e w5 ⟨rfl, k1, o1, k2⟩
  obtain ⟨b9, eb9⟩ : ∃ b9, beN ((l.drop 10).take 4) = b9 := ⟨_, rfl⟩
  have Eb9 := Lib.hid eb9
  have hb9 : b9 < 4294967296 := by rw [← eb9]; exact beN_lt (k := 4) (fun x hx => H256.out x (List.mem_of_mem_drop (List.mem_of_mem_take hx))) (by rw [List.length_take]; omega)
  rw [eb9]
  have HT0 := Lib.hid (k2.keep HT.out hnt)
  have HS0 : Hid (CS w0 q kd v p g c 14 l w5) := Lib.hid (HS.out.turn k1 k2)
  clear k1 k2 eb9 HN HT HS
  have HT := HT0
  have HS := HS0
  clear HT0 HS0
  clear z19 z20 f19 f20
  go_wp2_with fail
  obtain ⟨a, ea⟩ : ∃ a, a = adrOf l := ⟨_, rfl⟩
  have hla : ∀ j, j < 16 → l[14 + j]? = some (a j) := fun j hj => by
    rw [ea]; unfold adrOf; rw [List.getD_eq_getElem?_getD, List.getElem?_eq_getElem (by rw [HL.out]; omega)]; rfl
  have HLA := Lib.hid hla
  have EA := Lib.hid ea
  have ha256 : ∀ j, j < 16 → a j < 256 := fun j hj => H256.out _ (List.mem_of_getElem? (HLA.out j hj))
  have HRG : ∀ (W : World), (∃ pos, CS w0 q kd v p g c pos l W) → W.rangeAt g 14 [.int .u8 (a 0 : Int), .int .u8 (a 1 : Int), .int .u8 (a 2 : Int), .int .u8 (a 3 : Int), .int .u8 (a 4 : Int), .int .u8 (a 5 : Int), .int .u8 (a 6 : Int), .int .u8 (a 7 : Int), .int .u8 (a 8 : Int), .int .u8 (a 9 : Int), .int .u8 (a 10 : Int), .int .u8 (a 11 : Int), .int .u8 (a 12 : Int), .int .u8 (a 13 : Int), .int .u8 (a 14 : Int), .int .u8 (a 15 : Int)] := fun W hW j u hu => by
    obtain ⟨_, hc⟩ := hW
    have hj : j < 16 := by have := (List.getElem?_eq_some_iff.1 hu).1; simpa using this
    have h1 := adr16_get a hj
    have h2 : (row8 (adr16 a))[j]? = some u := hu
    rw [h1] at h2
    cases h2
    exact hc.cut.rd _ _ (HLA.out j hj)
  have HD := Lib.hid (HS.out.step (Below.refl _ _).drew)
  have hS : (∃ pos, CS w0 q kd v p g c pos l w5.drew) ∧ ∃ cs, w5.drew.heap[t]? = some (.cells cs 37 (0, 0)) ∧ cs[16]? = some (.int .u8 (b0 : Int)) := ⟨⟨_, HD.out⟩, _, HT.out, rfl⟩
  clear hla ea
  refine wp_region_held_drew (S := fun W => (∃ pos, CS w0 q kd v p g c pos l W) ∧ ∃ cs, W.heap[t]? = some (.cells cs 37 (0, 0)) ∧ cs[16]? = some (.int .u8 (b0 : Int))) (by kernel_rfl) hS ?_
  clear hS
  intro HSS
  refine wpAnyH_take (i := 0) (v := ?_) rfl (by kernel_rfl) (by kernel_rfl) (by kernel_rfl) (fun _ _ _ h => h) (Or.inl ⟨by go_simp, ?hy⟩) HSS ?_
  case hy => intro W hW; go_simp; (try with_reducible rfl)
  try simp only [List.getElem_toArray, List.getElem_cons_zero, List.getElem_cons_succ, Act.put, List.setIfInBounds_toArray, List.set_cons_zero, List.set_cons_succ]
  refine wpAnyH_take (i := 4) (v := ?_) rfl (by kernel_rfl) (by kernel_rfl) (by kernel_rfl) (fun _ _ _ h => h) (Or.inl ⟨by go_simp, ?hy⟩) HSS ?_
  case hy => intro W hW; go_simp; (try with_reducible rfl)
  try simp only [List.getElem_toArray, List.getElem_cons_zero, List.getElem_cons_succ, Act.put, List.setIfInBounds_toArray, List.set_cons_zero, List.set_cons_succ]
  refine wpAnyH_take (i := 5) (v := ?_) rfl (by kernel_rfl) (by kernel_rfl) (by kernel_rfl) (fun _ _ _ h => h) (Or.inl ⟨by go_simp, ?hy⟩) HSS ?_
  case hy => intro W hW; go_simp; (try with_reducible rfl)
  try simp only [List.getElem_toArray, List.getElem_cons_zero, List.getElem_cons_succ, Act.put, List.setIfInBounds_toArray, List.set_cons_zero, List.set_cons_succ]
  refine wpAnyH_take (i := 6) (v := ?_) rfl (by kernel_rfl) (by kernel_rfl) (by kernel_rfl) (fun _ _ _ h => h) (Or.inl ⟨by go_simp, ?hy⟩) HSS ?_
  case hy => intro W hW; obtain ⟨_, cs, hc, hc2⟩ := hW; have c := (cell_blk hc 16).trans hc2; go_simp; (try with_reducible rfl)
  try simp only [List.getElem_toArray, List.getElem_cons_zero, List.getElem_cons_succ, Act.put, List.setIfInBounds_toArray, List.set_cons_zero, List.set_cons_succ]
  refine wpAnyH_ready (rs := [1]) (by kernel_rfl) (by simp) ?_
  refine AllReadyH.cons rfl (fun K hK => ?_) AllReadyH.nil
  rw [if_pos (by kernel_rfl)]
  simp only [List.getElem_toArray, List.getElem_cons_zero, List.getElem_cons_succ]
  go_simp
  refine (bytes50_ok 16 _ HD.out.cut (by decide) (by rw [HL.out]; decide)).mono ?_
  rintro e w6 ⟨rfl, h1, o1, ht1⟩
  have hS6 : CS w0 q kd v p g c 30 l w6 := HD.out.turn h1 ht1
  have HS6 := Lib.hid hS6
  have hT6 := ht1.keep HT.out hnt
  have HT6 := Lib.hid hT6
  refine hK.out _ _ (⟨⟨_, hS6⟩, _, hT6, rfl⟩) (fun HSS => ?_)
  clear hK h1 ht1 hS6 hT6 HD HT HS
  try simp only [List.getElem_toArray, List.getElem_cons_zero, List.getElem_cons_succ, Act.put, List.setIfInBounds_toArray, List.set_cons_zero, List.set_cons_succ]
  refine wpAnyH_take (i := 2) (v := ?_) rfl (by kernel_rfl) (by kernel_rfl) (by kernel_rfl) (fun _ _ _ h => h) (Or.inl ⟨by go_simp, ?hy⟩) HSS ?_
  case hy => intro W hW; have ha := arr51 ⟨g, 14, none⟩ W; go_simp; (try with_reducible rfl)
  try simp only [List.getElem_toArray, List.getElem_cons_zero, List.getElem_cons_succ, Act.put, List.setIfInBounds_toArray, List.set_cons_zero, List.set_cons_succ]
  refine wpAnyH_take (i := 3) (v := .agg #[.int .u8 (a 0 : Int), .int .u8 (a 1 : Int), .int .u8 (a 2 : Int), .int .u8 (a 3 : Int), .int .u8 (a 4 : Int), .int .u8 (a 5 : Int), .int .u8 (a 6 : Int), .int .u8 (a 7 : Int), .int .u8 (a 8 : Int), .int .u8 (a 9 : Int), .int .u8 (a 10 : Int), .int .u8 (a 11 : Int), .int .u8 (a 12 : Int), .int .u8 (a 13 : Int), .int .u8 (a 14 : Int), .int .u8 (a 15 : Int)]) rfl (by kernel_rfl) (by kernel_rfl) (by kernel_rfl) (fun _ _ _ h => h) (by refine yieldsIf_load_mid ?_ 32 (.tmp 33) rfl g 14 ?_ [.int .u8 (a 0 : Int), .int .u8 (a 1 : Int), .int .u8 (a 2 : Int), .int .u8 (a 3 : Int), .int .u8 (a 4 : Int), .int .u8 (a 5 : Int), .int .u8 (a 6 : Int), .int .u8 (a 7 : Int), .int .u8 (a 8 : Int), .int .u8 (a 9 : Int), .int .u8 (a 10 : Int), .int .u8 (a 11 : Int), .int .u8 (a 12 : Int), .int .u8 (a 13 : Int), .int .u8 (a 14 : Int), .int .u8 (a 15 : Int)] _ (fun W hW => HRG W hW.1) Tryz.underlying32 rfl size51; (go_simp); (go_simp)) HSS ?_
  try simp only [List.getElem_toArray, List.getElem_cons_zero, List.getElem_cons_succ, Act.put, List.setIfInBounds_toArray, List.set_cons_zero, List.set_cons_succ]
  refine wpAnyH_ready (rs := [7]) (by kernel_rfl) (by simp) ?_
  refine AllReadyH.cons rfl (fun K hK => ?_) AllReadyH.nil
  rw [if_pos (by kernel_rfl)]
  simp only [List.getElem_toArray, List.getElem_cons_zero, List.getElem_cons_succ]
  go_simp
  refine (mask89 a b0 w6 ha256 hb0).mono ?_
  rintro e w7 ⟨y, rfl, hy, hb7⟩
  have HY := Lib.hid hy
  have hS7 := HS6.out.step hb7
  have hT7 := (hb7.block t (lt_of_blk HT6.out)).trans HT6.out
  have HS7 := Lib.hid hS7
  have HT7 := Lib.hid hT7
  refine hK.out _ _ (⟨⟨_, hS7⟩, _, hT7, rfl⟩) (fun HSS => ?_)
  clear hK hy hb7 hS7 hT7
  try simp only [List.getElem_toArray, List.getElem_cons_zero, List.getElem_cons_succ, Act.put, List.setIfInBounds_toArray, List.set_cons_zero, List.set_cons_succ]
  refine wpAnyH_take (i := 8) (v := ?_) rfl (by kernel_rfl) (by kernel_rfl) (by kernel_rfl) (fun _ _ _ h => h) (Or.inl ⟨by go_simp, ?hy⟩) HSS ?_
  case hy => intro W hW; go_simp; (try with_reducible rfl)
  try simp only [List.getElem_toArray, List.getElem_cons_zero, List.getElem_cons_succ, Act.put, List.setIfInBounds_toArray, List.set_cons_zero, List.set_cons_succ]
  refine wpAnyH_take (i := 9) (v := ?_) rfl (by kernel_rfl) (by kernel_rfl) (by kernel_rfl) (fun _ _ _ h => h) (Or.inl ⟨by go_simp, ?hy⟩) HSS ?_
  case hy => intro W hW; go_simp; (try with_reducible rfl)
  try simp only [List.getElem_toArray, List.getElem_cons_zero, List.getElem_cons_succ, Act.put, List.setIfInBounds_toArray, List.set_cons_zero, List.set_cons_succ]
  have z0 := cell_blk HT7.out 0
  have f0 := frozen_blk HT7.out 0
  have z1 := cell_blk HT7.out 1
  have f1 := frozen_blk HT7.out 1
  have z2 := cell_blk HT7.out 2
  have f2 := frozen_blk HT7.out 2
  have z3 := cell_blk HT7.out 3
  have f3 := frozen_blk HT7.out 3
  have z4 := cell_blk HT7.out 4
  have f4 := frozen_blk HT7.out 4
  have z5 := cell_blk HT7.out 5
  have f5 := frozen_blk HT7.out 5
  have z6 := cell_blk HT7.out 6
  have f6 := frozen_blk HT7.out 6
  have z7 := cell_blk HT7.out 7
  have f7 := frozen_blk HT7.out 7
  have z8 := cell_blk HT7.out 8
  have f8 := frozen_blk HT7.out 8
  have z9 := cell_blk HT7.out 9
  have f9 := frozen_blk HT7.out 9
  have z10 := cell_blk HT7.out 10
  have f10 := frozen_blk HT7.out 10
  have z11 := cell_blk HT7.out 11
  have f11 := frozen_blk HT7.out 11
  have z12 := cell_blk HT7.out 12
  have f12 := frozen_blk HT7.out 12
  have z13 := cell_blk HT7.out 13
  have f13 := frozen_blk HT7.out 13
  have z14 := cell_blk HT7.out 14
  have f14 := frozen_blk HT7.out 14
  have z15 := cell_blk HT7.out 15
  have f15 := frozen_blk HT7.out 15
  simp only [List.getElem?_toArray, List.getElem?_cons_zero, List.getElem?_cons_succ] at z0 z1 z2 z3 z4 z5 z6 z7 z8 z9 z10 z11 z12 z13 z14 z15
  have hl6 := lt_of_blk HT7.out
  have t0 := Turned.setCell HT7.out 0 (.int .u8 (y 0 : Int))
  have t1 := t0.trans (Turned.setCell (t0.get hl6) 1 (.int .u8 (y 1 : Int)))
  have t2 := t1.trans (Turned.setCell (t1.get hl6) 2 (.int .u8 (y 2 : Int)))
  have t3 := t2.trans (Turned.setCell (t2.get hl6) 3 (.int .u8 (y 3 : Int)))
  have t4 := t3.trans (Turned.setCell (t3.get hl6) 4 (.int .u8 (y 4 : Int)))
  have t5 := t4.trans (Turned.setCell (t4.get hl6) 5 (.int .u8 (y 5 : Int)))
  have t6 := t5.trans (Turned.setCell (t5.get hl6) 6 (.int .u8 (y 6 : Int)))
  have t7 := t6.trans (Turned.setCell (t6.get hl6) 7 (.int .u8 (y 7 : Int)))
  have t8 := t7.trans (Turned.setCell (t7.get hl6) 8 (.int .u8 (y 8 : Int)))
  have t9 := t8.trans (Turned.setCell (t8.get hl6) 9 (.int .u8 (y 9 : Int)))
  have t10 := t9.trans (Turned.setCell (t9.get hl6) 10 (.int .u8 (y 10 : Int)))
  have t11 := t10.trans (Turned.setCell (t10.get hl6) 11 (.int .u8 (y 11 : Int)))
  have t12 := t11.trans (Turned.setCell (t11.get hl6) 12 (.int .u8 (y 12 : Int)))
  have t13 := t12.trans (Turned.setCell (t12.get hl6) 13 (.int .u8 (y 13 : Int)))
  have t14 := t13.trans (Turned.setCell (t13.get hl6) 14 (.int .u8 (y 14 : Int)))
  have t15 := t14.trans (Turned.setCell (t14.get hl6) 15 (.int .u8 (y 15 : Int)))
  simp only [List.setIfInBounds_toArray, List.set_cons_zero, List.set_cons_succ] at t15
  have HS9 := Lib.hid (HS7.out.of_turn t15 hlow hqt hnt hgt)
  have HT9 := Lib.hid (t15.get hl6)
  clear t0 t1 t2 t3 t4 t5 t6 t7 t8 t9 t10 t11 t12 t13 t14 t15
  refine wpAnyH_ready (rs := [10]) (by kernel_rfl) (by simp) ?_
  refine AllReadyH.cons rfl (fun K hK => ?_) AllReadyH.nil
  rw [if_pos (by kernel_rfl)]
  simp only [List.getElem_toArray, List.getElem_cons_zero, List.getElem_cons_succ]
  go_simp
  refine hK.out _ _ ⟨⟨_, HS9.out⟩, _, HT9.out, rfl⟩ (fun HSS => ?_)
  clear hK
  try simp only [List.getElem_toArray, List.getElem_cons_zero, List.getElem_cons_succ, Act.put, List.setIfInBounds_toArray, List.set_cons_zero, List.set_cons_succ]
  refine wpAnyH_done (by kernel_rfl) ?_ _
  clear HSS
  obtain ⟨W, hW⟩ : ∃ W, W = ((((((((((((((((w7.setCell ⟨t, 0, none⟩ (.int .u8 (y 0 : Int))).setCell ⟨t, 1, none⟩ (.int .u8 (y 1 : Int))).setCell ⟨t, 2, none⟩ (.int .u8 (y 2 : Int))).setCell ⟨t, 3, none⟩ (.int .u8 (y 3 : Int))).setCell ⟨t, 4, none⟩ (.int .u8 (y 4 : Int))).setCell ⟨t, 5, none⟩ (.int .u8 (y 5 : Int))).setCell ⟨t, 6, none⟩ (.int .u8 (y 6 : Int))).setCell ⟨t, 7, none⟩ (.int .u8 (y 7 : Int))).setCell ⟨t, 8, none⟩ (.int .u8 (y 8 : Int))).setCell ⟨t, 9, none⟩ (.int .u8 (y 9 : Int))).setCell ⟨t, 10, none⟩ (.int .u8 (y 10 : Int))).setCell ⟨t, 11, none⟩ (.int .u8 (y 11 : Int))).setCell ⟨t, 12, none⟩ (.int .u8 (y 12 : Int))).setCell ⟨t, 13, none⟩ (.int .u8 (y 13 : Int))).setCell ⟨t, 14, none⟩ (.int .u8 (y 14 : Int))).setCell ⟨t, 15, none⟩ (.int .u8 (y 15 : Int))) := ⟨_, rfl⟩
  rw [← hW] at HS9 HT9 ⊢
  clear hW z0 f0 z1 f1 z2 f2 z3 f3 z4 f4 z5 f5 z6 f6 z7 f7 z8 f8 z9 f9 z10 f10 z11 f11 z12 f12 z13 f13 z14 f14 z15 f15
  have hSZ : (Tryz.prog.info? 37).map (·.size) = some (#[.int .u8 (y 0 : Int), .int .u8 (y 1 : Int), .int .u8 (y 2 : Int), .int .u8 (y 3 : Int), .int .u8 (y 4 : Int), .int .u8 (y 5 : Int), .int .u8 (y 6 : Int), .int .u8 (y 7 : Int), .int .u8 (y 8 : Int), .int .u8 (y 9 : Int), .int .u8 (y 10 : Int), .int .u8 (y 11 : Int), .int .u8 (y 12 : Int), .int .u8 (y 13 : Int), .int .u8 (y 14 : Int), .int .u8 (y 15 : Int), .int .u8 (b0 : Int), .bool (onB b1 128), .bool (onB b1 64), .int .u32 (b2 : Int), .int .u32 (b6 : Int)] : Array Value).size := by kernel_rfl
  have h1Z : (#[.int .u8 (y 0 : Int), .int .u8 (y 1 : Int), .int .u8 (y 2 : Int), .int .u8 (y 3 : Int), .int .u8 (y 4 : Int), .int .u8 (y 5 : Int), .int .u8 (y 6 : Int), .int .u8 (y 7 : Int), .int .u8 (y 8 : Int), .int .u8 (y 9 : Int), .int .u8 (y 10 : Int), .int .u8 (y 11 : Int), .int .u8 (y 12 : Int), .int .u8 (y 13 : Int), .int .u8 (y 14 : Int), .int .u8 (y 15 : Int), .int .u8 (b0 : Int), .bool (onB b1 128), .bool (onB b1 64), .int .u32 (b2 : Int), .int .u32 (b6 : Int)] : Array Value).all (·.oneCell') = true := by simp [Value.oneCell']
  have HSZ := Lib.hid hSZ
  have H1Z := Lib.hid h1Z
  have c0 := cell_blk HS9.out.box 0
  simp only [List.getElem?_toArray, List.getElem?_cons_zero, List.getElem?_cons_succ] at c0
  have d16 : W.cell? ⟨t, 16, none⟩ = some (.int .u8 (b0 : Int)) := (cell_blk HT9.out 16).trans rfl
  have eP : #[.int .u8 (y 0 : Int), .int .u8 (y 1 : Int), .int .u8 (y 2 : Int), .int .u8 (y 3 : Int), .int .u8 (y 4 : Int), .int .u8 (y 5 : Int), .int .u8 (y 6 : Int), .int .u8 (y 7 : Int), .int .u8 (y 8 : Int), .int .u8 (y 9 : Int), .int .u8 (y 10 : Int), .int .u8 (y 11 : Int), .int .u8 (y 12 : Int), .int .u8 (y 13 : Int), .int .u8 (y 14 : Int), .int .u8 (y 15 : Int), .int .u8 (b0 : Int), .bool (onB b1 128), .bool (onB b1 64), .int .u32 (b2 : Int), .int .u32 (b6 : Int)] = preC l := by
    unfold preC num1
    rw [HY.out, EA.out, Eb0.out, Eb1.out, Eb2.out, Eb6.out]
  have EP := Lib.hid eP
  have HRR : Hid ((kd == 3 && decide (b0 ≤ 128)) = r) := Lib.hid (by have := HR.out; unfold num1 at this; rw [Eb0.out] at this; exact this)
  clear hSZ h1Z eP
  by_cases k3 : kd = 3
  · have t1 : ((kd : Int) == 3) = true := by simp; omega
    by_cases k8 : b0 ≤ 128
    · have t2 : (b0 : Int) ≤ 128 := by omega
      obtain rfl : r = true := by rw [← HRR.out]; simp [k3, k8]
      clear k3
      go_wp2_with (first | (refine wpList_load_row rfl 37 _ rfl t rfl 37 _ (0, 0) _ HT9.out Tryz.underlying37 rfl HSZ.out ?_) | (refine wpList_store_row rfl 37 _ _ rfl t #[.int .u8 (y 0 : Int), .int .u8 (y 1 : Int), .int .u8 (y 2 : Int), .int .u8 (y 3 : Int), .int .u8 (y 4 : Int), .int .u8 (y 5 : Int), .int .u8 (y 6 : Int), .int .u8 (y 7 : Int), .int .u8 (y 8 : Int), .int .u8 (y 9 : Int), .int .u8 (y 10 : Int), .int .u8 (y 11 : Int), .int .u8 (y 12 : Int), .int .u8 (y 13 : Int), .int .u8 (y 14 : Int), .int .u8 (y 15 : Int), .int .u8 (b0 : Int), .bool (onB b1 128), .bool (onB b1 64), .int .u32 (b2 : Int), .int .u32 (b6 : Int)] rfl rfl 37 _ HT9.out HSZ.out rfl H1Z.out ?_))
      have t9 := Turned.setRow HT9.out #[.int .u8 (y 0 : Int), .int .u8 (y 1 : Int), .int .u8 (y 2 : Int), .int .u8 (y 3 : Int), .int .u8 (y 4 : Int), .int .u8 (y 5 : Int), .int .u8 (y 6 : Int), .int .u8 (y 7 : Int), .int .u8 (y 8 : Int), .int .u8 (y 9 : Int), .int .u8 (y 10 : Int), .int .u8 (y 11 : Int), .int .u8 (y 12 : Int), .int .u8 (y 13 : Int), .int .u8 (y 14 : Int), .int .u8 (y 15 : Int), .int .u8 (b0 : Int), .bool (onB b1 128), .bool (onB b1 64), .int .u32 (b2 : Int), .int .u32 (b6 : Int)]
      refine bodyPost_ret (results_row_tmp Tryz.results33 _ _ t 37 _ (0, 0) _ rfl (t9.get (lt_of_blk HT9.out)) Tryz.underlying37 rfl HSZ.out) rfl ⟨?_, HS9.out.of_turn t9 hlow hqt hnt hgt⟩
      rw [EP.out]
      rfl
    · have t2 : ¬ (b0 : Int) ≤ 128 := by omega
      obtain rfl : r = false := by rw [← HRR.out]; simp [k8]
      clear k3
      go_wp2_with (first | (refine wpList_load_row rfl 37 _ rfl t rfl 37 _ (0, 0) _ HT9.out Tryz.underlying37 rfl HSZ.out ?_) | (refine wpList_store_row rfl 37 _ _ rfl t #[.int .u8 (y 0 : Int), .int .u8 (y 1 : Int), .int .u8 (y 2 : Int), .int .u8 (y 3 : Int), .int .u8 (y 4 : Int), .int .u8 (y 5 : Int), .int .u8 (y 6 : Int), .int .u8 (y 7 : Int), .int .u8 (y 8 : Int), .int .u8 (y 9 : Int), .int .u8 (y 10 : Int), .int .u8 (y 11 : Int), .int .u8 (y 12 : Int), .int .u8 (y 13 : Int), .int .u8 (y 14 : Int), .int .u8 (y 15 : Int), .int .u8 (b0 : Int), .bool (onB b1 128), .bool (onB b1 64), .int .u32 (b2 : Int), .int .u32 (b6 : Int)] rfl rfl 37 _ HT9.out HSZ.out rfl H1Z.out ?_))
      have t9 := Turned.setRow HT9.out #[.int .u8 (y 0 : Int), .int .u8 (y 1 : Int), .int .u8 (y 2 : Int), .int .u8 (y 3 : Int), .int .u8 (y 4 : Int), .int .u8 (y 5 : Int), .int .u8 (y 6 : Int), .int .u8 (y 7 : Int), .int .u8 (y 8 : Int), .int .u8 (y 9 : Int), .int .u8 (y 10 : Int), .int .u8 (y 11 : Int), .int .u8 (y 12 : Int), .int .u8 (y 13 : Int), .int .u8 (y 14 : Int), .int .u8 (y 15 : Int), .int .u8 (b0 : Int), .bool (onB b1 128), .bool (onB b1 64), .int .u32 (b2 : Int), .int .u32 (b6 : Int)]
      refine bodyPost_ret (results_row_tmp Tryz.results33 _ _ t 37 _ (0, 0) _ rfl (t9.get (lt_of_blk HT9.out)) Tryz.underlying37 rfl HSZ.out) rfl ⟨?_, HS9.out.of_turn t9 hlow hqt hnt hgt⟩
      rw [EP.out]
      rfl
  · have t1 : ((kd : Int) == 3) = false := by simp; omega
    obtain rfl : r = false := by rw [← HRR.out]; simp [k3]
    clear k3
    go_wp2_with (first | (refine wpList_load_row rfl 37 _ rfl t rfl 37 _ (0, 0) _ HT9.out Tryz.underlying37 rfl HSZ.out ?_) | (refine wpList_store_row rfl 37 _ _ rfl t #[.int .u8 (y 0 : Int), .int .u8 (y 1 : Int), .int .u8 (y 2 : Int), .int .u8 (y 3 : Int), .int .u8 (y 4 : Int), .int .u8 (y 5 : Int), .int .u8 (y 6 : Int), .int .u8 (y 7 : Int), .int .u8 (y 8 : Int), .int .u8 (y 9 : Int), .int .u8 (y 10 : Int), .int .u8 (y 11 : Int), .int .u8 (y 12 : Int), .int .u8 (y 13 : Int), .int .u8 (y 14 : Int), .int .u8 (y 15 : Int), .int .u8 (b0 : Int), .bool (onB b1 128), .bool (onB b1 64), .int .u32 (b2 : Int), .int .u32 (b6 : Int)] rfl rfl 37 _ HT9.out HSZ.out rfl H1Z.out ?_))
    have t9 := Turned.setRow HT9.out #[.int .u8 (y 0 : Int), .int .u8 (y 1 : Int), .int .u8 (y 2 : Int), .int .u8 (y 3 : Int), .int .u8 (y 4 : Int), .int .u8 (y 5 : Int), .int .u8 (y 6 : Int), .int .u8 (y 7 : Int), .int .u8 (y 8 : Int), .int .u8 (y 9 : Int), .int .u8 (y 10 : Int), .int .u8 (y 11 : Int), .int .u8 (y 12 : Int), .int .u8 (y 13 : Int), .int .u8 (y 14 : Int), .int .u8 (y 15 : Int), .int .u8 (b0 : Int), .bool (onB b1 128), .bool (onB b1 64), .int .u32 (b2 : Int), .int .u32 (b6 : Int)]
    refine bodyPost_ret (results_row_tmp Tryz.results33 _ _ t 37 _ (0, 0) _ rfl (t9.get (lt_of_blk HT9.out)) Tryz.underlying37 rfl HSZ.out) rfl ⟨?_, HS9.out.of_turn t9 hlow hqt hnt hgt⟩
    rw [EP.out]
    rfl
end Go.Proofs.YtfolamkjlgpgmaaGreatDoor

/- The greatest packet read: the walks. No condition but that the bytes are bytes. (Printed by gTellU.py.) -/
namespace Go.Proofs.YtfolamkjlgpgmaaGreatDoor
open Go.RowKit
set_option linter.unusedVariables false
set_option linter.unusedSimpArgs false
theorem u32_small {m : Nat} (h : m < 4294967296) : IntKind.u32.wrap (m : Int) = (m : Int) := by
  simp [IntKind.wrap, IntKind.signed, IntKind.bits]; omega
theorem pre75 {kd : Nat} {A : Option Addr} {c : Nat} {l : List Nat} (w : World) (h : Bs w w.heap.size A c l) (hl : l.length ≤ 1000000000) (h256 : ∀ x ∈ l, x < 256) :
    Calls Tryz.prog 8 #[.agg #[.int .u8 (kd : Int), .slice A l.length c]] w fun e w' => e = .returned (.tuple #[.agg (if l.length = 30 ∧ (kd == 3 && decide (num1 l 0 1 ≤ 128)) = true then preC l else #[.int .u8 0, .int .u8 0, .int .u8 0, .int .u8 0, .int .u8 0, .int .u8 0, .int .u8 0, .int .u8 0, .int .u8 0, .int .u8 0, .int .u8 0, .int .u8 0, .int .u8 0, .int .u8 0, .int .u8 0, .int .u8 0, .int .u8 0, .bool false, .bool false, .int .u32 0, .int .u32 0]), .bool (decide (l.length = 30 ∧ (kd == 3 && decide (num1 l 0 1 ≤ 128)) = true))]) ∧ Below w.heap.size w w' :=
  tell75 (kd := kd) w h hl (C := preC l) (r := (kd == 3 && decide (num1 l 0 1 ≤ 128))) (fun w0 q v h30 => ⟨fun W p g c hS => pre88 W hS h30 h256 rfl⟩) rfl (by simp [preC, Value.oneCell'])
set_option maxRecDepth 100000 in
set_option maxHeartbeats 4000000 in
theorem mtu91 {w0 : World} {q kd p g c : Nat} {v : Value} {l : List Nat} (w : World) (h : CS w0 q kd v p g c 0 l w) (hl : l.length = 6) (h256 : ∀ x ∈ l, x < 256) {r : Bool} (hr : (kd == 5) = r) :
    Calls Tryz.prog 39 #[.pointer (some ⟨p, 0, none⟩), .pointer (some ⟨q, 0, none⟩)] w fun e w' => e = .returned (.tuple #[.int .u32 (num1 l 2 4 : Nat), .bool r]) ∧ CS w0 q kd v p g c 6 l w' := by
  have HN := Lib.hid (num49_be (k := 2) w h.cut (by decide) (by decide) (by rw [hl]; decide) h256)
  have HS := Lib.hid h; have HR := Lib.hid hr; have HL := Lib.hid hl; have H256 := Lib.hid h256
  clear h hr hl h256
  unfold num1
  go_enter Tryz.func39, Tryz.ntmps39
  go_wp2_with fail
  refine (HN.out).mono ?_
  rintro e w1 ⟨rfl, k1, o1, k2⟩
  have hS1 : CS w0 q kd v p g c 2 l w1 := HS.out.turn k1 k2
  have HD := Lib.hid (hS1.step (Below.refl _ _).drew)
  clear k1 k2 hS1 HN HS
  go_wp2_with fail
  have HN := Lib.hid (num49_be (pos := 2) (k := 4) w1.drew HD.out.cut (by decide) (by decide) (by rw [HL.out]; decide) H256.out)
  have hS : ∃ pos, CS w0 q kd v p g c pos l w1.drew := ⟨_, HD.out⟩
  by_cases k5 : kd = 5
  · have t1 : ((kd : Int) == 5) = true := by simp; omega
    obtain rfl : r = true := by rw [← HR.out]; simp [k5]
    clear k5
    refine wp_region_held_drew (S := fun W => ∃ pos, CS w0 q kd v p g c pos l W) (by kernel_rfl) hS ?_
    clear hS
    intro HSS
    refine wpAnyH_take (i := 0) (v := ?_) rfl (by kernel_rfl) (by kernel_rfl) (by kernel_rfl) (fun _ _ _ h => h) (Or.inl ⟨by go_simp, ?hy⟩) HSS ?_
    case hy => intro W hW; go_simp; (try with_reducible rfl)
    try simp only [List.getElem_toArray, List.getElem_cons_zero, List.getElem_cons_succ, Act.put, List.setIfInBounds_toArray, List.set_cons_zero, List.set_cons_succ]
    refine wpAnyH_take (i := 3) (v := ?_) rfl (by kernel_rfl) (by kernel_rfl) (by kernel_rfl) (fun _ _ _ h => h) (Or.inl ⟨by go_simp, ?hy⟩) HSS ?_
    case hy => intro W hW; go_simp; (try with_reducible rfl)
    try simp only [List.getElem_toArray, List.getElem_cons_zero, List.getElem_cons_succ, Act.put, List.setIfInBounds_toArray, List.set_cons_zero, List.set_cons_succ]
    refine wpAnyH_take (i := 4) (v := ?_) rfl (by kernel_rfl) (by kernel_rfl) (by kernel_rfl) (fun _ _ _ h => h) (Or.inl ⟨by go_simp, ?hy⟩) HSS ?_
    case hy => intro W hW; obtain ⟨_, hc⟩ := hW; have c := cell_blk hc.box 0; simp only [List.getElem?_toArray, List.getElem?_cons_zero] at c; go_simp; (try with_reducible rfl)
    try simp only [List.getElem_toArray, List.getElem_cons_zero, List.getElem_cons_succ, Act.put, List.setIfInBounds_toArray, List.set_cons_zero, List.set_cons_succ]
    refine wpAnyH_take (i := 5) (v := .bool true) rfl (by kernel_rfl) (by kernel_rfl) (by kernel_rfl) (fun _ _ _ h => h) (Or.inl ⟨by go_simp, fun W hW => by go_simp⟩) HSS ?_
    try simp only [List.getElem_toArray, List.getElem_cons_zero, List.getElem_cons_succ, Act.put, List.setIfInBounds_toArray, List.set_cons_zero, List.set_cons_succ]
    refine wpAnyH_ready (rs := [1]) (by kernel_rfl) (by simp) ?_
    refine AllReadyH.cons rfl (fun K hK => ?_) AllReadyH.nil
    rw [if_pos (by kernel_rfl)]
    simp only [List.getElem_toArray, List.getElem_cons_zero, List.getElem_cons_succ]
    go_simp
    refine (HN.out).mono ?_
    rintro e w6 ⟨rfl, h1, o1, ht1⟩
    obtain ⟨b2, e2⟩ : ∃ b2, beN ((l.drop 2).take 4) = b2 := ⟨_, rfl⟩
    have E2 := Lib.hid e2
    have hb2 : b2 < 4294967296 := by rw [← e2]; exact beN_lt (k := 4) (fun x hx => H256.out x (List.mem_of_mem_drop (List.mem_of_mem_take hx))) (by rw [List.length_take]; omega)
    rw [e2]
    have hS6 : CS w0 q kd v p g c 6 l w6 := HD.out.turn h1 ht1
    have HS6 := Lib.hid hS6
    refine hK.out _ _ (⟨_, hS6⟩) (fun HSS => ?_)
    clear hK h1 ht1 hS6 HD e2 HN
    try simp only [List.getElem_toArray, List.getElem_cons_zero, List.getElem_cons_succ, Act.put, List.setIfInBounds_toArray, List.set_cons_zero, List.set_cons_succ]
    refine wpAnyH_take (i := 2) (v := .int .u32 (b2 : Int)) rfl (by kernel_rfl) (by kernel_rfl) (by kernel_rfl) (fun _ _ _ h => h) (Or.inl ⟨by go_simp, fun W hW => by go_simp; exact u32_small hb2⟩) HSS ?_
    try simp only [List.getElem_toArray, List.getElem_cons_zero, List.getElem_cons_succ, Act.put, List.setIfInBounds_toArray, List.set_cons_zero, List.set_cons_succ]
    refine wpAnyH_take (i := 6) (v := ?_) rfl (by kernel_rfl) (by kernel_rfl) (by kernel_rfl) (fun _ _ _ h => h) (Or.inl ⟨by go_simp, ?hy⟩) HSS ?_
    case hy => intro W hW; go_simp; (try with_reducible rfl)
    try simp only [List.getElem_toArray, List.getElem_cons_zero, List.getElem_cons_succ, Act.put, List.setIfInBounds_toArray, List.set_cons_zero, List.set_cons_succ]
    refine wpAnyH_take (i := 7) (v := ?_) rfl (by kernel_rfl) (by kernel_rfl) (by kernel_rfl) (fun _ _ _ h => h) (Or.inl ⟨by go_simp, ?hy⟩) HSS ?_
    case hy => intro W hW; go_simp; (try with_reducible rfl)
    try simp only [List.getElem_toArray, List.getElem_cons_zero, List.getElem_cons_succ, Act.put, List.setIfInBounds_toArray, List.set_cons_zero, List.set_cons_succ]
    refine wpAnyH_done (by kernel_rfl) ?_ _
    clear HSS
    go_wp2_with fail
    refine bodyPost_ret (v := .tuple #[.int .u32 (b2 : Int), .bool true]) ?_ rfl ?_
    · simp [results, Tryz.results39, go_sem]
      try rfl
    · exact ⟨by rw [← E2.out], HS6.out⟩
  · have t1 : ((kd : Int) == 5) = false := by simp; omega
    obtain rfl : r = false := by rw [← HR.out]; simp [k5]
    clear k5
    refine wp_region_held_drew (S := fun W => ∃ pos, CS w0 q kd v p g c pos l W) (by kernel_rfl) hS ?_
    clear hS
    intro HSS
    refine wpAnyH_take (i := 0) (v := ?_) rfl (by kernel_rfl) (by kernel_rfl) (by kernel_rfl) (fun _ _ _ h => h) (Or.inl ⟨by go_simp, ?hy⟩) HSS ?_
    case hy => intro W hW; go_simp; (try with_reducible rfl)
    try simp only [List.getElem_toArray, List.getElem_cons_zero, List.getElem_cons_succ, Act.put, List.setIfInBounds_toArray, List.set_cons_zero, List.set_cons_succ]
    refine wpAnyH_take (i := 3) (v := ?_) rfl (by kernel_rfl) (by kernel_rfl) (by kernel_rfl) (fun _ _ _ h => h) (Or.inl ⟨by go_simp, ?hy⟩) HSS ?_
    case hy => intro W hW; go_simp; (try with_reducible rfl)
    try simp only [List.getElem_toArray, List.getElem_cons_zero, List.getElem_cons_succ, Act.put, List.setIfInBounds_toArray, List.set_cons_zero, List.set_cons_succ]
    refine wpAnyH_take (i := 4) (v := ?_) rfl (by kernel_rfl) (by kernel_rfl) (by kernel_rfl) (fun _ _ _ h => h) (Or.inl ⟨by go_simp, ?hy⟩) HSS ?_
    case hy => intro W hW; obtain ⟨_, hc⟩ := hW; have c := cell_blk hc.box 0; simp only [List.getElem?_toArray, List.getElem?_cons_zero] at c; go_simp; (try with_reducible rfl)
    try simp only [List.getElem_toArray, List.getElem_cons_zero, List.getElem_cons_succ, Act.put, List.setIfInBounds_toArray, List.set_cons_zero, List.set_cons_succ]
    refine wpAnyH_take (i := 5) (v := .bool false) rfl (by kernel_rfl) (by kernel_rfl) (by kernel_rfl) (fun _ _ _ h => h) (Or.inl ⟨by go_simp, fun W hW => by go_simp⟩) HSS ?_
    try simp only [List.getElem_toArray, List.getElem_cons_zero, List.getElem_cons_succ, Act.put, List.setIfInBounds_toArray, List.set_cons_zero, List.set_cons_succ]
    refine wpAnyH_ready (rs := [1]) (by kernel_rfl) (by simp) ?_
    refine AllReadyH.cons rfl (fun K hK => ?_) AllReadyH.nil
    rw [if_pos (by kernel_rfl)]
    simp only [List.getElem_toArray, List.getElem_cons_zero, List.getElem_cons_succ]
    go_simp
    refine (HN.out).mono ?_
    rintro e w6 ⟨rfl, h1, o1, ht1⟩
    obtain ⟨b2, e2⟩ : ∃ b2, beN ((l.drop 2).take 4) = b2 := ⟨_, rfl⟩
    have E2 := Lib.hid e2
    have hb2 : b2 < 4294967296 := by rw [← e2]; exact beN_lt (k := 4) (fun x hx => H256.out x (List.mem_of_mem_drop (List.mem_of_mem_take hx))) (by rw [List.length_take]; omega)
    rw [e2]
    have hS6 : CS w0 q kd v p g c 6 l w6 := HD.out.turn h1 ht1
    have HS6 := Lib.hid hS6
    refine hK.out _ _ (⟨_, hS6⟩) (fun HSS => ?_)
    clear hK h1 ht1 hS6 HD e2 HN
    try simp only [List.getElem_toArray, List.getElem_cons_zero, List.getElem_cons_succ, Act.put, List.setIfInBounds_toArray, List.set_cons_zero, List.set_cons_succ]
    refine wpAnyH_take (i := 2) (v := .int .u32 (b2 : Int)) rfl (by kernel_rfl) (by kernel_rfl) (by kernel_rfl) (fun _ _ _ h => h) (Or.inl ⟨by go_simp, fun W hW => by go_simp; exact u32_small hb2⟩) HSS ?_
    try simp only [List.getElem_toArray, List.getElem_cons_zero, List.getElem_cons_succ, Act.put, List.setIfInBounds_toArray, List.set_cons_zero, List.set_cons_succ]
    refine wpAnyH_take (i := 6) (v := ?_) rfl (by kernel_rfl) (by kernel_rfl) (by kernel_rfl) (fun _ _ _ h => h) (Or.inl ⟨by go_simp, ?hy⟩) HSS ?_
    case hy => intro W hW; go_simp; (try with_reducible rfl)
    try simp only [List.getElem_toArray, List.getElem_cons_zero, List.getElem_cons_succ, Act.put, List.setIfInBounds_toArray, List.set_cons_zero, List.set_cons_succ]
    refine wpAnyH_take (i := 7) (v := ?_) rfl (by kernel_rfl) (by kernel_rfl) (by kernel_rfl) (fun _ _ _ h => h) (Or.inl ⟨by go_simp, ?hy⟩) HSS ?_
    case hy => intro W hW; go_simp; (try with_reducible rfl)
    try simp only [List.getElem_toArray, List.getElem_cons_zero, List.getElem_cons_succ, Act.put, List.setIfInBounds_toArray, List.set_cons_zero, List.set_cons_succ]
    refine wpAnyH_done (by kernel_rfl) ?_ _
    clear HSS
    go_wp2_with fail
    refine bodyPost_ret (v := .tuple #[.int .u32 (b2 : Int), .bool false]) ?_ rfl ?_
    · simp [results, Tryz.results39, go_sem]
      try rfl
    · exact ⟨by rw [← E2.out], HS6.out⟩
set_option maxRecDepth 100000 in
set_option maxHeartbeats 4000000 in
theorem told90 {q kd : Nat} {A : Option Addr} {c : Nat} {l : List Nat} (w : World) {v : Value} (hq : w.heap[q]? = some (.cells #[.int .u8 (kd : Int), v] 24 (0, 0))) (h : Bs w w.heap.size A c l) (hl : l.length ≤ 1000000000) (h256 : ∀ x ∈ l, x < 256) :
    Calls Tryz.prog 38 #[.slice A l.length c, .int .i64 6, .func (.func 39) #[] #[.pointer (some ⟨q, 0, none⟩)]] w fun e w' => e = .returned (.tuple #[.int .u32 ((if l.length = 6 ∧ (kd == 5) = true then num1 l 2 4 else 0 : Nat) : Int), .bool (decide (l.length = 6 ∧ (kd == 5) = true))]) ∧ Below w.heap.size w w' := by
  have HQ := Lib.hid hq; have HQL := Lib.hid (lt_of_blk hq)
  have HO := Lib.hid (of47 (c := c) w h hl)
  have H256 := Lib.hid h256
  obtain ⟨n, hn⟩ : ∃ n, l.length = n := ⟨_, rfl⟩
  have HN := Lib.hid hn
  obtain ⟨r, hr⟩ : ∃ r, (kd == 5) = r := ⟨_, rfl⟩
  have HR := Lib.hid hr
  obtain ⟨x, hx⟩ : ∃ x, num1 l 2 4 = x := ⟨_, rfl⟩
  have HX := Lib.hid hx
  rw [hn] at HO
  rw [hn, hr, hx]
  clear hq h h256 hn hr hx
  go_enter Tryz.func38, Tryz.ntmps38
  by_cases h6 : n = 6
  · subst h6
    have t0 : (((6 : Nat) : Int) != 6) = false := by decide
    go_wp2_with fail
    refine (HO.out).mono ?_
    rintro e w1 ⟨p, g, c1, rfl, k1, k2, k3, k4⟩
    have hS1 : CS w q kd v p g c1 0 l w1 := ⟨k1, (k4.block q HQL.out).trans HQ.out, k2, by have := HQL.out; omega, k4⟩
    have hm := mtu91 w1 hS1 HN.out H256.out HR.out
    rw [HX.out] at hm
    have HCL := Lib.hid hm
    clear k1 k2 k3 k4 hS1 HO hm
    go_wp2_with fail
    refine (HCL.out).mono ?_
    rintro e W ⟨rfl, hS2⟩
    have HS4 := Lib.hid hS2
    obtain ⟨Ap, hp, _⟩ := hS2.cut.at_
    rw [HN.out] at hp
    have HBAD := Lib.hid (bad51 W hp)
    have HLEFT : Hid (Calls Tryz.prog 42 #[.pointer (some ⟨p, 0, none⟩)] W fun e w' => e = .returned (.int .i64 0) ∧ W = w') := Lib.hid ((left48 W hp).mono (by
      rintro e w' ⟨rfl, rfl⟩
      exact ⟨by simp, rfl⟩))
    clear hS2 hp HCL
    cases r
    · go_wp2_with fail
      refine bodyPost_ret (v := .tuple #[.int .u32 0, .bool false]) ?_ rfl ?_
      · simp [results, Tryz.results38, go_sem]
        try rfl
      · exact ⟨rfl, HS4.out.below⟩
    · go_wp2_with fail
      refine (HBAD.out).mono ?_
      rintro e w5 ⟨rfl, rfl⟩
      go_wp2_with fail
      refine (HLEFT.out).mono ?_
      rintro e w5 ⟨rfl, rfl⟩
      go_wp2_with fail
      refine bodyPost_ret (v := .tuple #[.int .u32 (x : Int), .bool true]) ?_ rfl ?_
      · simp [results, Tryz.results38, go_sem]
        try rfl
      · exact ⟨rfl, HS4.out.below⟩
  · have t0 : ((n : Int) != 6) = true := by simp; omega
    have e1 : ¬ (n = 6 ∧ r = true) := fun h => h6 h.1
    rw [if_neg e1, decide_eq_false e1]
    go_wp2_with fail
    refine bodyPost_ret (v := .tuple #[.int .u32 0, .bool false]) ?_ rfl ?_
    · simp [results, Tryz.results38, go_sem]
      try rfl
    · exact ⟨rfl, Below.refl _ _⟩
set_option maxRecDepth 100000 in
set_option maxHeartbeats 4000000 in
theorem mtu76 {kd : Nat} {A : Option Addr} {c : Nat} {l : List Nat} (w : World) (h : Bs w w.heap.size A c l) (hl : l.length ≤ 1000000000) (h256 : ∀ x ∈ l, x < 256) :
    Calls Tryz.prog 10 #[.agg #[.int .u8 (kd : Int), .slice A l.length c]] w fun e w' => e = .returned (.tuple #[.int .u32 ((if l.length = 6 ∧ (kd == 5) = true then num1 l 2 4 else 0 : Nat) : Int), .bool (decide (l.length = 6 ∧ (kd == 5) = true))]) ∧ Below w.heap.size w w' := by
  have h2 := heap_alloc_new w (.cells #[.int .u8 (kd : Int), .slice A l.length c] 24)
  have hb2 : Below w.heap.size w (w.alloc (.cells #[.int .u8 (kd : Int), .slice A l.length c] 24)) := (Below.refl _ _).alloc (Nat.le_refl _) _
  obtain ⟨V, hV⟩ : ∃ V, V = w.alloc (.cells #[.int .u8 (kd : Int), .slice A l.length c] 24) := ⟨_, rfl⟩
  rw [← hV] at hb2 h2
  have HT := Lib.hid (told90 (A := A) (c := c) (l := l) V h2 ((h.below hb2).mono hb2.size) hl h256)
  obtain ⟨x, ex⟩ : ∃ x, x = (if l.length = 6 ∧ (kd == 5) = true then num1 l 2 4 else 0 : Nat) := ⟨_, rfl⟩
  obtain ⟨b, eb⟩ : ∃ b, b = decide (l.length = 6 ∧ (kd == 5) = true) := ⟨_, rfl⟩
  rw [← ex, ← eb] at HT ⊢
  obtain ⟨n, hn⟩ : ∃ n, l.length = n := ⟨_, rfl⟩
  rw [hn] at HT h2 hV ⊢
  have c1 := cell_blk h2 1
  simp only [List.getElem?_toArray, List.getElem?_cons_zero, List.getElem?_cons_succ] at c1
  have HB := Lib.hid hb2
  clear h ex eb hn hb2 h2 hl h256
  go_enter Tryz.func10, Tryz.ntmps10
  go_wp2_with fail
  rw [← hV]
  clear hV
  refine (HT.out).mono ?_
  rintro e w3 ⟨rfl, hb⟩
  have HB3 := Lib.hid (HB.out.trans (hb.mono HB.out.size))
  clear hb HT
  go_wp2_with fail
  refine bodyPost_ret (v := .tuple #[.int .u32 (x : Int), .bool b]) ?_ rfl ?_
  · simp [results, Tryz.results10, go_sem]
    try rfl
  · exact ⟨rfl, HB3.out⟩
end Go.Proofs.YtfolamkjlgpgmaaGreatDoor
