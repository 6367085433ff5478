/- An option read: the cutter and the box; an address of the link: the walks. No condition. (Printed by gTellM.py.) -/
import Derived.Test.YtfolamkjlgpgmaaGreatDoorMask
import Derived.Test.YtfolamkjlgpgmaaGreatDoorGet
import Derived.Handy
namespace Go.Proofs.YtfolamkjlgpgmaaGreatDoor
open Go.RowKit
set_option linter.unusedVariables false
set_option linter.unusedSimpArgs false
/-- a cutter of one's own, and the box of an option -/
structure CS (w0 : World) (q kd : Nat) (v : Value) (p g c pos : Nat) (bs : List Nat) (W : World) : Prop where
  cut : CutAt W p g c pos bs
  box : W.heap[q]? = some (.cells #[.int .u8 (kd : Int), v] 24 (0, 0))
  low : w0.heap.size ≤ p
  ne : q ≠ p
  below : Below w0.heap.size w0 W
theorem CS.step {w0 W W' : World} {q kd p g c pos : Nat} {v : Value} {bs : List Nat} (h : CS w0 q kd v p g c pos bs W) (hb : Below W.heap.size W W') : CS w0 q kd v p g c pos bs W' :=
  ⟨h.cut.step hb, (hb.block _ (lt_of_blk h.box)).trans h.box, h.low, h.ne, h.below.trans (hb.mono h.below.size)⟩
theorem CS.turn {w0 W W' : World} {q kd p g c pos pos' : Nat} {v : Value} {bs : List Nat} {o : Obj} (h : CS w0 q kd v p g c pos bs W) (hc : CutAt W' p g c pos' bs) (ht : Turned p o W W') : CS w0 q kd v p g c pos' bs W' :=
  ⟨hc, ht.keep h.box h.ne, h.low, h.ne, h.below.trans (ht.below h.low)⟩
theorem CS.of_turn {w0 W W' : World} {q kd p g c pos b : Nat} {v : Value} {bs : List Nat} {o : Obj} (h : CS w0 q kd v p g c pos bs W) (ht : Turned b o W W') (hb : w0.heap.size ≤ b) (h1 : b ≠ q) (h2 : b ≠ p) (h3 : bs ≠ [] → b ≠ g) : CS w0 q kd v p g c pos bs W' := by
  obtain ⟨A, hA, hA2⟩ := h.cut.at_
  refine ⟨⟨h.cut.le, h.cut.cap, h.cut.max, ⟨A, ht.keep hA (fun e => h2 e.symm), hA2⟩, fun k x hx => ?_, h.cut.ne⟩, ht.keep h.box (fun e => h1 e.symm), h.low, h.ne, h.below.trans (ht.below hb)⟩
  have := ht.other (k := g) (fun e => h3 (by rintro rfl; simp at hx) e.symm)
  rw [← h.cut.rd k x hx]
  simp only [World.cell?, this]
theorem arr49 (a : Addr) (W : World) : (Instr.arrayAt 28 (.slice (some a) 6 6)).run Tryz.prog W = .ok (.pointer (some a)) W := by simp [Instr.arrayAt, run_underlying Tryz.underlying28]
theorem arr51 (a : Addr) (W : World) : (Instr.arrayAt 32 (.slice (some a) 16 16)).run Tryz.prog W = .ok (.pointer (some a)) W := by simp [Instr.arrayAt, run_underlying Tryz.underlying32]
set_option maxRecDepth 100000 in
set_option maxHeartbeats 4000000 in
theorem mac86 {w0 : World} {q kd p g c : Nat} {v : Value} {bs : List Nat} {m : Nat → Nat} (w : World) (h : CS w0 q kd v p g c 0 bs w) (hl : bs.length = 6) (hm : ∀ i, i < 6 → bs[i]? = some (m i)) {r : Bool} (hr : (kd == 1 || kd == 2) = r) :
    Calls Tryz.prog 30 #[.pointer (some ⟨p, 0, none⟩), .pointer (some ⟨q, 0, none⟩)] w fun e w' => e = .returned (.tuple #[.agg #[.int .u8 (m 0 : Int), .int .u8 (m 1 : Int), .int .u8 (m 2 : Int), .int .u8 (m 3 : Int), .int .u8 (m 4 : Int), .int .u8 (m 5 : Int)], .bool r]) ∧ CS w0 q kd v p g c 6 bs w' := by
  have hz := heap_alloc_new w (.cells #[.int .u8 0, .int .u8 0, .int .u8 0, .int .u8 0, .int .u8 0, .int .u8 0] 28)
  have hB := h.step ((Below.refl w.heap.size w).alloc (Nat.le_refl _) (.cells #[.int .u8 0, .int .u8 0, .int .u8 0, .int .u8 0, .int .u8 0, .int .u8 0] 28))
  obtain ⟨A0, hp0, _⟩ := h.cut.at_
  have hpl := lt_of_blk hp0
  obtain ⟨t, ht⟩ : ∃ t, t = w.heap.size := ⟨_, rfl⟩
  have hnt : t ≠ p := by omega
  have hlow : w0.heap.size ≤ t := by rw [ht]; exact h.below.size
  have hqt : t ≠ q := by have := lt_of_blk h.box; omega
  have hgt : bs ≠ [] → t ≠ g := fun _ => by have := lt_of_cell (h.cut.rd 0 _ (hm 0 (by decide))); omega
  obtain ⟨V, hV⟩ : ∃ V, V = w.alloc (.cells #[.int .u8 0, .int .u8 0, .int .u8 0, .int .u8 0, .int .u8 0, .int .u8 0] 28) := ⟨_, rfl⟩
  rw [← hV] at hz hB
  rw [← ht] at hz
  have HZ := Lib.hid hz; have HB := Lib.hid (hB.step (Below.refl _ _).drew); have HR := Lib.hid hr
  clear hz hB hp0 hr
  go_enter Tryz.func30, Tryz.ntmps30
  go_wp2_with fail
  rw [← hV, ← ht]
  have hS : (∃ pos, CS w0 q kd v p g c pos bs V.drew) ∧ ∃ cs, V.drew.heap[t]? = some (.cells cs 28 (0, 0)) := ⟨⟨_, HB.out⟩, _, HZ.out⟩
  clear hV ht hpl
  by_cases k1 : kd = 1
  · have t1 : ((kd : Int) == 1) = true := by simp; omega
    obtain rfl : r = true := by rw [← HR.out]; simp [k1]
    refine wp_region_held_drew (S := fun W => (∃ pos, CS w0 q kd v p g c pos bs W) ∧ ∃ cs, W.heap[t]? = some (.cells cs 28 (0, 0))) (by kernel_rfl) hS ?_
    clear hS
    intro HS
    refine wpAnyH_take (i := 0) (v := ?_) rfl (by kernel_rfl) (by kernel_rfl) (by kernel_rfl) (fun _ _ _ h => h) (Or.inl ⟨by go_simp, ?hy⟩) HS ?_
    case hy => intro W hW; go_simp; (try with_reducible rfl)
    try simp only [List.getElem_toArray, List.getElem_cons_zero, List.getElem_cons_succ, Act.put, List.setIfInBounds_toArray, List.set_cons_zero, List.set_cons_succ]
    refine wpAnyH_take (i := 4) (v := ?_) rfl (by kernel_rfl) (by kernel_rfl) (by kernel_rfl) (fun _ _ _ h => h) (Or.inl ⟨by go_simp, ?hy⟩) HS ?_
    case hy => intro W hW; go_simp; (try with_reducible rfl)
    try simp only [List.getElem_toArray, List.getElem_cons_zero, List.getElem_cons_succ, Act.put, List.setIfInBounds_toArray, List.set_cons_zero, List.set_cons_succ]
    refine wpAnyH_take (i := 5) (v := ?_) rfl (by kernel_rfl) (by kernel_rfl) (by kernel_rfl) (fun _ _ _ h => h) (Or.inl ⟨by go_simp, ?hy⟩) HS ?_
    case hy => intro W hW; obtain ⟨⟨_, hc⟩, _⟩ := hW; have c := cell_blk hc.box 0; simp only [List.getElem?_toArray, List.getElem?_cons_zero] at c; go_simp; (try with_reducible rfl)
    try simp only [List.getElem_toArray, List.getElem_cons_zero, List.getElem_cons_succ, Act.put, List.setIfInBounds_toArray, List.set_cons_zero, List.set_cons_succ]
    refine wpAnyH_take (i := 6) (v := .bool true) rfl (by kernel_rfl) (by kernel_rfl) (by kernel_rfl) (fun _ _ _ h => h) (Or.inl ⟨by go_simp, fun W hW => by go_simp⟩) HS ?_
    try simp only [List.getElem_toArray, List.getElem_cons_zero, List.getElem_cons_succ, Act.put, List.setIfInBounds_toArray, List.set_cons_zero, List.set_cons_succ]
    refine wpAnyH_ready (rs := [1]) (by kernel_rfl) (by simp) ?_
    refine AllReadyH.cons rfl (fun K hK => ?_) AllReadyH.nil
    rw [if_pos (by kernel_rfl)]
    simp only [List.getElem_toArray, List.getElem_cons_zero, List.getElem_cons_succ]
    go_simp
    refine (bytes50_ok 6 _ HB.out.cut (by decide) (by omega)).mono ?_
    rintro e w1 ⟨rfl, h1, o1, ht1⟩
    have hS1 := HB.out.turn h1 ht1
    have HS1 := Lib.hid hS1
    have hT1 := ht1.keep HZ.out hnt
    have HT1 := Lib.hid hT1
    refine hK.out _ _ (⟨⟨_, hS1⟩, _, hT1⟩) (fun HS => ?_)
    clear hK h1 ht1 hS1 hT1 HB
    try simp only [List.getElem_toArray, List.getElem_cons_zero, List.getElem_cons_succ, Act.put, List.setIfInBounds_toArray, List.set_cons_zero, List.set_cons_succ]
    refine wpAnyH_take (i := 2) (v := ?_) rfl (by kernel_rfl) (by kernel_rfl) (by kernel_rfl) (fun _ _ _ h => h) (Or.inl ⟨by go_simp, ?hy⟩) HS ?_
    case hy => intro W hW; have ha := arr49 ⟨g, 0, none⟩ W; go_simp; (try with_reducible rfl)
    try simp only [List.getElem_toArray, List.getElem_cons_zero, List.getElem_cons_succ, Act.put, List.setIfInBounds_toArray, List.set_cons_zero, List.set_cons_succ]
    refine wpAnyH_take (i := 3) (v := ?_) rfl (by kernel_rfl) (by kernel_rfl) (by kernel_rfl) (fun _ _ _ h => h) (Or.inl ⟨by go_simp, ?hy⟩) HS ?_
    case hy => intro W hW; obtain ⟨⟨_, hc⟩, _⟩ := hW; have hr := fun (i : Nat) (hi : i < 6) => hc.cut.rd i _ (hm i hi); have c0 := hr 0 (by decide); have c1 := hr 1 (by decide); have c2 := hr 2 (by decide); have c3 := hr 3 (by decide); have c4 := hr 4 (by decide); have c5 := hr 5 (by decide); go_simp; (try with_reducible rfl)
    try simp only [List.getElem_toArray, List.getElem_cons_zero, List.getElem_cons_succ, Act.put, List.setIfInBounds_toArray, List.set_cons_zero, List.set_cons_succ]
    refine wpAnyH_take (i := 7) (v := .bool true) rfl (by kernel_rfl) (by kernel_rfl) (by kernel_rfl) (fun _ _ _ h => h) (Or.inl ⟨by go_simp, fun W hW => by go_simp⟩) HS ?_
    try simp only [List.getElem_toArray, List.getElem_cons_zero, List.getElem_cons_succ, Act.put, List.setIfInBounds_toArray, List.set_cons_zero, List.set_cons_succ]
    refine wpAnyH_take (i := 8) (v := undef) rfl (by kernel_rfl) (by kernel_rfl) (by kernel_rfl) (fun _ _ _ h => h) (Or.inr ⟨by go_simp, rfl⟩) HS ?_
    try simp only [List.getElem_toArray, List.getElem_cons_zero, List.getElem_cons_succ, Act.put, List.setIfInBounds_toArray, List.set_cons_zero, List.set_cons_succ]
    refine wpAnyH_take (i := 9) (v := undef) rfl (by kernel_rfl) (by kernel_rfl) (by kernel_rfl) (fun _ _ _ h => h) (Or.inr ⟨by go_simp, rfl⟩) HS ?_
    try simp only [List.getElem_toArray, List.getElem_cons_zero, List.getElem_cons_succ, Act.put, List.setIfInBounds_toArray, List.set_cons_zero, List.set_cons_succ]
    refine wpAnyH_take (i := 10) (v := undef) rfl (by kernel_rfl) (by kernel_rfl) (by kernel_rfl) (fun _ _ _ h => h) (Or.inr ⟨by go_simp, rfl⟩) HS ?_
    try simp only [List.getElem_toArray, List.getElem_cons_zero, List.getElem_cons_succ, Act.put, List.setIfInBounds_toArray, List.set_cons_zero, List.set_cons_succ]
    refine wpAnyH_take (i := 11) (v := .bool true) rfl (by kernel_rfl) (by kernel_rfl) (by kernel_rfl) (fun _ _ _ h => h) (Or.inl ⟨by go_simp, fun W hW => by go_simp⟩) HS ?_
    try simp only [List.getElem_toArray, List.getElem_cons_zero, List.getElem_cons_succ, Act.put, List.setIfInBounds_toArray, List.set_cons_zero, List.set_cons_succ]
    have z0 := cell_blk HT1.out 0
    have f0 := frozen_blk HT1.out 0
    have z1 := cell_blk HT1.out 1
    have f1 := frozen_blk HT1.out 1
    have z2 := cell_blk HT1.out 2
    have f2 := frozen_blk HT1.out 2
    have z3 := cell_blk HT1.out 3
    have f3 := frozen_blk HT1.out 3
    have z4 := cell_blk HT1.out 4
    have f4 := frozen_blk HT1.out 4
    have z5 := cell_blk HT1.out 5
    have f5 := frozen_blk HT1.out 5
    simp only [List.getElem?_toArray, List.getElem?_cons_zero, List.getElem?_cons_succ] at z0 z1 z2 z3 z4 z5
    have hl6 := lt_of_blk HT1.out
    have t0 := Turned.setCell HT1.out 0 (.int .u8 (m 0 : Int))
    have t1' := t0.trans (Turned.setCell (t0.get hl6) 1 (.int .u8 (m 1 : Int)))
    have t2' := t1'.trans (Turned.setCell (t1'.get hl6) 2 (.int .u8 (m 2 : Int)))
    have t3' := t2'.trans (Turned.setCell (t2'.get hl6) 3 (.int .u8 (m 3 : Int)))
    have t4' := t3'.trans (Turned.setCell (t3'.get hl6) 4 (.int .u8 (m 4 : Int)))
    have t5' := t4'.trans (Turned.setCell (t4'.get hl6) 5 (.int .u8 (m 5 : Int)))
    simp only [List.setIfInBounds_toArray, List.set_cons_zero, List.set_cons_succ] at t5'
    have hS9 := HS1.out.of_turn t5' hlow hqt hnt hgt
    have hT9 := t5'.get hl6
    have HS9 := Lib.hid hS9
    have HT9 := Lib.hid hT9
    clear t0 t1' t2' t3' t4' t5'
    refine wpAnyH_ready (rs := [12]) (by kernel_rfl) (by simp) ?_
    refine AllReadyH.cons rfl (fun K hK => ?_) AllReadyH.nil
    rw [if_pos (by kernel_rfl)]
    simp only [List.getElem_toArray, List.getElem_cons_zero, List.getElem_cons_succ]
    go_simp
    refine hK.out _ _ ⟨⟨_, hS9⟩, _, hT9⟩ (fun HS => ?_)
    clear hK hS9 hT9
    try simp only [List.getElem_toArray, List.getElem_cons_zero, List.getElem_cons_succ, Act.put, List.setIfInBounds_toArray, List.set_cons_zero, List.set_cons_succ]
    refine wpAnyH_take (i := 13) (v := .bool true) rfl (by kernel_rfl) (by kernel_rfl) (by kernel_rfl) (fun _ _ _ h => h) (Or.inl ⟨by go_simp, fun W hW => by go_simp⟩) HS ?_
    try simp only [List.getElem_toArray, List.getElem_cons_zero, List.getElem_cons_succ, Act.put, List.setIfInBounds_toArray, List.set_cons_zero, List.set_cons_succ]
    refine wpAnyH_done (by kernel_rfl) ?_ _
    clear HS
    go_wp2_with fail
    have g0 := cell_blk HT9.out 0
    have g1 := cell_blk HT9.out 1
    have g2 := cell_blk HT9.out 2
    have g3 := cell_blk HT9.out 3
    have g4 := cell_blk HT9.out 4
    have g5 := cell_blk HT9.out 5
    simp only [List.getElem?_toArray, List.getElem?_cons_zero, List.getElem?_cons_succ] at g0 g1 g2 g3 g4 g5
    refine bodyPost_ret (v := .tuple #[.agg #[.int .u8 (m 0 : Int), .int .u8 (m 1 : Int), .int .u8 (m 2 : Int), .int .u8 (m 3 : Int), .int .u8 (m 4 : Int), .int .u8 (m 5 : Int)], .bool true]) ?_ rfl ?_
    · simp [results, Tryz.results30, go_sem, g0, g1, g2, g3, g4, g5]
      try rfl
    · exact ⟨rfl, HS9.out⟩
  · have t1 : ((kd : Int) == 1) = false := by simp; omega
    by_cases k2 : kd = 2
    · have t2 : ((kd : Int) == 2) = true := by simp; omega
      obtain rfl : r = true := by rw [← HR.out]; simp [k2]
      refine wp_region_held_drew (S := fun W => (∃ pos, CS w0 q kd v p g c pos bs W) ∧ ∃ cs, W.heap[t]? = some (.cells cs 28 (0, 0))) (by kernel_rfl) hS ?_
      clear hS
      intro HS
      refine wpAnyH_take (i := 0) (v := ?_) rfl (by kernel_rfl) (by kernel_rfl) (by kernel_rfl) (fun _ _ _ h => h) (Or.inl ⟨by go_simp, ?hy⟩) HS ?_
      case hy => intro W hW; go_simp; (try with_reducible rfl)
      try simp only [List.getElem_toArray, List.getElem_cons_zero, List.getElem_cons_succ, Act.put, List.setIfInBounds_toArray, List.set_cons_zero, List.set_cons_succ]
      refine wpAnyH_take (i := 4) (v := ?_) rfl (by kernel_rfl) (by kernel_rfl) (by kernel_rfl) (fun _ _ _ h => h) (Or.inl ⟨by go_simp, ?hy⟩) HS ?_
      case hy => intro W hW; go_simp; (try with_reducible rfl)
      try simp only [List.getElem_toArray, List.getElem_cons_zero, List.getElem_cons_succ, Act.put, List.setIfInBounds_toArray, List.set_cons_zero, List.set_cons_succ]
      refine wpAnyH_take (i := 5) (v := ?_) rfl (by kernel_rfl) (by kernel_rfl) (by kernel_rfl) (fun _ _ _ h => h) (Or.inl ⟨by go_simp, ?hy⟩) HS ?_
      case hy => intro W hW; obtain ⟨⟨_, hc⟩, _⟩ := hW; have c := cell_blk hc.box 0; simp only [List.getElem?_toArray, List.getElem?_cons_zero] at c; go_simp; (try with_reducible rfl)
      try simp only [List.getElem_toArray, List.getElem_cons_zero, List.getElem_cons_succ, Act.put, List.setIfInBounds_toArray, List.set_cons_zero, List.set_cons_succ]
      refine wpAnyH_take (i := 6) (v := .bool false) rfl (by kernel_rfl) (by kernel_rfl) (by kernel_rfl) (fun _ _ _ h => h) (Or.inl ⟨by go_simp, fun W hW => by go_simp⟩) HS ?_
      try simp only [List.getElem_toArray, List.getElem_cons_zero, List.getElem_cons_succ, Act.put, List.setIfInBounds_toArray, List.set_cons_zero, List.set_cons_succ]
      refine wpAnyH_ready (rs := [1]) (by kernel_rfl) (by simp) ?_
      refine AllReadyH.cons rfl (fun K hK => ?_) AllReadyH.nil
      rw [if_pos (by kernel_rfl)]
      simp only [List.getElem_toArray, List.getElem_cons_zero, List.getElem_cons_succ]
      go_simp
      refine (bytes50_ok 6 _ HB.out.cut (by decide) (by omega)).mono ?_
      rintro e w1 ⟨rfl, h1, o1, ht1⟩
      have hS1 := HB.out.turn h1 ht1
      have HS1 := Lib.hid hS1
      have hT1 := ht1.keep HZ.out hnt
      have HT1 := Lib.hid hT1
      refine hK.out _ _ (⟨⟨_, hS1⟩, _, hT1⟩) (fun HS => ?_)
      clear hK h1 ht1 hS1 hT1 HB
      try simp only [List.getElem_toArray, List.getElem_cons_zero, List.getElem_cons_succ, Act.put, List.setIfInBounds_toArray, List.set_cons_zero, List.set_cons_succ]
      refine wpAnyH_take (i := 2) (v := ?_) rfl (by kernel_rfl) (by kernel_rfl) (by kernel_rfl) (fun _ _ _ h => h) (Or.inl ⟨by go_simp, ?hy⟩) HS ?_
      case hy => intro W hW; have ha := arr49 ⟨g, 0, none⟩ W; go_simp; (try with_reducible rfl)
      try simp only [List.getElem_toArray, List.getElem_cons_zero, List.getElem_cons_succ, Act.put, List.setIfInBounds_toArray, List.set_cons_zero, List.set_cons_succ]
      refine wpAnyH_take (i := 3) (v := ?_) rfl (by kernel_rfl) (by kernel_rfl) (by kernel_rfl) (fun _ _ _ h => h) (Or.inl ⟨by go_simp, ?hy⟩) HS ?_
      case hy => intro W hW; obtain ⟨⟨_, hc⟩, _⟩ := hW; have hr := fun (i : Nat) (hi : i < 6) => hc.cut.rd i _ (hm i hi); have c0 := hr 0 (by decide); have c1 := hr 1 (by decide); have c2 := hr 2 (by decide); have c3 := hr 3 (by decide); have c4 := hr 4 (by decide); have c5 := hr 5 (by decide); go_simp; (try with_reducible rfl)
      try simp only [List.getElem_toArray, List.getElem_cons_zero, List.getElem_cons_succ, Act.put, List.setIfInBounds_toArray, List.set_cons_zero, List.set_cons_succ]
      refine wpAnyH_take (i := 7) (v := .bool false) rfl (by kernel_rfl) (by kernel_rfl) (by kernel_rfl) (fun _ _ _ h => h) (Or.inl ⟨by go_simp, fun W hW => by go_simp⟩) HS ?_
      try simp only [List.getElem_toArray, List.getElem_cons_zero, List.getElem_cons_succ, Act.put, List.setIfInBounds_toArray, List.set_cons_zero, List.set_cons_succ]
      refine wpAnyH_take (i := 8) (v := ?_) rfl (by kernel_rfl) (by kernel_rfl) (by kernel_rfl) (fun _ _ _ h => h) (Or.inl ⟨by go_simp, ?hy⟩) HS ?_
      case hy => intro W hW; go_simp; (try with_reducible rfl)
      try simp only [List.getElem_toArray, List.getElem_cons_zero, List.getElem_cons_succ, Act.put, List.setIfInBounds_toArray, List.set_cons_zero, List.set_cons_succ]
      refine wpAnyH_take (i := 9) (v := ?_) rfl (by kernel_rfl) (by kernel_rfl) (by kernel_rfl) (fun _ _ _ h => h) (Or.inl ⟨by go_simp, ?hy⟩) HS ?_
      case hy => intro W hW; obtain ⟨⟨_, hc⟩, _⟩ := hW; have c := cell_blk hc.box 0; simp only [List.getElem?_toArray, List.getElem?_cons_zero] at c; go_simp; (try with_reducible rfl)
      try simp only [List.getElem_toArray, List.getElem_cons_zero, List.getElem_cons_succ, Act.put, List.setIfInBounds_toArray, List.set_cons_zero, List.set_cons_succ]
      refine wpAnyH_take (i := 10) (v := .bool true) rfl (by kernel_rfl) (by kernel_rfl) (by kernel_rfl) (fun _ _ _ h => h) (Or.inl ⟨by go_simp, fun W hW => by go_simp⟩) HS ?_
      try simp only [List.getElem_toArray, List.getElem_cons_zero, List.getElem_cons_succ, Act.put, List.setIfInBounds_toArray, List.set_cons_zero, List.set_cons_succ]
      refine wpAnyH_take (i := 11) (v := .bool true) rfl (by kernel_rfl) (by kernel_rfl) (by kernel_rfl) (fun _ _ _ h => h) (Or.inl ⟨by go_simp, fun W hW => by go_simp⟩) HS ?_
      try simp only [List.getElem_toArray, List.getElem_cons_zero, List.getElem_cons_succ, Act.put, List.setIfInBounds_toArray, List.set_cons_zero, List.set_cons_succ]
      have z0 := cell_blk HT1.out 0
      have f0 := frozen_blk HT1.out 0
      have z1 := cell_blk HT1.out 1
      have f1 := frozen_blk HT1.out 1
      have z2 := cell_blk HT1.out 2
      have f2 := frozen_blk HT1.out 2
      have z3 := cell_blk HT1.out 3
      have f3 := frozen_blk HT1.out 3
      have z4 := cell_blk HT1.out 4
      have f4 := frozen_blk HT1.out 4
      have z5 := cell_blk HT1.out 5
      have f5 := frozen_blk HT1.out 5
      simp only [List.getElem?_toArray, List.getElem?_cons_zero, List.getElem?_cons_succ] at z0 z1 z2 z3 z4 z5
      have hl6 := lt_of_blk HT1.out
      have t0 := Turned.setCell HT1.out 0 (.int .u8 (m 0 : Int))
      have t1' := t0.trans (Turned.setCell (t0.get hl6) 1 (.int .u8 (m 1 : Int)))
      have t2' := t1'.trans (Turned.setCell (t1'.get hl6) 2 (.int .u8 (m 2 : Int)))
      have t3' := t2'.trans (Turned.setCell (t2'.get hl6) 3 (.int .u8 (m 3 : Int)))
      have t4' := t3'.trans (Turned.setCell (t3'.get hl6) 4 (.int .u8 (m 4 : Int)))
      have t5' := t4'.trans (Turned.setCell (t4'.get hl6) 5 (.int .u8 (m 5 : Int)))
      simp only [List.setIfInBounds_toArray, List.set_cons_zero, List.set_cons_succ] at t5'
      have hS9 := HS1.out.of_turn t5' hlow hqt hnt hgt
      have hT9 := t5'.get hl6
      have HS9 := Lib.hid hS9
      have HT9 := Lib.hid hT9
      clear t0 t1' t2' t3' t4' t5'
      refine wpAnyH_ready (rs := [12]) (by kernel_rfl) (by simp) ?_
      refine AllReadyH.cons rfl (fun K hK => ?_) AllReadyH.nil
      rw [if_pos (by kernel_rfl)]
      simp only [List.getElem_toArray, List.getElem_cons_zero, List.getElem_cons_succ]
      go_simp
      refine hK.out _ _ ⟨⟨_, hS9⟩, _, hT9⟩ (fun HS => ?_)
      clear hK hS9 hT9
      try simp only [List.getElem_toArray, List.getElem_cons_zero, List.getElem_cons_succ, Act.put, List.setIfInBounds_toArray, List.set_cons_zero, List.set_cons_succ]
      refine wpAnyH_take (i := 13) (v := .bool true) rfl (by kernel_rfl) (by kernel_rfl) (by kernel_rfl) (fun _ _ _ h => h) (Or.inl ⟨by go_simp, fun W hW => by go_simp⟩) HS ?_
      try simp only [List.getElem_toArray, List.getElem_cons_zero, List.getElem_cons_succ, Act.put, List.setIfInBounds_toArray, List.set_cons_zero, List.set_cons_succ]
      refine wpAnyH_done (by kernel_rfl) ?_ _
      clear HS
      go_wp2_with fail
      have g0 := cell_blk HT9.out 0
      have g1 := cell_blk HT9.out 1
      have g2 := cell_blk HT9.out 2
      have g3 := cell_blk HT9.out 3
      have g4 := cell_blk HT9.out 4
      have g5 := cell_blk HT9.out 5
      simp only [List.getElem?_toArray, List.getElem?_cons_zero, List.getElem?_cons_succ] at g0 g1 g2 g3 g4 g5
      refine bodyPost_ret (v := .tuple #[.agg #[.int .u8 (m 0 : Int), .int .u8 (m 1 : Int), .int .u8 (m 2 : Int), .int .u8 (m 3 : Int), .int .u8 (m 4 : Int), .int .u8 (m 5 : Int)], .bool true]) ?_ rfl ?_
      · simp [results, Tryz.results30, go_sem, g0, g1, g2, g3, g4, g5]
        try rfl
      · exact ⟨rfl, HS9.out⟩
    · have t2 : ((kd : Int) == 2) = false := by simp; omega
      obtain rfl : r = false := by rw [← HR.out]; simp [k1, k2]
      refine wp_region_held_drew (S := fun W => (∃ pos, CS w0 q kd v p g c pos bs W) ∧ ∃ cs, W.heap[t]? = some (.cells cs 28 (0, 0))) (by kernel_rfl) hS ?_
      clear hS
      intro HS
      refine wpAnyH_take (i := 0) (v := ?_) rfl (by kernel_rfl) (by kernel_rfl) (by kernel_rfl) (fun _ _ _ h => h) (Or.inl ⟨by go_simp, ?hy⟩) HS ?_
      case hy => intro W hW; go_simp; (try with_reducible rfl)
      try simp only [List.getElem_toArray, List.getElem_cons_zero, List.getElem_cons_succ, Act.put, List.setIfInBounds_toArray, List.set_cons_zero, List.set_cons_succ]
      refine wpAnyH_take (i := 4) (v := ?_) rfl (by kernel_rfl) (by kernel_rfl) (by kernel_rfl) (fun _ _ _ h => h) (Or.inl ⟨by go_simp, ?hy⟩) HS ?_
      case hy => intro W hW; go_simp; (try with_reducible rfl)
      try simp only [List.getElem_toArray, List.getElem_cons_zero, List.getElem_cons_succ, Act.put, List.setIfInBounds_toArray, List.set_cons_zero, List.set_cons_succ]
      refine wpAnyH_take (i := 5) (v := ?_) rfl (by kernel_rfl) (by kernel_rfl) (by kernel_rfl) (fun _ _ _ h => h) (Or.inl ⟨by go_simp, ?hy⟩) HS ?_
      case hy => intro W hW; obtain ⟨⟨_, hc⟩, _⟩ := hW; have c := cell_blk hc.box 0; simp only [List.getElem?_toArray, List.getElem?_cons_zero] at c; go_simp; (try with_reducible rfl)
      try simp only [List.getElem_toArray, List.getElem_cons_zero, List.getElem_cons_succ, Act.put, List.setIfInBounds_toArray, List.set_cons_zero, List.set_cons_succ]
      refine wpAnyH_take (i := 6) (v := .bool false) rfl (by kernel_rfl) (by kernel_rfl) (by kernel_rfl) (fun _ _ _ h => h) (Or.inl ⟨by go_simp, fun W hW => by go_simp⟩) HS ?_
      try simp only [List.getElem_toArray, List.getElem_cons_zero, List.getElem_cons_succ, Act.put, List.setIfInBounds_toArray, List.set_cons_zero, List.set_cons_succ]
      refine wpAnyH_ready (rs := [1]) (by kernel_rfl) (by simp) ?_
      refine AllReadyH.cons rfl (fun K hK => ?_) AllReadyH.nil
      rw [if_pos (by kernel_rfl)]
      simp only [List.getElem_toArray, List.getElem_cons_zero, List.getElem_cons_succ]
      go_simp
      refine (bytes50_ok 6 _ HB.out.cut (by decide) (by omega)).mono ?_
      rintro e w1 ⟨rfl, h1, o1, ht1⟩
      have hS1 := HB.out.turn h1 ht1
      have HS1 := Lib.hid hS1
      have hT1 := ht1.keep HZ.out hnt
      have HT1 := Lib.hid hT1
      refine hK.out _ _ (⟨⟨_, hS1⟩, _, hT1⟩) (fun HS => ?_)
      clear hK h1 ht1 hS1 hT1 HB
      try simp only [List.getElem_toArray, List.getElem_cons_zero, List.getElem_cons_succ, Act.put, List.setIfInBounds_toArray, List.set_cons_zero, List.set_cons_succ]
      refine wpAnyH_take (i := 2) (v := ?_) rfl (by kernel_rfl) (by kernel_rfl) (by kernel_rfl) (fun _ _ _ h => h) (Or.inl ⟨by go_simp, ?hy⟩) HS ?_
      case hy => intro W hW; have ha := arr49 ⟨g, 0, none⟩ W; go_simp; (try with_reducible rfl)
      try simp only [List.getElem_toArray, List.getElem_cons_zero, List.getElem_cons_succ, Act.put, List.setIfInBounds_toArray, List.set_cons_zero, List.set_cons_succ]
      refine wpAnyH_take (i := 3) (v := ?_) rfl (by kernel_rfl) (by kernel_rfl) (by kernel_rfl) (fun _ _ _ h => h) (Or.inl ⟨by go_simp, ?hy⟩) HS ?_
      case hy => intro W hW; obtain ⟨⟨_, hc⟩, _⟩ := hW; have hr := fun (i : Nat) (hi : i < 6) => hc.cut.rd i _ (hm i hi); have c0 := hr 0 (by decide); have c1 := hr 1 (by decide); have c2 := hr 2 (by decide); have c3 := hr 3 (by decide); have c4 := hr 4 (by decide); have c5 := hr 5 (by decide); go_simp; (try with_reducible rfl)
      try simp only [List.getElem_toArray, List.getElem_cons_zero, List.getElem_cons_succ, Act.put, List.setIfInBounds_toArray, List.set_cons_zero, List.set_cons_succ]
      refine wpAnyH_take (i := 7) (v := .bool false) rfl (by kernel_rfl) (by kernel_rfl) (by kernel_rfl) (fun _ _ _ h => h) (Or.inl ⟨by go_simp, fun W hW => by go_simp⟩) HS ?_
      try simp only [List.getElem_toArray, List.getElem_cons_zero, List.getElem_cons_succ, Act.put, List.setIfInBounds_toArray, List.set_cons_zero, List.set_cons_succ]
      refine wpAnyH_take (i := 8) (v := ?_) rfl (by kernel_rfl) (by kernel_rfl) (by kernel_rfl) (fun _ _ _ h => h) (Or.inl ⟨by go_simp, ?hy⟩) HS ?_
      case hy => intro W hW; go_simp; (try with_reducible rfl)
      try simp only [List.getElem_toArray, List.getElem_cons_zero, List.getElem_cons_succ, Act.put, List.setIfInBounds_toArray, List.set_cons_zero, List.set_cons_succ]
      refine wpAnyH_take (i := 9) (v := ?_) rfl (by kernel_rfl) (by kernel_rfl) (by kernel_rfl) (fun _ _ _ h => h) (Or.inl ⟨by go_simp, ?hy⟩) HS ?_
      case hy => intro W hW; obtain ⟨⟨_, hc⟩, _⟩ := hW; have c := cell_blk hc.box 0; simp only [List.getElem?_toArray, List.getElem?_cons_zero] at c; go_simp; (try with_reducible rfl)
      try simp only [List.getElem_toArray, List.getElem_cons_zero, List.getElem_cons_succ, Act.put, List.setIfInBounds_toArray, List.set_cons_zero, List.set_cons_succ]
      refine wpAnyH_take (i := 10) (v := .bool false) rfl (by kernel_rfl) (by kernel_rfl) (by kernel_rfl) (fun _ _ _ h => h) (Or.inl ⟨by go_simp, fun W hW => by go_simp⟩) HS ?_
      try simp only [List.getElem_toArray, List.getElem_cons_zero, List.getElem_cons_succ, Act.put, List.setIfInBounds_toArray, List.set_cons_zero, List.set_cons_succ]
      refine wpAnyH_take (i := 11) (v := .bool false) rfl (by kernel_rfl) (by kernel_rfl) (by kernel_rfl) (fun _ _ _ h => h) (Or.inl ⟨by go_simp, fun W hW => by go_simp⟩) HS ?_
      try simp only [List.getElem_toArray, List.getElem_cons_zero, List.getElem_cons_succ, Act.put, List.setIfInBounds_toArray, List.set_cons_zero, List.set_cons_succ]
      have z0 := cell_blk HT1.out 0
      have f0 := frozen_blk HT1.out 0
      have z1 := cell_blk HT1.out 1
      have f1 := frozen_blk HT1.out 1
      have z2 := cell_blk HT1.out 2
      have f2 := frozen_blk HT1.out 2
      have z3 := cell_blk HT1.out 3
      have f3 := frozen_blk HT1.out 3
      have z4 := cell_blk HT1.out 4
      have f4 := frozen_blk HT1.out 4
      have z5 := cell_blk HT1.out 5
      have f5 := frozen_blk HT1.out 5
      simp only [List.getElem?_toArray, List.getElem?_cons_zero, List.getElem?_cons_succ] at z0 z1 z2 z3 z4 z5
      have hl6 := lt_of_blk HT1.out
      have t0 := Turned.setCell HT1.out 0 (.int .u8 (m 0 : Int))
      have t1' := t0.trans (Turned.setCell (t0.get hl6) 1 (.int .u8 (m 1 : Int)))
      have t2' := t1'.trans (Turned.setCell (t1'.get hl6) 2 (.int .u8 (m 2 : Int)))
      have t3' := t2'.trans (Turned.setCell (t2'.get hl6) 3 (.int .u8 (m 3 : Int)))
      have t4' := t3'.trans (Turned.setCell (t3'.get hl6) 4 (.int .u8 (m 4 : Int)))
      have t5' := t4'.trans (Turned.setCell (t4'.get hl6) 5 (.int .u8 (m 5 : Int)))
      simp only [List.setIfInBounds_toArray, List.set_cons_zero, List.set_cons_succ] at t5'
      have hS9 := HS1.out.of_turn t5' hlow hqt hnt hgt
      have hT9 := t5'.get hl6
      have HS9 := Lib.hid hS9
      have HT9 := Lib.hid hT9
      clear t0 t1' t2' t3' t4' t5'
      refine wpAnyH_ready (rs := [12]) (by kernel_rfl) (by simp) ?_
      refine AllReadyH.cons rfl (fun K hK => ?_) AllReadyH.nil
      rw [if_pos (by kernel_rfl)]
      simp only [List.getElem_toArray, List.getElem_cons_zero, List.getElem_cons_succ]
      go_simp
      refine hK.out _ _ ⟨⟨_, hS9⟩, _, hT9⟩ (fun HS => ?_)
      clear hK hS9 hT9
      try simp only [List.getElem_toArray, List.getElem_cons_zero, List.getElem_cons_succ, Act.put, List.setIfInBounds_toArray, List.set_cons_zero, List.set_cons_succ]
      refine wpAnyH_take (i := 13) (v := .bool false) rfl (by kernel_rfl) (by kernel_rfl) (by kernel_rfl) (fun _ _ _ h => h) (Or.inl ⟨by go_simp, fun W hW => by go_simp⟩) HS ?_
      try simp only [List.getElem_toArray, List.getElem_cons_zero, List.getElem_cons_succ, Act.put, List.setIfInBounds_toArray, List.set_cons_zero, List.set_cons_succ]
      refine wpAnyH_done (by kernel_rfl) ?_ _
      clear HS
      go_wp2_with fail
      have g0 := cell_blk HT9.out 0
      have g1 := cell_blk HT9.out 1
      have g2 := cell_blk HT9.out 2
      have g3 := cell_blk HT9.out 3
      have g4 := cell_blk HT9.out 4
      have g5 := cell_blk HT9.out 5
      simp only [List.getElem?_toArray, List.getElem?_cons_zero, List.getElem?_cons_succ] at g0 g1 g2 g3 g4 g5
      refine bodyPost_ret (v := .tuple #[.agg #[.int .u8 (m 0 : Int), .int .u8 (m 1 : Int), .int .u8 (m 2 : Int), .int .u8 (m 3 : Int), .int .u8 (m 4 : Int), .int .u8 (m 5 : Int)], .bool false]) ?_ rfl ?_
      · simp [results, Tryz.results30, go_sem, g0, g1, g2, g3, g4, g5]
        try rfl
      · exact ⟨rfl, HS9.out⟩
end Go.Proofs.YtfolamkjlgpgmaaGreatDoor
