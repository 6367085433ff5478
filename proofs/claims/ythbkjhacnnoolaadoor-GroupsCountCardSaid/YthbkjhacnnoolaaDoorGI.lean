/- What is told of a group that was just noted: the walk. No condition but that the maps are ones. (Written out by exp.py.) -/
import Derived.Test.YthbkjhacnnoolaaDoorGH
namespace Go.Proofs.YthbkjhacnnoolaaDoor
open Go.RowKit
set_option linter.unusedVariables false
set_option linter.unusedSimpArgs false
/-- nothing that was there has turned but the three maps -/
structure Thr (mj ma mc : Nat) (w w' : World) : Prop where
  os : w'.os = w.os
  tape : w'.tape = w.tape
  output : w'.output = w.output
  size : w.heap.size ≤ w'.heap.size
  block : ∀ k, k < w.heap.size → k ≠ mj → k ≠ ma → k ≠ mc → w'.heap[k]? = w.heap[k]?
section
variable {mj ma mc : Nat} {w w1 w2 : World}
theorem Thr.refl : Thr mj ma mc w w := ⟨rfl, rfl, rfl, Nat.le_refl _, fun _ _ _ _ _ => rfl⟩
theorem Thr.trans (h : Thr mj ma mc w w1) (k : Thr mj ma mc w1 w2) : Thr mj ma mc w w2 :=
  ⟨k.os.trans h.os, k.tape.trans h.tape, k.output.trans h.output, Nat.le_trans h.size k.size, fun i hi a b c => (k.block i (Nat.lt_of_lt_of_le hi h.size) a b c).trans (h.block i hi a b c)⟩
theorem Thr.of_below (h : Below w.heap.size w w1) : Thr mj ma mc w w1 := ⟨h.os, h.tape, h.output, h.size, fun k hk _ _ _ => h.block k hk⟩
theorem Thr.step (h : Thr mj ma mc w w1) (k : Below w1.heap.size w1 w2) : Thr mj ma mc w w2 := h.trans (.of_below k)
theorem Thr.drew (h : Thr mj ma mc w w1) : Thr mj ma mc w w1.drew := h.step ((Below.refl _ _).drew)
theorem Thr.map (h : Thr mj ma mc w w1) {m : Nat} (t : w1.mapTurned w2 m) (hm : m = mj ∨ m = ma ∨ m = mc) : Thr mj ma mc w w2 :=
  h.trans ⟨t.grown.os, t.grown.tape, t.grown.output, t.grown.size, fun k hk a b c => t.grown.block k hk (fun e => by
    injection e with e
    rcases hm with e1 | e1 | e1 <;> omega)⟩
theorem Thr.turned (h : Thr mj ma mc w w1) {b : Nat} {o : Obj} (t : Turned b o w1 w2) (hb : w.heap.size ≤ b) : Thr mj ma mc w w2 :=
  ⟨t.os.trans h.os, t.tape.trans h.tape, t.output.trans h.output, by rw [t.size]; exact h.size, fun k hk a1 a2 a3 => (t.other (by omega)).trans (h.block k hk a1 a2 a3)⟩
theorem Thr.below (h : Thr mj ma mc w w1) {B : Nat} (hB : B ≤ w.heap.size) (hj : B ≤ mj) (ha : B ≤ ma) (hc : B ≤ mc) : Below B w w1 :=
  ⟨h.os, h.tape, h.output, h.size, fun k hk => h.block k (by omega) (by omega) (by omega) (by omega)⟩
end
section
variable {P : Program} {k : TypeId} {R : Value → Option (PD × List MemPlace)} {w w' : World} {b n : Nat} {D : PD}
theorem owns_below (h : w.ownsMap P k R b n D) (hb : Below w.heap.size w w') : w'.ownsMap P k R b n D := h.kept (row := none) ⟨hb.os, hb.tape, hb.output, hb.size, fun i hi _ => hb.block i hi⟩ (by simp)
theorem owns_turned (h : w.ownsMap P k R b n D) {q : Nat} {o : Obj} (t : Turned q o w w') (hq : q ≠ b) : w'.ownsMap P k R b n D := h.kept (row := some q) ⟨t.os, t.tape, t.output, by rw [t.size]; exact Nat.le_refl _, fun i hi e => t.other (fun e1 => e (by rw [e1]))⟩ (fun e => hq (by injection e with e; exact e.symm))
theorem owns_map (h : w.ownsMap P k R b n D) {m : Nat} (t : w.mapTurned w' m) (hm : m ≠ b) : w'.ownsMap P k R b n D := h.kept t.grown (fun e => hm (by injection e with e; exact e.symm))
end
theorem zero83 (u : World) : (zeroValue 83).run Tryd.prog u = .ok (chV 0 0 0) u := by kernel_rfl
theorem look_ch {W : World} {mc m : Nat} {D : PD} {l : List Nat} (h : W.ownsMap Tryd.prog 26 chElem mc m D) (hl : Adr l) {a b c : Int} (hD : D.atKey (kl l) (chD 0 0 0) = chD a b c) :
    (Instr.lookup 65 (.map (some mc)) (.agg (row8 l).toArray) false).run Tryd.prog W = .ok (chV a b c) W := by
  obtain ⟨v, ps, h1, h2⟩ := h.lookup keyed Tryd.underlying65 (zero83 W) (chElem_mk 0 0 0) (keyOf_adr hl)
  rw [hD] at h2
  obtain ⟨a', b', c', rfl, hz⟩ := chElem_inv h2
  have e := congrArg Prod.fst hz
  simp only [chD, DataW.agg.injEq, List.cons.injEq, DataW.lit.injEq, Lit.int.injEq, and_true, true_and] at e
  obtain ⟨rfl, rfl, rfl⟩ := e
  exact h1
theorem Tab.blk {w w' : World} {t mj ma mc n m : Nat} {D : PD} (h : Tab w t mj ma mc n m D) (hb : Below w.heap.size w w') : Tab w' t mj ma mc n m D :=
  ⟨⟨(hb.block _ (lt_of_blk h.tb.blk)).trans h.tb.blk⟩, owns_below h.j hb, owns_below h.a hb, h.c.imp fun D h => owns_below h hb, h.ja, h.jc, h.ac, h.tj, h.ta, h.tc⟩
/-- told: a record of the kind, and the maps but for the changes are as they were -/
structure Told (k : Nat) (l : List Nat) (v : Value) (mj ma mc : Nat) (n : Nat) (w w' : World) : Prop where
  rec_ : ∃ g, v = .slice (some ⟨g, 0, none⟩) 1 1 ∧ w.heap.size ≤ g ∧ w'.heap[g]? = some (.cells (recL k l).toArray 42 (0, 0))
  thr : Thr mc mc mc w w'
  c : MC w' mc n
theorem Tb.c0 {w : World} {t mj ma mc : Nat} (h : Tb w t mj ma mc) : w.cell? ⟨t, 0, none⟩ = some (.map (some mj)) := by rw [cell_blk h.blk]; rfl
theorem Tb.c1 {w : World} {t mj ma mc : Nat} (h : Tb w t mj ma mc) : w.cell? ⟨t, 1, none⟩ = some (.map (some ma)) := by rw [cell_blk h.blk]; rfl
theorem Tb.c2 {w : World} {t mj ma mc : Nat} (h : Tb w t mj ma mc) : w.cell? ⟨t, 2, none⟩ = some (.map (some mc)) := by rw [cell_blk h.blk]; rfl
/-- what the region of 'tell' sees -/
structure Sees (w W : World) (t mj ma mc m b : Nat) (D : PD) (X : List Value) : Prop where
  thr : Thr mc mc mc w W
  b : W.heap[b]? = some (.cells X.toArray 26 (0, 0))
  tb : Tb W t mj ma mc
  c : W.ownsMap Tryd.prog 26 chElem mc m D
theorem Sees.step {w W W' : World} {t mj ma mc m b : Nat} {D : PD} {X : List Value} (h : Sees w W t mj ma mc m b D X) (hb : Below W.heap.size W W') : Sees w W' t mj ma mc m b D X :=
  ⟨h.thr.step hb, (hb.block _ (lt_of_blk h.b)).trans h.b, ⟨(hb.block _ (lt_of_blk h.tb.blk)).trans h.tb.blk⟩, owns_below h.c hb⟩
theorem Sees.alloc {w W : World} {t mj ma mc m b : Nat} {D : PD} {X : List Value} (h : Sees w W t mj ma mc m b D X) (o : Obj) : Sees w (W.alloc o) t mj ma mc m b D X := h.step ((Below.refl _ _).alloc (Nat.le_refl _) _)
theorem Sees.turned {w W W' : World} {t mj ma mc m b q : Nat} {D : PD} {X : List Value} {C : Array Value} {z : Nat × Nat} {o : Obj} (h : Sees w W t mj ma mc m b D X) (hq : W.heap[q]? = some (.cells C 83 z)) (k : Turned q o W W') (hle : w.heap.size ≤ q) : Sees w W' t mj ma mc m b D X := by
  have nb : b ≠ q := fun e => by have := h.b; rw [e, hq] at this; cases this
  have nt : t ≠ q := fun e => by have := h.tb.blk; rw [e, hq] at this; cases this
  have nm : q ≠ mc := fun e => by
    obtain ⟨es, clock, hm, _⟩ := h.c
    rw [← e, hq] at hm; cases hm
  exact ⟨h.thr.turned k hle, (k.other nb).trans h.b, ⟨(k.other nt).trans h.tb.blk⟩, owns_turned h.c k nm⟩
/-- what the last region sees -/
structure See3 (W : World) (t mj ma mc b q : Nat) (X C : List Value) : Prop where
  b : W.heap[b]? = some (.cells X.toArray 26 (0, 0))
  tb : Tb W t mj ma mc
  q : W.heap[q]? = some (.cells C.toArray 83 (0, 0))
theorem See3.map {W W' : World} {t mj ma mc b q : Nat} {X C : List Value} (h : See3 W t mj ma mc b q X C) (k : W.mapTurned W' mc) : See3 W' t mj ma mc b q X C := by
  have ne : ∀ (i : Nat) (c : Array Value) (t : TypeId) (z : Nat × Nat), W.heap[i]? = some (Obj.cells c t z) → i ≠ mc := fun i c t z hi e => by
    obtain ⟨es, clock, _, _, hm, _⟩ := k
    rw [e, hm] at hi; cases hi
  have kp : ∀ (i : Nat) (c : Array Value) (t : TypeId) (z : Nat × Nat), W.heap[i]? = some (Obj.cells c t z) → W'.heap[i]? = some (Obj.cells c t z) := fun i c t z hi => (k.grown.block i (lt_of_blk hi) (fun e => ne i c t z hi (by injection e))).trans hi
  exact ⟨kp _ _ _ _ h.b, ⟨kp _ _ _ _ h.tb.blk⟩, kp _ _ _ _ h.q⟩
theorem size83 : (Tryd.prog.info? 83).map (·.size) = some 3 := by kernel_rfl
set_option maxRecDepth 100000 in
theorem tell33 {l : List Nat} {t mj ma mc m k now : Nat} {D : PD} (w : World) (hl : Adr l) (htb : Tb w t mj ma mc) (hc : w.ownsMap Tryd.prog 26 chElem mc m D) (hm : m + 1 < maxLen)
    (hD : D.atKey (kl l) (chD 0 0 0) = chD (k : Int) 2 (now : Int)) (hk : k < 256) (hnow : now < 18446744073709551615) :
    Calls Tryd.prog 33 #[.pointer (some ⟨t, 0, none⟩), .int .u64 (now : Int), .agg (row8 l).toArray, .pointer none] w fun e w' => ∃ v, e = .returned v ∧ Told k l v mj ma mc (m + 1) w w' := by
  have hal : Below w.heap.size w (w.alloc (.cells (row8 l).toArray 26)) := (Below.refl _ _).alloc (Nat.le_refl _) _
  have hb := heap_alloc_new w (.cells (row8 l).toArray 26)
  obtain ⟨V, hV⟩ : ∃ V, V = w.alloc (.cells (row8 l).toArray 26) := ⟨_, rfl⟩
  obtain ⟨b, hbb⟩ : ∃ b, b = w.heap.size := ⟨_, rfl⟩
  rw [← hV] at hal hb; rw [← hbb] at hb
  have hS0 : Sees w V t mj ma mc m b D (row8 l) := ⟨.of_below hal, hb, ⟨(hal.block _ (lt_of_blk htb.blk)).trans htb.blk⟩, owns_below hc hal⟩
  have HLK : Hid (∀ W, W.ownsMap Tryd.prog 26 chElem mc m D → (Instr.lookup 65 (.map (some mc)) (.agg (row8 l).toArray) false).run Tryd.prog W = .ok (chV (k : Int) 2 (now : Int)) W) := Lib.hid fun W hW => look_ch hW hl hD
  obtain ⟨X, hX⟩ : ∃ X, X = row8 l := ⟨_, rfl⟩
  have HXL : Hid (X.length = 16) := Lib.hid (by rw [hX, row8_length, hl.len])
  have HSZ := Lib.hid size26
  rw [← hX] at hS0 hV HLK ⊢
  have HL := Lib.hid hl; have HXE := Lib.hid hX
  clear hal hb htb hc hX hD
  go_enter Tryd.func33, Tryd.ntmps33
  go_upto_region 1 with (fail)
  rw [← hV, ← hbb]
  have HLE : Hid (w.heap.size ≤ b) := Lib.hid (by omega)
  clear hV hbb
  have hS1 : Sees w V.drew t mj ma mc m b D X := ⟨hS0.thr.drew, hS0.b, ⟨hS0.tb.blk⟩, hS0.c.drew⟩
  refine wp_region_held_drew (S := fun W => Sees w W t mj ma mc m b D X) (by kernel_rfl) hS1 ?_
  clear hS1
  intro HS
  refine wpAnyH_take (i := 0) (v := ?_) rfl (by kernel_rfl) (by kernel_rfl) (by kernel_rfl) (fun _ _ _ h => h) (Or.inl ⟨by go_simp, ?hy⟩) HS ?_
  case hy => intro W hW; go_simp; (try with_reducible rfl)
  try simp only [List.getElem_toArray, List.getElem_cons_zero, List.getElem_cons_succ, Act.put, List.setIfInBounds_toArray, List.set_cons_zero, List.set_cons_succ]
  refine wpAnyH_take (i := 1) (v := ?_) rfl (by kernel_rfl) (by kernel_rfl) (by kernel_rfl) (fun _ _ _ h => h) (Or.inl ⟨by go_simp, ?hy⟩) HS ?_
  case hy => intro W hW; go_simp; (try with_reducible rfl)
  try simp only [List.getElem_toArray, List.getElem_cons_zero, List.getElem_cons_succ, Act.put, List.setIfInBounds_toArray, List.set_cons_zero, List.set_cons_succ]
  refine wpAnyH_take (i := 2) (v := ?_) rfl (by kernel_rfl) (by kernel_rfl) (by kernel_rfl) (fun _ _ _ h => h) (Or.inl ⟨by go_simp, ?hy⟩) HS ?_
  case hy => intro W hW; go_simp; (try with_reducible rfl)
  try simp only [List.getElem_toArray, List.getElem_cons_zero, List.getElem_cons_succ, Act.put, List.setIfInBounds_toArray, List.set_cons_zero, List.set_cons_succ]
  refine wpAnyH_take (i := 3) (v := ?_) rfl (by kernel_rfl) (by kernel_rfl) (by kernel_rfl) (fun _ _ _ h => h) (Or.inl ⟨by go_simp, ?hy⟩) HS ?_
  case hy => intro W hW; have c2 := Tb.c2 (Sees.tb hW); go_simp; (try with_reducible rfl)
  try simp only [List.getElem_toArray, List.getElem_cons_zero, List.getElem_cons_succ, Act.put, List.setIfInBounds_toArray, List.set_cons_zero, List.set_cons_succ]
  refine wpAnyH_take (i := 4) (v := .agg X.toArray) rfl (by kernel_rfl) (by kernel_rfl) (by kernel_rfl) (fun _ _ _ h => h) (by refine yieldsIf_load_mid ?hw 26 (.tmp 6) ?ho b 0 ?hx X _ (fun W hW => row_at (Sees.b hW)) Tryd.underlying26 rfl (by rw [HXL.out]; exact HSZ.out); (case ho => rfl); (case hw => go_simp); (case hx => go_simp)) HS ?_
  try simp only [List.getElem_toArray, List.getElem_cons_zero, List.getElem_cons_succ, Act.put, List.setIfInBounds_toArray, List.set_cons_zero, List.set_cons_succ]
  refine wpAnyH_take (i := 5) (v := ?_) rfl (by kernel_rfl) (by kernel_rfl) (by kernel_rfl) (fun _ _ _ h => h) (Or.inl ⟨by go_simp, ?hy⟩) HS ?_
  case hy => intro W hW; have hlk := HLK.out W (Sees.c hW); go_simp; (try with_reducible rfl)
  try simp only [List.getElem_toArray, List.getElem_cons_zero, List.getElem_cons_succ, Act.put, List.setIfInBounds_toArray, List.set_cons_zero, List.set_cons_succ]
  simp only [chV]
  refine wpAnyH_ready (rs := [6]) (by kernel_rfl) (by simp) ?_
  refine AllReadyH.cons rfl (fun K hK => ?_) AllReadyH.nil
  rw [if_pos (by kernel_rfl)]
  simp only [List.getElem_toArray, List.getElem_cons_zero, List.getElem_cons_succ]
  go_simp
  refine hK.out _ _ (Sees.alloc HS _) (fun HS => ?_)
  clear hK
  try simp only [List.getElem_toArray, List.getElem_cons_zero, List.getElem_cons_succ, Act.put, List.setIfInBounds_toArray, List.set_cons_zero, List.set_cons_succ]
  refine wpAnyH_ready (rs := [7]) (by kernel_rfl) (by simp) ?_
  refine AllReadyH.cons rfl (fun K hK => ?_) AllReadyH.nil
  rw [if_pos (by kernel_rfl)]
  simp only [List.getElem_toArray, List.getElem_cons_zero, List.getElem_cons_succ]
  go_simp
  have hS2 : Sees w (V.alloc (.cells #[.int .u8 (k : Int), .int .i64 2, .int .u64 (now : Int)] 83)).drew t mj ma mc m b D X := ⟨(hS0.alloc _).thr.drew, (hS0.alloc _).b, ⟨(hS0.alloc _).tb.blk⟩, (hS0.alloc _).c.drew⟩
  have hq : (V.alloc (.cells #[.int .u8 (k : Int), .int .i64 2, .int .u64 (now : Int)] 83)).drew.heap[V.heap.size]? = some (.cells #[.int .u8 (k : Int), .int .i64 2, .int .u64 (now : Int)] 83 (0, 0)) := heap_alloc_new V _
  refine hK.out _ _ hS2 (fun HS => ?_)
  clear hK
  try simp only [List.getElem_toArray, List.getElem_cons_zero, List.getElem_cons_succ, Act.put, List.setIfInBounds_toArray, List.set_cons_zero, List.set_cons_succ]
  refine wpAnyH_done (by kernel_rfl) ?_ _
  have hqs := hS0.thr.size
  generalize hW2 : (V.alloc (.cells #[.int .u8 (k : Int), .int .i64 2, .int .u64 (now : Int)] 83)).drew = W2 at *
  generalize V.heap.size = q at *
  have HS2 := Lib.hid hS2; have HQ := Lib.hid hq
  have HQS := Lib.hid hqs
  clear hS2 hW2 hS0 hqs HS
  have c0 : W2.cell? ⟨q, 0, none⟩ = some (.int .u8 (k : Int)) := by rw [cell_blk hq]; rfl
  have c1 : W2.cell? ⟨q, 1, none⟩ = some (.int .i64 2) := by rw [cell_blk hq]; rfl
  have c2 : W2.cell? ⟨q, 2, none⟩ = some (.int .u64 (now : Int)) := by rw [cell_blk hq]; rfl
  have f1 := frozen_blk hq 1
  have T3 := Turned.setCell hq 1 (.int .i64 1)
  have hq3 := T3.get (lt_of_blk hq)
  have hS3 := HS2.out.turned hq T3 HQS.out
  clear hq
  obtain ⟨W3, hW3⟩ : ∃ W3, W3 = W2.setCell ⟨q, 1, none⟩ (.int .i64 1) := ⟨_, rfl⟩
  rw [← hW3] at T3 hq3 hS3
  have HW3 := Lib.hid hW3
  have HQ3 := Lib.hid hq3
  have HS3 := Lib.hid hS3
  clear T3 hq3 hS3 hW3
  go_wp2_with fail
  refine (below27 _).mono ?_
  rintro e w1 ⟨rfl, rfl⟩
  clear c0 c1 c2 f1
  rw [← HW3.out]
  have c0 : W3.cell? ⟨q, 0, none⟩ = some (.int .u8 (k : Int)) := by rw [cell_blk HQ3.out]; rfl
  have c1 : W3.cell? ⟨q, 1, none⟩ = some (.int .i64 1) := by rw [cell_blk HQ3.out]; rfl
  have c2 : W3.cell? ⟨q, 2, none⟩ = some (.int .u64 (now : Int)) := by rw [cell_blk HQ3.out]; rfl
  have f2 := frozen_blk HQ3.out 2
  clear HW3
  go_wp2_with fail
  have hadd := add26 (a := now) (b := 1) W3 (by omega) (by omega)
  obtain ⟨N, hN⟩ : ∃ N, N = min (now + 1) 9223372036854775807 := ⟨_, rfl⟩
  rw [← hN, show ((1 : Nat) : Int) = 1 from rfl] at hadd
  clear hN
  refine hadd.mono ?_
  clear hadd
  rintro e w1 ⟨rfl, rfl⟩
  have T4 := Turned.setCell HQ3.out 2 (.int .u64 (N : Int))
  have hq4 := T4.get (lt_of_blk HQ3.out)
  have hS4 := HS3.out.turned HQ3.out T4 HQS.out
  obtain ⟨W4, hW4⟩ : ∃ W4, W4 = W3.setCell ⟨q, 2, none⟩ (.int .u64 (N : Int)) := ⟨_, rfl⟩
  rw [← hW4] at T4 hq4 hS4
  obtain ⟨C, hC⟩ : ∃ C : List Value, C = [.int .u8 (k : Int), .int .i64 1, .int .u64 (N : Int)] := ⟨_, rfl⟩
  have hq5 : W4.heap[q]? = some (.cells C.toArray 83 (0, 0)) := by rw [hC]; exact hq4
  have HW4 := Lib.hid hW4
  have HQ4 := Lib.hid hq5
  have HS4 := Lib.hid hS4
  have HC := Lib.hid hC
  have HCL : Hid (C.length = 3) := Lib.hid (by rw [hC]; rfl)
  have HS83 := Lib.hid size83
  clear T4 hq4 hS4 hW4 hq5 hC
  go_wp2_with fail
  clear c0 c1 c2 f2
  rw [← HW4.out]
  clear HW4
  have hS5 : See3 W4.drew t mj ma mc b q X C := ⟨HS4.out.b, ⟨HS4.out.tb.blk⟩, HQ4.out⟩
  refine wp_region_held_drew (S := fun W => See3 W t mj ma mc b q X C) (by kernel_rfl) hS5 ?_
  clear hS5
  intro HS
  refine wpAnyH_take (i := 0) (v := ?_) rfl (by kernel_rfl) (by kernel_rfl) (by kernel_rfl) (fun _ _ _ h => h) (Or.inl ⟨by go_simp, ?hy⟩) HS ?_
  case hy => intro W hW; go_simp; (try with_reducible rfl)
  try simp only [List.getElem_toArray, List.getElem_cons_zero, List.getElem_cons_succ, Act.put, List.setIfInBounds_toArray, List.set_cons_zero, List.set_cons_succ]
  refine wpAnyH_take (i := 1) (v := ?_) rfl (by kernel_rfl) (by kernel_rfl) (by kernel_rfl) (fun _ _ _ h => h) (Or.inl ⟨by go_simp, ?hy⟩) HS ?_
  case hy => intro W hW; go_simp; (try with_reducible rfl)
  try simp only [List.getElem_toArray, List.getElem_cons_zero, List.getElem_cons_succ, Act.put, List.setIfInBounds_toArray, List.set_cons_zero, List.set_cons_succ]
  refine wpAnyH_take (i := 2) (v := ?_) rfl (by kernel_rfl) (by kernel_rfl) (by kernel_rfl) (fun _ _ _ h => h) (Or.inl ⟨by go_simp, ?hy⟩) HS ?_
  case hy => intro W hW; go_simp; (try with_reducible rfl)
  try simp only [List.getElem_toArray, List.getElem_cons_zero, List.getElem_cons_succ, Act.put, List.setIfInBounds_toArray, List.set_cons_zero, List.set_cons_succ]
  refine wpAnyH_take (i := 3) (v := ?_) rfl (by kernel_rfl) (by kernel_rfl) (by kernel_rfl) (fun _ _ _ h => h) (Or.inl ⟨by go_simp, ?hy⟩) HS ?_
  case hy => intro W hW; have c2 := Tb.c2 (See3.tb hW); go_simp; (try with_reducible rfl)
  try simp only [List.getElem_toArray, List.getElem_cons_zero, List.getElem_cons_succ, Act.put, List.setIfInBounds_toArray, List.set_cons_zero, List.set_cons_succ]
  refine wpAnyH_take (i := 4) (v := .agg X.toArray) rfl (by kernel_rfl) (by kernel_rfl) (by kernel_rfl) (fun _ _ _ h => h) (by refine yieldsIf_load_mid ?hw 26 (.tmp 6) ?ho b 0 ?hx X _ (fun W hW => row_at (See3.b hW)) Tryd.underlying26 rfl (by rw [HXL.out]; exact HSZ.out); (case ho => rfl); (case hw => go_simp); (case hx => go_simp)) HS ?_
  try simp only [List.getElem_toArray, List.getElem_cons_zero, List.getElem_cons_succ, Act.put, List.setIfInBounds_toArray, List.set_cons_zero, List.set_cons_succ]
  refine wpAnyH_take (i := 5) (v := .agg C.toArray) rfl (by kernel_rfl) (by kernel_rfl) (by kernel_rfl) (fun _ _ _ h => h) (by refine yieldsIf_load_mid ?hw 83 (.tmp 9) ?ho q 0 ?hx C _ (fun W hW => row_at (See3.q hW)) Tryd.underlying83 rfl (by rw [HCL.out]; exact HS83.out); (case ho => rfl); (case hw => go_simp); (case hx => go_simp)) HS ?_
  try simp only [List.getElem_toArray, List.getElem_cons_zero, List.getElem_cons_succ, Act.put, List.setIfInBounds_toArray, List.set_cons_zero, List.set_cons_succ]
  refine wpAnyH_ready (rs := [6]) (by kernel_rfl) (by simp) ?_
  refine AllReadyH.cons rfl (fun K hK => ?_) AllReadyH.nil
  obtain ⟨w6, hrun, hown, hturn⟩ := (show W4.drew.ownsMap Tryd.prog 26 chElem mc m D from HS4.out.c.drew).store keyed Tryd.underlying65 (by omega) (keyOf_adr HL.out) (chElem_mk (k : Int) 1 (N : Int))
  have hrun' : (Instr.mapUpdate 65 (.map (some mc)) (.agg X.toArray) (.agg C.toArray)).run Tryd.prog W4.drew = .ok () w6 := by rw [HXE.out, HC.out]; exact hrun
  clear hrun
  have HT := Lib.hid hturn; have HO := Lib.hid hown; clear hturn hown
  rw [if_pos (by kernel_rfl)]
  simp only [List.getElem_toArray, List.getElem_cons_zero, List.getElem_cons_succ]
  go_simp
  refine hK.out _ _ (See3.map HS HT.out) (fun HS6 => ?_)
  clear hK hrun'
  try simp only [List.getElem_toArray, List.getElem_cons_zero, List.getElem_cons_succ, Act.put, List.setIfInBounds_toArray, List.set_cons_zero, List.set_cons_succ]
  refine wpAnyH_done (by kernel_rfl) ?_ _
  have c0 : w6.cell? ⟨q, 0, none⟩ = some (.int .u8 (k : Int)) := by rw [cell_blk HS6.q, HC.out]; rfl
  have HR := Lib.hid (row_at HS6.b)
  have H6 := Lib.hid HS6
  clear HS6 HS
  go_wp2_with (first | (refine wpList_load_mid rfl 26 (.tmp 6) ?ho b 0 ?hx X _ ?hr Tryd.underlying26 rfl ?hi ?_; (case ho => with_reducible rfl); (case hx => rfl); (case hr => exact HR.out); (case hi => rw [HXL.out]; exact HSZ.out); (try simp only [Act.put, List.setIfInBounds_toArray, List.set_cons_zero, List.set_cons_succ])))
  have hrec := record32 (k := k) w6 HL.out
  rw [← HXE.out] at hrec
  refine hrec.mono ?_
  clear hrec
  rintro e w7 ⟨v, rfl, hr⟩
  have HRE := Lib.hid hr
  clear hr
  go_wp2_with fail
  go_ret
  have hth : Thr mc mc mc w w6 := HS4.out.thr.drew.map HT.out (.inl rfl)
  obtain ⟨g, hg1, hg2, hg3⟩ := HRE.out.at_
  exact ⟨v, rfl, ⟨g, hg1, Nat.le_trans hth.size hg2, hg3⟩, hth.step HRE.out.below, ⟨_, owns_below HO.out HRE.out.below⟩⟩
end Go.Proofs.YthbkjhacnnoolaaDoor
