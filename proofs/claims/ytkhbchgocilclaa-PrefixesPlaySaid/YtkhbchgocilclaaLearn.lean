/- The walk of Learn: what it answers and what becomes of the map. No condition but that the numbers fit. -/
import Derived.Test.YtkhbchgocilclaaInfo
import Derived.Deep.RegionHeld3
namespace Go.Proofs.Ytkhbchgocilclaa
open Go.RowKit
set_option linter.unusedVariables false

theorem map_look {w : World} {b : Nat} {D : PD} (hm : MapIs w b D) {key : Value} {kl : Lit} (hkey : keyOf Try.prog 25 key = some kl) :
    ∃ t : Int, ∀ W b, MapIs W b D → (Instr.lookup 56 (.map (some b)) key true).run Try.prog W = .ok (.tuple #[.int .u64 t, .bool (Maps.has D kl)]) W := by
  have hz : ∀ W : World, (zeroValue 34).run Try.prog W = .ok (.int .u64 0) W := fun W => by kernel_rfl
  have hp : plainElem (H := Unit) Try.prog 34 (.int .u64 0) = some (.lit (.int .u64 0), []) := plainElem_int Try.underlying34 (by decide)
  obtain ⟨v, ps, hrun, hv⟩ := hm.look_ok keyed Try.underlying56 (hz w) hp hkey
  obtain ⟨t, rfl, ht, _⟩ := plainElem_int_inv Try.underlying34 hv
  refine ⟨t, fun W c hW => ?_⟩
  obtain ⟨v', ps', hrun', hv'⟩ := hW.look_ok keyed Try.underlying56 (hz W) hp hkey
  obtain ⟨t', rfl, ht', _⟩ := plainElem_int_inv Try.underlying34 hv'
  have e : t' = t := by
    have x := (Prod.mk.inj ht).1
    have y := (Prod.mk.inj ht').1
    rw [x] at y
    injection y with y
    injection y with _ y
    exact y.symm
  rw [hrun', e]

/-- may a prefix be told at all? -/
def tellB (i : Info) : Bool := i.on && decide (i.n ≤ 128) && !linkB i.a && !manyB i.a
def Info.key (i : Info) : Lit := keyLit (masked i.a i.n) i.n
def Info.until_ (i : Info) (now : Nat) : Nat := addT now (secsT i.v)
def learnOk (i : Info) (D : PD) : Bool := tellB i && (Maps.has D i.key || (decide (0 < i.v) && decide (Maps.size D < 8)))
def learnD (i : Info) (now : Nat) (D : PD) : PD :=
  if tellB i then
    if Maps.has D i.key && decide (i.v = 0) then D.del i.key
    else if Maps.has D i.key || (decide (0 < i.v) && decide (Maps.size D < 8)) then D.put i.key (.lit (.int .u64 (i.until_ now : Nat)))
    else D
  else D

structure Learnt (b mb : Nat) (D' : PD) (w w' : World) : Prop where
  hb : w'.heap[b]? = some (.cells #[.map (some mb)] 58 (0, 0))
  map : MapIs w' mb D'
  grown : w.grownBy w' (some mb)

theorem Learnt.same {b mb : Nat} {D : PD} {w w' : World} (h : w.heap[b]? = some (.cells #[.map (some mb)] 58 (0, 0))) (hm : MapIs w mb D) (hb : Below w.heap.size w w') : Learnt b mb D w w' :=
  ⟨(hb.block b (lt_of_blk h)).trans h, hm.below hb hm.lt, ⟨hb.os, hb.tape, hb.output, hb.size, fun k hk _ => hb.block k hk⟩⟩

theorem Begun.step {i : Info} {b mb : Nat} {D : PD} {B1 B2 : Nat} {w w1 w2 : World} (h : Begun i b mb D B1 B2 w w1) (hb : Below w1.heap.size w1 w2) : Begun i b mb D B1 B2 w w2 :=
  ⟨(hb.block _ (lt_of_blk h.hb)).trans h.hb, (hb.block _ (lt_of_blk h.h1)).trans h.h1, (hb.block _ (lt_of_blk h.h2)).trans h.h2, h.map.below hb h.map.lt, h.g1, h.g2, h.below.trans (hb.mono h.below.size)⟩

/-- the world behind the prefix's masking -/
structure Ready (i : Info) (b mb : Nat) (D : PD) (B1 B2 : Nat) (w w1 : World) : Prop where
  hb : w1.heap[b]? = some (.cells #[.map (some mb)] 58 (0, 0))
  h1 : w1.heap[B1]? = some (.cells i.cells 28 (0, 0))
  h2 : w1.heap[B2]? = some (.cells (preCells (masked i.a i.n) i.n) 25 (0, 0))
  map : MapIs w1 mb D
  below : Below w.heap.size w w1
theorem Begun.ready {i : Info} {b mb : Nat} {D : PD} {B1 B2 : Nat} {w w1 w2 : World} (h : Begun i b mb D B1 B2 w w1) (t : Turned B2 (.cells (preCells (masked i.a i.n) i.n) 25 (0, 0)) w1 w2) (hne : B1 ≠ B2) : Ready i b mb D B1 B2 w w2 := by
  have hmb := h.map
  obtain ⟨es, clock, hm, rest⟩ := h.map
  have key : ∀ k o, w1.heap[k]? = some o → k ≠ B2 → w2.heap[k]? = some o := fun k o hk hn => (t.other hn).trans hk
  refine ⟨key _ _ h.hb ?_, key _ _ h.h1 hne, t.get (lt_of_blk h.h2), ⟨es, clock, key _ _ hm ?_, rest⟩, h.below.trans (t.below h.g2)⟩
  · intro e; have := h.hb; rw [e, h.h2] at this; injection this with x; injection x with _ y; cases y
  · intro e; rw [e, h.h2] at hm; injection hm with x; cases x
theorem Ready.heap {i : Info} {b mb : Nat} {D : PD} {B1 B2 : Nat} {w w1 w2 : World} (h : Ready i b mb D B1 B2 w w1) (e : w2.heap = w1.heap) (e1 : w2.os = w1.os) (e2 : w2.tape = w1.tape) (e3 : w2.output = w1.output) : Ready i b mb D B1 B2 w w2 :=
  ⟨by rw [e]; exact h.hb, by rw [e]; exact h.h1, by rw [e]; exact h.h2, by
    obtain ⟨es, clock, hm, rest⟩ := h.map
    exact ⟨es, clock, by rw [e]; exact hm, rest⟩, ⟨e1.trans h.below.os, e2.trans h.below.tape, e3.trans h.below.output, by rw [e]; exact h.below.size, fun k hk => by rw [e]; exact h.below.block k hk⟩⟩

theorem Ready.turned {i : Info} {b mb : Nat} {D D' : PD} {B1 B2 n : Nat} {w w1 w2 : World} (h : Ready i b mb D B1 B2 w w1) (ho : w2.ownsMap Try.prog 25 (plainElem Try.prog 34) mb n D') (t : w1.mapTurned w2 mb) : Learnt b mb D' w w2 := by
  have hne : ∀ k c z, w1.heap[k]? = some (.cells c z (0, 0)) → k ≠ mb := by
    intro k c z hk e
    obtain ⟨es, clock, hm, _⟩ := h.map
    rw [e, hm] at hk; injection hk with x; cases x
  refine ⟨(t.grown.block b (lt_of_blk h.hb) (fun e => hne _ _ _ h.hb (by injection e))).trans h.hb, MapIs.of ho, ?_⟩
  exact World.grownBy.andThen (b' := w1) (row := some mb) (row' := some mb) ⟨h.below.os, h.below.tape, h.below.output, h.below.size, fun k hk _ => h.below.block k hk⟩ t.grown (fun j hj => .inr hj)
theorem Ready.over {i : Info} {b mb : Nat} {D : PD} {B1 B2 : Nat} {w w1 w2 : World} (h : Ready i b mb D B1 B2 w w1) (t : w1.mapTurned w2 mb) :
    w2.cell? ⟨b, 0, none⟩ = some (.map (some mb)) ∧ w2.rangeAt B2 0 (preL (masked i.a i.n) i.n) ∧ w2.cell? ⟨B1, 19, none⟩ = some (.int .u32 (i.v : Int)) := by
  have hne : ∀ (k : Nat) (c : Array Value) (z : TypeId), w1.heap[k]? = some (Obj.cells c z (0, 0)) → w2.heap[k]? = some (Obj.cells c z (0, 0)) := by
    intro k c z hk
    obtain ⟨es, clock, hm, _⟩ := h.map
    refine (t.grown.block k (lt_of_blk hk) (fun e => ?_)).trans hk
    have e' : k = mb := by injection e
    rw [e', hm] at hk; injection hk with x; cases x
  exact ⟨cell_blk (hne _ _ _ h.hb) 0, range_preL (hne _ _ _ h.h2), by rw [cell_blk (hne _ _ _ h.h1)]; exact i.get.2⟩
theorem Ready.sees {i : Info} {b mb : Nat} {D : PD} {B1 B2 : Nat} {w w1 : World} (h : Ready i b mb D B1 B2 w w1) :
    w1.cell? ⟨b, 0, none⟩ = some (.map (some mb)) ∧ w1.rangeAt B2 0 (preL (masked i.a i.n) i.n) ∧ w1.cell? ⟨B1, 19, none⟩ = some (.int .u32 (i.v : Int)) :=
  ⟨cell_blk h.hb 0, range_preL h.h2, by rw [cell_blk h.h1]; exact i.get.2⟩

set_option maxRecDepth 100000 in
set_option maxHeartbeats 1000000 in
theorem learn_off (i : Info) (b mb now : Nat) (D : PD) (w : World) (ok : i.Ok) (hnow : now < 18446744073709551616) (h : w.heap[b]? = some (.cells #[.map (some mb)] 58 (0, 0))) (hm : MapIs w mb D) (hon : i.on = false) :
    Calls Try.prog 8 #[.pointer (some ⟨b, 0, none⟩), .int .u64 now, .agg i.cells] w fun e w' => e = .returned (.bool false) ∧ Learnt b mb D w w' := by
  have h1 : (w.alloc (.cells i.cells 28)).heap[w.heap.size]? = some (.cells i.cells 28 (0, 0)) := heap_alloc_new _ _
  have r1 := range_info h1
  have h2 := heap_alloc2_new w (.cells i.cells 28) (.cells (preCells (fun _ => 0) 0) 25)
  have hB := begun_mk (i := i) h hm
  rw [← zeroPre] at h2 hB
  have R1 := Lib.hid r1; have H2 := Lib.hid h2; have HBEG := Lib.hid hB; clear r1 h1 h2 hB
  have hsz : 17 = (preL i.a i.n).toArray.size := by simp [preL_length]
  have HS := Lib.hid hsz; clear hsz
  go_enter Try.func8, Try.ntmps8
  go_wp2_with (first | (refine wpList_load_mid rfl 25 _ rfl w.heap.size 0 rfl (preL i.a i.n) _ R1.out Try.underlying25 rfl (info25 _ _) ?_) | (refine wpList_store_row rfl 25 _ _ rfl (w.heap.size + 1) (preL i.a i.n).toArray rfl rfl 25 _ H2.out (by rw [← HS.out]; kernel_rfl) HS.out (all_oneCell_toArray (preL_one _ _)) ?_))
  generalize (((w.alloc (.cells i.cells 28)).alloc _).setRow (w.heap.size + 1) (preL i.a i.n).toArray) = w1 at *
  obtain ⟨B1, hB1⟩ : ∃ B, B = w.heap.size := ⟨_, rfl⟩
  obtain ⟨B2, hB2⟩ : ∃ B, B = w.heap.size + 1 := ⟨_, rfl⟩
  have HB : Begun i b mb D B1 B2 w w1 := by rw [hB1, hB2]; exact HBEG.out
  rw [← hB2, ← hB1]
  have N1 := Lib.hid hB1; have N2 := Lib.hid hB2; clear hB1 hB2 HBEG R1 H2 HS
  refine (there_any b mb _ HB.hb).mono ?_
  rintro e w2 ⟨rfl, rfl⟩
  have c17 : w1.cell? ⟨B1, 17, none⟩ = some (.bool i.on) := by rw [cell_blk HB.h1]; exact i.get.1
  rw [hon] at c17
  go_wp2_with fail
  go_ret
  exact ⟨rfl, Learnt.same h hm HB.below⟩

set_option maxRecDepth 100000 in
set_option maxHeartbeats 1000000 in
theorem learn_long (i : Info) (b mb now : Nat) (D : PD) (w : World) (ok : i.Ok) (hnow : now < 18446744073709551616) (h : w.heap[b]? = some (.cells #[.map (some mb)] 58 (0, 0))) (hm : MapIs w mb D) (hon : i.on = true) (hn : 128 < i.n) :
    Calls Try.prog 8 #[.pointer (some ⟨b, 0, none⟩), .int .u64 now, .agg i.cells] w fun e w' => e = .returned (.bool false) ∧ Learnt b mb D w w' := by
  have h1 : (w.alloc (.cells i.cells 28)).heap[w.heap.size]? = some (.cells i.cells 28 (0, 0)) := heap_alloc_new _ _
  have r1 := range_info h1
  have h2 := heap_alloc2_new w (.cells i.cells 28) (.cells (preCells (fun _ => 0) 0) 25)
  have hB := begun_mk (i := i) h hm
  rw [← zeroPre] at h2 hB
  have R1 := Lib.hid r1; have H2 := Lib.hid h2; have HBEG := Lib.hid hB; clear r1 h1 h2 hB
  have hsz : 17 = (preL i.a i.n).toArray.size := by simp [preL_length]
  have HS := Lib.hid hsz; clear hsz
  go_enter Try.func8, Try.ntmps8
  go_wp2_with (first | (refine wpList_load_mid rfl 25 _ rfl w.heap.size 0 rfl (preL i.a i.n) _ R1.out Try.underlying25 rfl (info25 _ _) ?_) | (refine wpList_store_row rfl 25 _ _ rfl (w.heap.size + 1) (preL i.a i.n).toArray rfl rfl 25 _ H2.out (by rw [← HS.out]; kernel_rfl) HS.out (all_oneCell_toArray (preL_one _ _)) ?_))
  generalize (((w.alloc (.cells i.cells 28)).alloc _).setRow (w.heap.size + 1) (preL i.a i.n).toArray) = w1 at *
  obtain ⟨B1, hB1⟩ : ∃ B, B = w.heap.size := ⟨_, rfl⟩
  obtain ⟨B2, hB2⟩ : ∃ B, B = w.heap.size + 1 := ⟨_, rfl⟩
  have HB : Begun i b mb D B1 B2 w w1 := by rw [hB1, hB2]; exact HBEG.out
  rw [← hB2, ← hB1]
  have N1 := Lib.hid hB1; have N2 := Lib.hid hB2; clear hB1 hB2 HBEG R1 H2 HS
  refine (there_any b mb _ HB.hb).mono ?_
  rintro e w2 ⟨rfl, rfl⟩
  have c17 : w1.cell? ⟨B1, 17, none⟩ = some (.bool i.on) := by rw [cell_blk HB.h1]; exact i.get.1
  rw [hon] at c17
  have c16 : w1.cell? ⟨B2, 16, none⟩ = some (.int .u8 (i.n : Int)) := by rw [cell_blk HB.h2]; exact preCells_last _ _
  have tn : decide ((128 : Int) < i.n) = true := by simp; omega
  go_wp2_with fail
  go_ret
  exact ⟨rfl, Learnt.same h hm HB.below⟩

set_option maxRecDepth 100000 in
set_option maxHeartbeats 1000000 in
theorem learn_link (i : Info) (b mb now : Nat) (D : PD) (w : World) (ok : i.Ok) (hnow : now < 18446744073709551616) (h : w.heap[b]? = some (.cells #[.map (some mb)] 58 (0, 0))) (hm : MapIs w mb D) (hon : i.on = true) (hn : i.n ≤ 128) (hlink : linkB i.a = true) :
    Calls Try.prog 8 #[.pointer (some ⟨b, 0, none⟩), .int .u64 now, .agg i.cells] w fun e w' => e = .returned (.bool false) ∧ Learnt b mb D w w' := by
  have h1 : (w.alloc (.cells i.cells 28)).heap[w.heap.size]? = some (.cells i.cells 28 (0, 0)) := heap_alloc_new _ _
  have r1 := range_info h1
  have h2 := heap_alloc2_new w (.cells i.cells 28) (.cells (preCells (fun _ => 0) 0) 25)
  have hB := begun_mk (i := i) h hm
  rw [← zeroPre] at h2 hB
  have R1 := Lib.hid r1; have H2 := Lib.hid h2; have HBEG := Lib.hid hB; clear r1 h1 h2 hB
  have hsz : 17 = (preL i.a i.n).toArray.size := by simp [preL_length]
  have HS := Lib.hid hsz; clear hsz
  go_enter Try.func8, Try.ntmps8
  go_wp2_with (first | (refine wpList_load_mid rfl 25 _ rfl w.heap.size 0 rfl (preL i.a i.n) _ R1.out Try.underlying25 rfl (info25 _ _) ?_) | (refine wpList_store_row rfl 25 _ _ rfl (w.heap.size + 1) (preL i.a i.n).toArray rfl rfl 25 _ H2.out (by rw [← HS.out]; kernel_rfl) HS.out (all_oneCell_toArray (preL_one _ _)) ?_))
  generalize (((w.alloc (.cells i.cells 28)).alloc _).setRow (w.heap.size + 1) (preL i.a i.n).toArray) = w1 at *
  obtain ⟨B1, hB1⟩ : ∃ B, B = w.heap.size := ⟨_, rfl⟩
  obtain ⟨B2, hB2⟩ : ∃ B, B = w.heap.size + 1 := ⟨_, rfl⟩
  have HB : Begun i b mb D B1 B2 w w1 := by rw [hB1, hB2]; exact HBEG.out
  rw [← hB2, ← hB1]
  have N1 := Lib.hid hB1; have N2 := Lib.hid hB2; clear hB1 hB2 HBEG R1 H2 HS
  refine (there_any b mb _ HB.hb).mono ?_
  rintro e w2 ⟨rfl, rfl⟩
  have c17 : w1.cell? ⟨B1, 17, none⟩ = some (.bool i.on) := by rw [cell_blk HB.h1]; exact i.get.1
  rw [hon] at c17
  have c16 : w1.cell? ⟨B2, 16, none⟩ = some (.int .u8 (i.n : Int)) := by rw [cell_blk HB.h2]; exact preCells_last _ _
  have tn : decide ((128 : Int) < i.n) = false := by simp; omega
  have R2 := Lib.hid (range_pre HB.h2)
  go_wp2_with (refine wpList_load_mid_g rfl 23 _ rfl B2 0 rfl (adrL i.a) _ R2.out Try.underlying23 rfl (info23 _) ?_)
  refine (link_any i.a _ ok.a).mono ?_
  rintro e w2 ⟨rfl, b2⟩
  have HB2 := HB.step b2
  rw [hlink]
  clear c16 c17 R2 HB b2
  go_wp2_with fail
  go_ret
  exact ⟨rfl, Learnt.same h hm HB2.below⟩

set_option maxRecDepth 100000 in
set_option maxHeartbeats 1000000 in
theorem learn_many (i : Info) (b mb now : Nat) (D : PD) (w : World) (ok : i.Ok) (hnow : now < 18446744073709551616) (h : w.heap[b]? = some (.cells #[.map (some mb)] 58 (0, 0))) (hm : MapIs w mb D) (hon : i.on = true) (hn : i.n ≤ 128) (hlink : linkB i.a = false) (hmany : manyB i.a = true) :
    Calls Try.prog 8 #[.pointer (some ⟨b, 0, none⟩), .int .u64 now, .agg i.cells] w fun e w' => e = .returned (.bool false) ∧ Learnt b mb D w w' := by
  have h1 : (w.alloc (.cells i.cells 28)).heap[w.heap.size]? = some (.cells i.cells 28 (0, 0)) := heap_alloc_new _ _
  have r1 := range_info h1
  have h2 := heap_alloc2_new w (.cells i.cells 28) (.cells (preCells (fun _ => 0) 0) 25)
  have hB := begun_mk (i := i) h hm
  rw [← zeroPre] at h2 hB
  have R1 := Lib.hid r1; have H2 := Lib.hid h2; have HBEG := Lib.hid hB; clear r1 h1 h2 hB
  have hsz : 17 = (preL i.a i.n).toArray.size := by simp [preL_length]
  have HS := Lib.hid hsz; clear hsz
  go_enter Try.func8, Try.ntmps8
  go_wp2_with (first | (refine wpList_load_mid rfl 25 _ rfl w.heap.size 0 rfl (preL i.a i.n) _ R1.out Try.underlying25 rfl (info25 _ _) ?_) | (refine wpList_store_row rfl 25 _ _ rfl (w.heap.size + 1) (preL i.a i.n).toArray rfl rfl 25 _ H2.out (by rw [← HS.out]; kernel_rfl) HS.out (all_oneCell_toArray (preL_one _ _)) ?_))
  generalize (((w.alloc (.cells i.cells 28)).alloc _).setRow (w.heap.size + 1) (preL i.a i.n).toArray) = w1 at *
  obtain ⟨B1, hB1⟩ : ∃ B, B = w.heap.size := ⟨_, rfl⟩
  obtain ⟨B2, hB2⟩ : ∃ B, B = w.heap.size + 1 := ⟨_, rfl⟩
  have HB : Begun i b mb D B1 B2 w w1 := by rw [hB1, hB2]; exact HBEG.out
  rw [← hB2, ← hB1]
  have N1 := Lib.hid hB1; have N2 := Lib.hid hB2; clear hB1 hB2 HBEG R1 H2 HS
  refine (there_any b mb _ HB.hb).mono ?_
  rintro e w2 ⟨rfl, rfl⟩
  have c17 : w1.cell? ⟨B1, 17, none⟩ = some (.bool i.on) := by rw [cell_blk HB.h1]; exact i.get.1
  rw [hon] at c17
  have c16 : w1.cell? ⟨B2, 16, none⟩ = some (.int .u8 (i.n : Int)) := by rw [cell_blk HB.h2]; exact preCells_last _ _
  have tn : decide ((128 : Int) < i.n) = false := by simp; omega
  have R2 := Lib.hid (range_pre HB.h2)
  go_wp2_with (refine wpList_load_mid_g rfl 23 _ rfl B2 0 rfl (adrL i.a) _ R2.out Try.underlying23 rfl (info23 _) ?_)
  refine (link_any i.a _ ok.a).mono ?_
  rintro e w2 ⟨rfl, b2⟩
  have HB2 := HB.step b2
  rw [hlink]
  clear c16 c17 R2 HB b2
  have R3 := Lib.hid (range_pre HB2.h2)
  go_wp2_with (refine wpList_load_mid_g rfl 23 _ rfl B2 0 rfl (adrL i.a) _ R3.out Try.underlying23 rfl (info23 _) ?_)
  refine (many_any i.a _).mono ?_
  rintro e w3 ⟨rfl, b3⟩
  have HB3 := HB2.step b3
  rw [hmany]
  clear R3 HB2 b3
  go_wp2_with fail
  go_ret
  exact ⟨rfl, Learnt.same h hm HB3.below⟩



set_option maxRecDepth 100000 in
set_option maxHeartbeats 1000000 in
theorem learn_del (i : Info) (b mb now : Nat) (D : PD) (w : World) (ok : i.Ok) (hnow : now < 18446744073709551616) (h : w.heap[b]? = some (.cells #[.map (some mb)] 58 (0, 0))) (hm : MapIs w mb D) (hon : i.on = true) (hn : i.n ≤ 128) (hlink : linkB i.a = false) (hmany : manyB i.a = false) (hhas : Maps.has D i.key = true) (hv : i.v = 0) :
    Calls Try.prog 8 #[.pointer (some ⟨b, 0, none⟩), .int .u64 now, .agg i.cells] w fun e w' => e = .returned (.bool true) ∧ Learnt b mb (D.del i.key) w w' := by
  have h1 : (w.alloc (.cells i.cells 28)).heap[w.heap.size]? = some (.cells i.cells 28 (0, 0)) := heap_alloc_new _ _
  have r1 := range_info h1
  have h2 := heap_alloc2_new w (.cells i.cells 28) (.cells (preCells (fun _ => 0) 0) 25)
  have hB := begun_mk (i := i) h hm
  rw [← zeroPre] at h2 hB
  have R1 := Lib.hid r1; have H2 := Lib.hid h2; have HBEG := Lib.hid hB; clear r1 h1 h2 hB
  have hsz : 17 = (preL i.a i.n).toArray.size := by simp [preL_length]
  have HS := Lib.hid hsz; clear hsz
  go_enter Try.func8, Try.ntmps8
  go_wp2_with (first | (refine wpList_load_mid rfl 25 _ rfl w.heap.size 0 rfl (preL i.a i.n) _ R1.out Try.underlying25 rfl (info25 _ _) ?_) | (refine wpList_store_row rfl 25 _ _ rfl (w.heap.size + 1) (preL i.a i.n).toArray rfl rfl 25 _ H2.out (by rw [← HS.out]; kernel_rfl) HS.out (all_oneCell_toArray (preL_one _ _)) ?_))
  generalize (((w.alloc (.cells i.cells 28)).alloc _).setRow (w.heap.size + 1) (preL i.a i.n).toArray) = w1 at *
  obtain ⟨B1, hB1⟩ : ∃ B, B = w.heap.size := ⟨_, rfl⟩
  obtain ⟨B2, hB2⟩ : ∃ B, B = w.heap.size + 1 := ⟨_, rfl⟩
  have HB : Begun i b mb D B1 B2 w w1 := by rw [hB1, hB2]; exact HBEG.out
  rw [← hB2, ← hB1]
  have N1 := Lib.hid hB1; have N2 := Lib.hid hB2; clear hB1 hB2 HBEG R1 H2 HS
  refine (there_any b mb _ HB.hb).mono ?_
  rintro e w2 ⟨rfl, rfl⟩
  have c17 : w1.cell? ⟨B1, 17, none⟩ = some (.bool i.on) := by rw [cell_blk HB.h1]; exact i.get.1
  rw [hon] at c17
  have c16 : w1.cell? ⟨B2, 16, none⟩ = some (.int .u8 (i.n : Int)) := by rw [cell_blk HB.h2]; exact preCells_last _ _
  have tn : decide ((128 : Int) < i.n) = false := by simp; omega
  have R2 := Lib.hid (range_pre HB.h2)
  go_wp2_with (refine wpList_load_mid_g rfl 23 _ rfl B2 0 rfl (adrL i.a) _ R2.out Try.underlying23 rfl (info23 _) ?_)
  refine (link_any i.a _ ok.a).mono ?_
  rintro e w2 ⟨rfl, b2⟩
  have HB2 := HB.step b2
  rw [hlink]
  clear c16 c17 R2 HB b2
  have R3 := Lib.hid (range_pre HB2.h2)
  go_wp2_with (refine wpList_load_mid_g rfl 23 _ rfl B2 0 rfl (adrL i.a) _ R3.out Try.underlying23 rfl (info23 _) ?_)
  refine (many_any i.a _).mono ?_
  rintro e w3 ⟨rfl, b3⟩
  have HB3 := HB2.step b3
  rw [hmany]
  clear R3 HB2 b3
  have R4 := Lib.hid (range_pre HB3.h2)
  have c16 : w3.cell? ⟨B2, 16, none⟩ = some (.int .u8 (i.n : Int)) := by rw [cell_blk HB3.h2]; exact preCells_last _ _
  go_wp2_with (refine wpList_load_mid rfl 23 _ rfl B2 0 rfl (adrL i.a) _ R4.out Try.underlying23 rfl (info23 _) ?_)
  refine (masked_any i.a i.n _ ok.a ok.n).mono ?_
  rintro e w4 ⟨rfl, b4⟩
  have HB4 := HB3.step b4
  have T4 := Lib.hid (there_blk HB4.h2 (n := 16) (by simp [preCells, adrL_length]))
  have hsz : (adrCells (masked i.a i.n)).size = 16 := adrCells_size _
  have hi23 : (Try.prog.info? 23).map (·.size) = some (adrCells (masked i.a i.n)).size := by rw [hsz]; kernel_rfl
  have HI := Lib.hid hi23; have HS := Lib.hid hsz
  clear R4 HB3 b4 hsz hi23 c16
  go_wp2_with (refine wpList_store_mid rfl 23 _ _ rfl B2 0 (adrCells (masked i.a i.n)) rfl rfl (by rw [HS.out]; exact T4.out) HI.out (adrCells_one _) ?_)
  have t5 := Turned.setCells (adrL (masked i.a i.n)) 0 _ w4 HB4.h2
  rw [putAt_pre] at t5
  have hne : B1 ≠ B2 := by have := N1.out; have := N2.out; omega
  have HR := HB4.ready t5 hne
  clear HB4 T4 HI HS t5
  rw [show (adrCells (masked i.a i.n)).toList = adrL (masked i.a i.n) from rfl]
  generalize w4.setCells B2 0 (adrL (masked i.a i.n)) = w5 at *
  have hkey := keyOf_pre (masked i.a i.n) i.n (fun k hk => top_lt (ok.a k hk) _) ok.n
  obtain ⟨told, hlook⟩ := map_look HR.map hkey
  have hhas' : Maps.has D (keyLit (masked i.a i.n) i.n) = true := hhas
  simp only [hhas'] at hlook
  clear hhas'
  have HK := Lib.hid hkey; have HL := Lib.hid hlook; clear hkey
  have u25 := Try.underlying25
  have l25 := info25 (masked i.a i.n) i.n
  refine wp_region_held_drew (S := fun W => Ready i b mb D B1 B2 w W) (by kernel_rfl) (HR.heap rfl rfl rfl rfl) ?_
  intro hH
  refine wpAnyH_take (i := 0) (v := .pointer (some ⟨b, 0, none⟩)) rfl (by kernel_rfl) (by kernel_rfl) (by kernel_rfl) (fun _ _ _ h => h) (Or.inl ⟨by rfl, fun W hW => by go_simp⟩) hH ?_
  refine wpAnyH_take (i := 1) (v := .pointer (some ⟨b, 0, none⟩)) rfl (by kernel_rfl) (by kernel_rfl) (by kernel_rfl) (fun _ _ _ h => h) (Or.inl ⟨by rfl, fun W hW => by go_simp⟩) hH ?_
  refine wpAnyH_take (i := 2) (v := .pointer (some ⟨b, 0, none⟩)) rfl (by kernel_rfl) (by kernel_rfl) (by kernel_rfl) (fun _ _ _ h => h) (Or.inl ⟨by rfl, fun W hW => by go_simp⟩) hH ?_
  refine wpAnyH_take (i := 3) (v := .map (some mb)) rfl (by kernel_rfl) (by kernel_rfl) (by kernel_rfl) (fun _ _ _ h => h) (Or.inl ⟨by rfl, fun W hW => by have c0 : W.cell? ⟨b, 0, none⟩ = some (.map (some mb)) := cell_blk hW.hb 0; clear hW hlook; go_simp⟩) hH ?_
  refine wpAnyH_take (i := 4) (v := .agg (preL (masked i.a i.n) i.n).toArray) rfl (by kernel_rfl) (by kernel_rfl) (by kernel_rfl) (fun _ _ _ h => h) (yieldsIf_load_mid (by rfl) 25 _ rfl B2 0 rfl (preL (masked i.a i.n) i.n) _ (fun W hW => range_preL hW.h2) u25 rfl (l25)) hH ?_
  refine wpAnyH_take (i := 5) (v := .tuple #[.int .u64 told, .bool true]) rfl (by kernel_rfl) (by kernel_rfl) (by kernel_rfl) (fun _ _ _ h => h) (Or.inl ⟨by rfl, fun W hW => by have hl : (Instr.lookup 56 (.map (some mb)) (.agg (preL (masked i.a i.n) i.n).toArray) true).run Try.prog W = .ok (.tuple #[.int .u64 told, .bool true]) W := hlook W mb hW.map; clear hW hlook; go_simp⟩) hH ?_
  refine wpAnyH_take (i := 6) (v := .tuple #[.int .u64 told, .bool true]) rfl (by kernel_rfl) (by kernel_rfl) (by kernel_rfl) (fun _ _ _ h => h) (Or.inl ⟨by rfl, fun W hW => by clear hlook; go_simp⟩) hH ?_
  refine wpAnyH_take (i := 7) (v := .int .u64 told) rfl (by kernel_rfl) (by kernel_rfl) (by kernel_rfl) (fun _ _ _ h => h) (Or.inl ⟨by rfl, fun W hW => by clear hlook; go_simp⟩) hH ?_
  refine wpAnyH_take (i := 8) (v := .bool true) rfl (by kernel_rfl) (by kernel_rfl) (by kernel_rfl) (fun _ _ _ h => h) (Or.inl ⟨by rfl, fun W hW => by clear hlook; go_simp⟩) hH ?_
  refine wpAnyH_take (i := 9) (v := .int .u64 told) rfl (by kernel_rfl) (by kernel_rfl) (by kernel_rfl) (fun _ _ _ h => h) (Or.inl ⟨by rfl, fun W hW => by clear hlook; go_simp⟩) hH ?_
  refine wpAnyH_take (i := 10) (v := .bool true) rfl (by kernel_rfl) (by kernel_rfl) (by kernel_rfl) (fun _ _ _ h => h) (Or.inl ⟨by rfl, fun W hW => by clear hlook; go_simp⟩) hH ?_
  refine wpAnyH_done (by kernel_rfl) ?_ _
  have c19 := hH.sees.2.2
  have cb := hH.sees.1
  clear HR hlook
  have tv : ((i.v : Int) == 0) = true := by simp [hv]
  go_wp2_with fail
  have HR2 : Ready i b mb D B1 B2 w w5.drew.drew := hH.heap rfl rfl rfl rfl
  refine wp_region_held_drew (S := fun W => W.cell? ⟨b, 0, none⟩ = some (.map (some mb)) ∧ W.rangeAt B2 0 (preL (masked i.a i.n) i.n) ∧ W.cell? ⟨B1, 19, none⟩ = some (.int .u32 (i.v : Int))) (by kernel_rfl) HR2.sees ?_
  clear hH
  intro hH
  refine wpAnyH_take (i := 0) (v := .pointer (some ⟨b, 0, none⟩)) rfl (by kernel_rfl) (by kernel_rfl) (by kernel_rfl) (fun _ _ _ h => h) (Or.inl ⟨by rfl, fun W hW => by go_simp⟩) hH ?_
  refine wpAnyH_take (i := 1) (v := .pointer (some ⟨b, 0, none⟩)) rfl (by kernel_rfl) (by kernel_rfl) (by kernel_rfl) (fun _ _ _ h => h) (Or.inl ⟨by rfl, fun W hW => by go_simp⟩) hH ?_
  refine wpAnyH_take (i := 2) (v := .pointer (some ⟨b, 0, none⟩)) rfl (by kernel_rfl) (by kernel_rfl) (by kernel_rfl) (fun _ _ _ h => h) (Or.inl ⟨by rfl, fun W hW => by go_simp⟩) hH ?_
  refine wpAnyH_take (i := 3) (v := .map (some mb)) rfl (by kernel_rfl) (by kernel_rfl) (by kernel_rfl) (fun _ _ _ h => h) (Or.inl ⟨by rfl, fun W hW => by have c0 : W.cell? ⟨b, 0, none⟩ = some (.map (some mb)) := hW.1; clear hW; go_simp⟩) hH ?_
  refine wpAnyH_take (i := 4) (v := .agg (preL (masked i.a i.n) i.n).toArray) rfl (by kernel_rfl) (by kernel_rfl) (by kernel_rfl) (fun _ _ _ h => h) (yieldsIf_load_mid (by rfl) 25 _ rfl B2 0 rfl (preL (masked i.a i.n) i.n) _ (fun W hW => hW.2.1) u25 rfl (l25)) hH ?_
  refine wpAnyH_ready (rs := [5]) (by kernel_rfl) (by simp) ?_
  refine AllReadyH.cons rfl (fun K hK => ?_) AllReadyH.nil
  obtain ⟨w6, hrun, hown, hturn⟩ := HR2.map.drop keyed Try.underlying56 HK.out 0
  have hrun' : (Builtin.delete_ #[56, 25] 0 #[.map (some mb), .agg (preL (masked i.a i.n) i.n).toArray]).run Try.prog w5.drew.drew = .ok (.tuple #[]) w6 := hrun
  clear hrun
  have HT := Lib.hid hturn; have HO := Lib.hid hown; clear hturn hown
  go_simp
  refine hK.out _ _ (HR2.over HT.out) (fun hH3 => ?_)
  clear hK hH hrun'
  refine wpAnyH_done (by kernel_rfl) ?_ _
  clear hH3 u25 l25
  go_wp2_with fail
  go_ret
  exact ⟨rfl, HR2.turned HO.out HT.out⟩

set_option maxRecDepth 100000 in
set_option maxHeartbeats 1000000 in
theorem learn_again (i : Info) (b mb now : Nat) (D : PD) (w : World) (ok : i.Ok) (hnow : now < 18446744073709551616) (h : w.heap[b]? = some (.cells #[.map (some mb)] 58 (0, 0))) (hm : MapIs w mb D) (hon : i.on = true) (hn : i.n ≤ 128) (hlink : linkB i.a = false) (hmany : manyB i.a = false) (hhas : Maps.has D i.key = true) (hv : 0 < i.v) (hsz : Maps.size D ≤ 8) :
    Calls Try.prog 8 #[.pointer (some ⟨b, 0, none⟩), .int .u64 now, .agg i.cells] w fun e w' => e = .returned (.bool true) ∧ Learnt b mb (D.put i.key (.lit (.int .u64 (i.until_ now : Nat)))) w w' := by
  have h1 : (w.alloc (.cells i.cells 28)).heap[w.heap.size]? = some (.cells i.cells 28 (0, 0)) := heap_alloc_new _ _
  have r1 := range_info h1
  have h2 := heap_alloc2_new w (.cells i.cells 28) (.cells (preCells (fun _ => 0) 0) 25)
  have hB := begun_mk (i := i) h hm
  rw [← zeroPre] at h2 hB
  have R1 := Lib.hid r1; have H2 := Lib.hid h2; have HBEG := Lib.hid hB; clear r1 h1 h2 hB
  have hsz : 17 = (preL i.a i.n).toArray.size := by simp [preL_length]
  have HS := Lib.hid hsz; clear hsz
  go_enter Try.func8, Try.ntmps8
  go_wp2_with (first | (refine wpList_load_mid rfl 25 _ rfl w.heap.size 0 rfl (preL i.a i.n) _ R1.out Try.underlying25 rfl (info25 _ _) ?_) | (refine wpList_store_row rfl 25 _ _ rfl (w.heap.size + 1) (preL i.a i.n).toArray rfl rfl 25 _ H2.out (by rw [← HS.out]; kernel_rfl) HS.out (all_oneCell_toArray (preL_one _ _)) ?_))
  generalize (((w.alloc (.cells i.cells 28)).alloc _).setRow (w.heap.size + 1) (preL i.a i.n).toArray) = w1 at *
  obtain ⟨B1, hB1⟩ : ∃ B, B = w.heap.size := ⟨_, rfl⟩
  obtain ⟨B2, hB2⟩ : ∃ B, B = w.heap.size + 1 := ⟨_, rfl⟩
  have HB : Begun i b mb D B1 B2 w w1 := by rw [hB1, hB2]; exact HBEG.out
  rw [← hB2, ← hB1]
  have N1 := Lib.hid hB1; have N2 := Lib.hid hB2; clear hB1 hB2 HBEG R1 H2 HS
  refine (there_any b mb _ HB.hb).mono ?_
  rintro e w2 ⟨rfl, rfl⟩
  have c17 : w1.cell? ⟨B1, 17, none⟩ = some (.bool i.on) := by rw [cell_blk HB.h1]; exact i.get.1
  rw [hon] at c17
  have c16 : w1.cell? ⟨B2, 16, none⟩ = some (.int .u8 (i.n : Int)) := by rw [cell_blk HB.h2]; exact preCells_last _ _
  have tn : decide ((128 : Int) < i.n) = false := by simp; omega
  have R2 := Lib.hid (range_pre HB.h2)
  go_wp2_with (refine wpList_load_mid_g rfl 23 _ rfl B2 0 rfl (adrL i.a) _ R2.out Try.underlying23 rfl (info23 _) ?_)
  refine (link_any i.a _ ok.a).mono ?_
  rintro e w2 ⟨rfl, b2⟩
  have HB2 := HB.step b2
  rw [hlink]
  clear c16 c17 R2 HB b2
  have R3 := Lib.hid (range_pre HB2.h2)
  go_wp2_with (refine wpList_load_mid_g rfl 23 _ rfl B2 0 rfl (adrL i.a) _ R3.out Try.underlying23 rfl (info23 _) ?_)
  refine (many_any i.a _).mono ?_
  rintro e w3 ⟨rfl, b3⟩
  have HB3 := HB2.step b3
  rw [hmany]
  clear R3 HB2 b3
  have R4 := Lib.hid (range_pre HB3.h2)
  have c16 : w3.cell? ⟨B2, 16, none⟩ = some (.int .u8 (i.n : Int)) := by rw [cell_blk HB3.h2]; exact preCells_last _ _
  go_wp2_with (refine wpList_load_mid rfl 23 _ rfl B2 0 rfl (adrL i.a) _ R4.out Try.underlying23 rfl (info23 _) ?_)
  refine (masked_any i.a i.n _ ok.a ok.n).mono ?_
  rintro e w4 ⟨rfl, b4⟩
  have HB4 := HB3.step b4
  have T4 := Lib.hid (there_blk HB4.h2 (n := 16) (by simp [preCells, adrL_length]))
  have hsz : (adrCells (masked i.a i.n)).size = 16 := adrCells_size _
  have hi23 : (Try.prog.info? 23).map (·.size) = some (adrCells (masked i.a i.n)).size := by rw [hsz]; kernel_rfl
  have HI := Lib.hid hi23; have HS := Lib.hid hsz
  clear R4 HB3 b4 hsz hi23 c16
  go_wp2_with (refine wpList_store_mid rfl 23 _ _ rfl B2 0 (adrCells (masked i.a i.n)) rfl rfl (by rw [HS.out]; exact T4.out) HI.out (adrCells_one _) ?_)
  have t5 := Turned.setCells (adrL (masked i.a i.n)) 0 _ w4 HB4.h2
  rw [putAt_pre] at t5
  have hne : B1 ≠ B2 := by have := N1.out; have := N2.out; omega
  have HR := HB4.ready t5 hne
  clear HB4 T4 HI HS t5
  rw [show (adrCells (masked i.a i.n)).toList = adrL (masked i.a i.n) from rfl]
  generalize w4.setCells B2 0 (adrL (masked i.a i.n)) = w5 at *
  have hkey := keyOf_pre (masked i.a i.n) i.n (fun k hk => top_lt (ok.a k hk) _) ok.n
  obtain ⟨told, hlook⟩ := map_look HR.map hkey
  have hhas' : Maps.has D (keyLit (masked i.a i.n) i.n) = true := hhas
  simp only [hhas'] at hlook
  clear hhas'
  have HK := Lib.hid hkey; have HL := Lib.hid hlook; clear hkey
  have u25 := Try.underlying25
  have l25 := info25 (masked i.a i.n) i.n
  refine wp_region_held_drew (S := fun W => Ready i b mb D B1 B2 w W) (by kernel_rfl) (HR.heap rfl rfl rfl rfl) ?_
  intro hH
  refine wpAnyH_take (i := 0) (v := .pointer (some ⟨b, 0, none⟩)) rfl (by kernel_rfl) (by kernel_rfl) (by kernel_rfl) (fun _ _ _ h => h) (Or.inl ⟨by rfl, fun W hW => by go_simp⟩) hH ?_
  refine wpAnyH_take (i := 1) (v := .pointer (some ⟨b, 0, none⟩)) rfl (by kernel_rfl) (by kernel_rfl) (by kernel_rfl) (fun _ _ _ h => h) (Or.inl ⟨by rfl, fun W hW => by go_simp⟩) hH ?_
  refine wpAnyH_take (i := 2) (v := .pointer (some ⟨b, 0, none⟩)) rfl (by kernel_rfl) (by kernel_rfl) (by kernel_rfl) (fun _ _ _ h => h) (Or.inl ⟨by rfl, fun W hW => by go_simp⟩) hH ?_
  refine wpAnyH_take (i := 3) (v := .map (some mb)) rfl (by kernel_rfl) (by kernel_rfl) (by kernel_rfl) (fun _ _ _ h => h) (Or.inl ⟨by rfl, fun W hW => by have c0 : W.cell? ⟨b, 0, none⟩ = some (.map (some mb)) := cell_blk hW.hb 0; clear hW hlook; go_simp⟩) hH ?_
  refine wpAnyH_take (i := 4) (v := .agg (preL (masked i.a i.n) i.n).toArray) rfl (by kernel_rfl) (by kernel_rfl) (by kernel_rfl) (fun _ _ _ h => h) (yieldsIf_load_mid (by rfl) 25 _ rfl B2 0 rfl (preL (masked i.a i.n) i.n) _ (fun W hW => range_preL hW.h2) u25 rfl (l25)) hH ?_
  refine wpAnyH_take (i := 5) (v := .tuple #[.int .u64 told, .bool true]) rfl (by kernel_rfl) (by kernel_rfl) (by kernel_rfl) (fun _ _ _ h => h) (Or.inl ⟨by rfl, fun W hW => by have hl : (Instr.lookup 56 (.map (some mb)) (.agg (preL (masked i.a i.n) i.n).toArray) true).run Try.prog W = .ok (.tuple #[.int .u64 told, .bool true]) W := hlook W mb hW.map; clear hW hlook; go_simp⟩) hH ?_
  refine wpAnyH_take (i := 6) (v := .tuple #[.int .u64 told, .bool true]) rfl (by kernel_rfl) (by kernel_rfl) (by kernel_rfl) (fun _ _ _ h => h) (Or.inl ⟨by rfl, fun W hW => by clear hlook; go_simp⟩) hH ?_
  refine wpAnyH_take (i := 7) (v := .int .u64 told) rfl (by kernel_rfl) (by kernel_rfl) (by kernel_rfl) (fun _ _ _ h => h) (Or.inl ⟨by rfl, fun W hW => by clear hlook; go_simp⟩) hH ?_
  refine wpAnyH_take (i := 8) (v := .bool true) rfl (by kernel_rfl) (by kernel_rfl) (by kernel_rfl) (fun _ _ _ h => h) (Or.inl ⟨by rfl, fun W hW => by clear hlook; go_simp⟩) hH ?_
  refine wpAnyH_take (i := 9) (v := .int .u64 told) rfl (by kernel_rfl) (by kernel_rfl) (by kernel_rfl) (fun _ _ _ h => h) (Or.inl ⟨by rfl, fun W hW => by clear hlook; go_simp⟩) hH ?_
  refine wpAnyH_take (i := 10) (v := .bool true) rfl (by kernel_rfl) (by kernel_rfl) (by kernel_rfl) (fun _ _ _ h => h) (Or.inl ⟨by rfl, fun W hW => by clear hlook; go_simp⟩) hH ?_
  refine wpAnyH_done (by kernel_rfl) ?_ _
  have c19 := hH.sees.2.2
  have cb := hH.sees.1
  clear HR hlook
  have tv : ((i.v : Int) == 0) = false := by simp; omega
  go_wp2_with fail
  have HR2 : Ready i b mb D B1 B2 w w5.drew.drew := hH.heap rfl rfl rfl rfl
  refine wp_region_held_drew (S := fun W => W.cell? ⟨b, 0, none⟩ = some (.map (some mb)) ∧ W.rangeAt B2 0 (preL (masked i.a i.n) i.n) ∧ W.cell? ⟨B1, 19, none⟩ = some (.int .u32 (i.v : Int))) (by kernel_rfl) HR2.sees ?_
  clear hH cb c19
  intro hH
  refine wpAnyH_take (i := 0) (v := .pointer (some ⟨b, 0, none⟩)) rfl (by kernel_rfl) (by kernel_rfl) (by kernel_rfl) (fun _ _ _ h => h) (Or.inl ⟨by rfl, fun W hW => by go_simp⟩) hH ?_
  refine wpAnyH_take (i := 1) (v := .pointer (some ⟨b, 0, none⟩)) rfl (by kernel_rfl) (by kernel_rfl) (by kernel_rfl) (fun _ _ _ h => h) (Or.inl ⟨by rfl, fun W hW => by go_simp⟩) hH ?_
  refine wpAnyH_take (i := 2) (v := .pointer (some ⟨b, 0, none⟩)) rfl (by kernel_rfl) (by kernel_rfl) (by kernel_rfl) (fun _ _ _ h => h) (Or.inl ⟨by rfl, fun W hW => by go_simp⟩) hH ?_
  refine wpAnyH_take (i := 3) (v := .map (some mb)) rfl (by kernel_rfl) (by kernel_rfl) (by kernel_rfl) (fun _ _ _ h => h) (Or.inl ⟨by rfl, fun W hW => by have c0 : W.cell? ⟨b, 0, none⟩ = some (.map (some mb)) := hW.1; clear hW; go_simp⟩) hH ?_
  refine wpAnyH_take (i := 4) (v := .agg (preL (masked i.a i.n) i.n).toArray) rfl (by kernel_rfl) (by kernel_rfl) (by kernel_rfl) (fun _ _ _ h => h) (yieldsIf_load_mid (by rfl) 25 _ rfl B2 0 rfl (preL (masked i.a i.n) i.n) _ (fun W hW => hW.2.1) u25 rfl (l25)) hH ?_
  refine wpAnyH_take (i := 5) (v := .int .u64 now) rfl (by kernel_rfl) (by kernel_rfl) (by kernel_rfl) (fun _ _ _ h => h) (Or.inl ⟨by rfl, fun W hW => by go_simp⟩) hH ?_
  refine wpAnyH_take (i := 6) (v := .pointer (some ⟨B1, 19, none⟩)) rfl (by kernel_rfl) (by kernel_rfl) (by kernel_rfl) (fun _ _ _ h => h) (Or.inl ⟨by rfl, fun W hW => by go_simp⟩) hH ?_
  refine wpAnyH_take (i := 7) (v := .int .u32 (i.v : Int)) rfl (by kernel_rfl) (by kernel_rfl) (by kernel_rfl) (fun _ _ _ h => h) (Or.inl ⟨by rfl, fun W hW => by have c0 : W.cell? ⟨B1, 19, none⟩ = some (.int .u32 (i.v : Int)) := hW.2.2; clear hW; go_simp⟩) hH ?_
  refine wpAnyH_ready (rs := [8]) (by kernel_rfl) (by simp) ?_
  refine AllReadyH.cons rfl (fun K hK => ?_) AllReadyH.nil
  go_simp
  refine (secs_any i.v _ ok.v).mono ?_
  rintro e w6 ⟨rfl, rfl⟩
  refine hK.out _ _ hH (fun _ => ?_)
  clear hK
  refine wpAnyH_ready (rs := [9]) (by kernel_rfl) (by simp) ?_
  refine AllReadyH.cons rfl (fun K hK => ?_) AllReadyH.nil
  have hsec : secsT i.v < 18446744073709551616 := by have := ok.v; unfold secsT forever; split <;> omega
  go_simp
  refine (add_any now (secsT i.v) _ hnow hsec).mono ?_
  rintro e w6 ⟨rfl, rfl⟩
  clear hsec
  refine hK.out _ _ hH (fun _ => ?_)
  clear hK
  refine wpAnyH_ready (rs := [10]) (by kernel_rfl) (by simp) ?_
  refine AllReadyH.cons rfl (fun K hK => ?_) AllReadyH.nil
  have hwf : (Lit.int .u64 (addT now (secsT i.v) : Nat)).wf = true := by
    have : addT now (secsT i.v) < 18446744073709551616 := by unfold addT forever; omega
    simp [Lit.wf, IntKind.min, IntKind.max, IntKind.signed, IntKind.bits]; omega
  obtain ⟨w6, hrun, hown, hturn⟩ := HR2.map.store keyed Try.underlying56 (by unfold maxLen; omega) HK.out (plainElem_int Try.underlying34 hwf)
  have hrun' : (Instr.mapUpdate 56 (.map (some mb)) (.agg (preL (masked i.a i.n) i.n).toArray) (.int .u64 (addT now (secsT i.v) : Nat))).run Try.prog w5.drew.drew = .ok () w6 := hrun
  clear hrun hwf
  have HT := Lib.hid hturn; have HO := Lib.hid hown; clear hturn hown
  go_simp
  refine hK.out _ _ (HR2.over HT.out) (fun hH3 => ?_)
  clear hK hH hrun'
  refine wpAnyH_done (by kernel_rfl) ?_ _
  clear hH3 u25 l25
  go_wp2_with fail
  go_ret
  exact ⟨rfl, HR2.turned HO.out HT.out⟩

set_option maxRecDepth 100000 in
set_option maxHeartbeats 1000000 in
theorem learn_new (i : Info) (b mb now : Nat) (D : PD) (w : World) (ok : i.Ok) (hnow : now < 18446744073709551616) (h : w.heap[b]? = some (.cells #[.map (some mb)] 58 (0, 0))) (hm : MapIs w mb D) (hon : i.on = true) (hn : i.n ≤ 128) (hlink : linkB i.a = false) (hmany : manyB i.a = false) (hhas : Maps.has D i.key = false) (hv : 0 < i.v) (hsz : Maps.size D < 8) :
    Calls Try.prog 8 #[.pointer (some ⟨b, 0, none⟩), .int .u64 now, .agg i.cells] w fun e w' => e = .returned (.bool true) ∧ Learnt b mb (D.put i.key (.lit (.int .u64 (i.until_ now : Nat)))) w w' := by
  have h1 : (w.alloc (.cells i.cells 28)).heap[w.heap.size]? = some (.cells i.cells 28 (0, 0)) := heap_alloc_new _ _
  have r1 := range_info h1
  have h2 := heap_alloc2_new w (.cells i.cells 28) (.cells (preCells (fun _ => 0) 0) 25)
  have hB := begun_mk (i := i) h hm
  rw [← zeroPre] at h2 hB
  have R1 := Lib.hid r1; have H2 := Lib.hid h2; have HBEG := Lib.hid hB; clear r1 h1 h2 hB
  have hsz : 17 = (preL i.a i.n).toArray.size := by simp [preL_length]
  have HS := Lib.hid hsz; clear hsz
  go_enter Try.func8, Try.ntmps8
  go_wp2_with (first | (refine wpList_load_mid rfl 25 _ rfl w.heap.size 0 rfl (preL i.a i.n) _ R1.out Try.underlying25 rfl (info25 _ _) ?_) | (refine wpList_store_row rfl 25 _ _ rfl (w.heap.size + 1) (preL i.a i.n).toArray rfl rfl 25 _ H2.out (by rw [← HS.out]; kernel_rfl) HS.out (all_oneCell_toArray (preL_one _ _)) ?_))
  generalize (((w.alloc (.cells i.cells 28)).alloc _).setRow (w.heap.size + 1) (preL i.a i.n).toArray) = w1 at *
  obtain ⟨B1, hB1⟩ : ∃ B, B = w.heap.size := ⟨_, rfl⟩
  obtain ⟨B2, hB2⟩ : ∃ B, B = w.heap.size + 1 := ⟨_, rfl⟩
  have HB : Begun i b mb D B1 B2 w w1 := by rw [hB1, hB2]; exact HBEG.out
  rw [← hB2, ← hB1]
  have N1 := Lib.hid hB1; have N2 := Lib.hid hB2; clear hB1 hB2 HBEG R1 H2 HS
  refine (there_any b mb _ HB.hb).mono ?_
  rintro e w2 ⟨rfl, rfl⟩
  have c17 : w1.cell? ⟨B1, 17, none⟩ = some (.bool i.on) := by rw [cell_blk HB.h1]; exact i.get.1
  rw [hon] at c17
  have c16 : w1.cell? ⟨B2, 16, none⟩ = some (.int .u8 (i.n : Int)) := by rw [cell_blk HB.h2]; exact preCells_last _ _
  have tn : decide ((128 : Int) < i.n) = false := by simp; omega
  have R2 := Lib.hid (range_pre HB.h2)
  go_wp2_with (refine wpList_load_mid_g rfl 23 _ rfl B2 0 rfl (adrL i.a) _ R2.out Try.underlying23 rfl (info23 _) ?_)
  refine (link_any i.a _ ok.a).mono ?_
  rintro e w2 ⟨rfl, b2⟩
  have HB2 := HB.step b2
  rw [hlink]
  clear c16 c17 R2 HB b2
  have R3 := Lib.hid (range_pre HB2.h2)
  go_wp2_with (refine wpList_load_mid_g rfl 23 _ rfl B2 0 rfl (adrL i.a) _ R3.out Try.underlying23 rfl (info23 _) ?_)
  refine (many_any i.a _).mono ?_
  rintro e w3 ⟨rfl, b3⟩
  have HB3 := HB2.step b3
  rw [hmany]
  clear R3 HB2 b3
  have R4 := Lib.hid (range_pre HB3.h2)
  have c16 : w3.cell? ⟨B2, 16, none⟩ = some (.int .u8 (i.n : Int)) := by rw [cell_blk HB3.h2]; exact preCells_last _ _
  go_wp2_with (refine wpList_load_mid rfl 23 _ rfl B2 0 rfl (adrL i.a) _ R4.out Try.underlying23 rfl (info23 _) ?_)
  refine (masked_any i.a i.n _ ok.a ok.n).mono ?_
  rintro e w4 ⟨rfl, b4⟩
  have HB4 := HB3.step b4
  have T4 := Lib.hid (there_blk HB4.h2 (n := 16) (by simp [preCells, adrL_length]))
  have hsz : (adrCells (masked i.a i.n)).size = 16 := adrCells_size _
  have hi23 : (Try.prog.info? 23).map (·.size) = some (adrCells (masked i.a i.n)).size := by rw [hsz]; kernel_rfl
  have HI := Lib.hid hi23; have HS := Lib.hid hsz
  clear R4 HB3 b4 hsz hi23 c16
  go_wp2_with (refine wpList_store_mid rfl 23 _ _ rfl B2 0 (adrCells (masked i.a i.n)) rfl rfl (by rw [HS.out]; exact T4.out) HI.out (adrCells_one _) ?_)
  have t5 := Turned.setCells (adrL (masked i.a i.n)) 0 _ w4 HB4.h2
  rw [putAt_pre] at t5
  have hne : B1 ≠ B2 := by have := N1.out; have := N2.out; omega
  have HR := HB4.ready t5 hne
  clear HB4 T4 HI HS t5
  rw [show (adrCells (masked i.a i.n)).toList = adrL (masked i.a i.n) from rfl]
  generalize w4.setCells B2 0 (adrL (masked i.a i.n)) = w5 at *
  have hkey := keyOf_pre (masked i.a i.n) i.n (fun k hk => top_lt (ok.a k hk) _) ok.n
  obtain ⟨told, hlook⟩ := map_look HR.map hkey
  have hhas' : Maps.has D (keyLit (masked i.a i.n) i.n) = false := hhas
  simp only [hhas'] at hlook
  clear hhas'
  have HK := Lib.hid hkey; have HL := Lib.hid hlook; clear hkey
  have u25 := Try.underlying25
  have l25 := info25 (masked i.a i.n) i.n
  refine wp_region_held_drew (S := fun W => Ready i b mb D B1 B2 w W) (by kernel_rfl) (HR.heap rfl rfl rfl rfl) ?_
  intro hH
  refine wpAnyH_take (i := 0) (v := .pointer (some ⟨b, 0, none⟩)) rfl (by kernel_rfl) (by kernel_rfl) (by kernel_rfl) (fun _ _ _ h => h) (Or.inl ⟨by rfl, fun W hW => by go_simp⟩) hH ?_
  refine wpAnyH_take (i := 1) (v := .pointer (some ⟨b, 0, none⟩)) rfl (by kernel_rfl) (by kernel_rfl) (by kernel_rfl) (fun _ _ _ h => h) (Or.inl ⟨by rfl, fun W hW => by go_simp⟩) hH ?_
  refine wpAnyH_take (i := 2) (v := .pointer (some ⟨b, 0, none⟩)) rfl (by kernel_rfl) (by kernel_rfl) (by kernel_rfl) (fun _ _ _ h => h) (Or.inl ⟨by rfl, fun W hW => by go_simp⟩) hH ?_
  refine wpAnyH_take (i := 3) (v := .map (some mb)) rfl (by kernel_rfl) (by kernel_rfl) (by kernel_rfl) (fun _ _ _ h => h) (Or.inl ⟨by rfl, fun W hW => by have c0 : W.cell? ⟨b, 0, none⟩ = some (.map (some mb)) := cell_blk hW.hb 0; clear hW hlook; go_simp⟩) hH ?_
  refine wpAnyH_take (i := 4) (v := .agg (preL (masked i.a i.n) i.n).toArray) rfl (by kernel_rfl) (by kernel_rfl) (by kernel_rfl) (fun _ _ _ h => h) (yieldsIf_load_mid (by rfl) 25 _ rfl B2 0 rfl (preL (masked i.a i.n) i.n) _ (fun W hW => range_preL hW.h2) u25 rfl (l25)) hH ?_
  refine wpAnyH_take (i := 5) (v := .tuple #[.int .u64 told, .bool false]) rfl (by kernel_rfl) (by kernel_rfl) (by kernel_rfl) (fun _ _ _ h => h) (Or.inl ⟨by rfl, fun W hW => by have hl : (Instr.lookup 56 (.map (some mb)) (.agg (preL (masked i.a i.n) i.n).toArray) true).run Try.prog W = .ok (.tuple #[.int .u64 told, .bool false]) W := hlook W mb hW.map; clear hW hlook; go_simp⟩) hH ?_
  refine wpAnyH_take (i := 6) (v := .tuple #[.int .u64 told, .bool false]) rfl (by kernel_rfl) (by kernel_rfl) (by kernel_rfl) (fun _ _ _ h => h) (Or.inl ⟨by rfl, fun W hW => by clear hlook; go_simp⟩) hH ?_
  refine wpAnyH_take (i := 7) (v := .int .u64 told) rfl (by kernel_rfl) (by kernel_rfl) (by kernel_rfl) (fun _ _ _ h => h) (Or.inl ⟨by rfl, fun W hW => by clear hlook; go_simp⟩) hH ?_
  refine wpAnyH_take (i := 8) (v := .bool false) rfl (by kernel_rfl) (by kernel_rfl) (by kernel_rfl) (fun _ _ _ h => h) (Or.inl ⟨by rfl, fun W hW => by clear hlook; go_simp⟩) hH ?_
  refine wpAnyH_take (i := 9) (v := .int .u64 told) rfl (by kernel_rfl) (by kernel_rfl) (by kernel_rfl) (fun _ _ _ h => h) (Or.inl ⟨by rfl, fun W hW => by clear hlook; go_simp⟩) hH ?_
  refine wpAnyH_take (i := 10) (v := .bool false) rfl (by kernel_rfl) (by kernel_rfl) (by kernel_rfl) (fun _ _ _ h => h) (Or.inl ⟨by rfl, fun W hW => by clear hlook; go_simp⟩) hH ?_
  refine wpAnyH_done (by kernel_rfl) ?_ _
  have c19 := hH.sees.2.2
  have cb := hH.sees.1
  clear HR hlook
  have hlen : ∀ ty, (Builtin.len_ #[56] ty #[.map (some mb)]).run Try.prog w5.drew = .ok (.int .i64 (Maps.size D)) w5.drew := fun ty => hH.map.len Try.underlying56 ty
  have tv2 : decide ((0 : Int) < i.v) = true := by simp; omega
  have ts : decide ((Maps.size D : Int) < 8) = true := by simp; omega
  go_wp2_with fail
  clear hlen
  have HR2 : Ready i b mb D B1 B2 w w5.drew.drew := hH.heap rfl rfl rfl rfl
  refine wp_region_held_drew (S := fun W => W.cell? ⟨b, 0, none⟩ = some (.map (some mb)) ∧ W.rangeAt B2 0 (preL (masked i.a i.n) i.n) ∧ W.cell? ⟨B1, 19, none⟩ = some (.int .u32 (i.v : Int))) (by kernel_rfl) HR2.sees ?_
  clear hH cb c19
  intro hH
  refine wpAnyH_take (i := 0) (v := .pointer (some ⟨b, 0, none⟩)) rfl (by kernel_rfl) (by kernel_rfl) (by kernel_rfl) (fun _ _ _ h => h) (Or.inl ⟨by rfl, fun W hW => by go_simp⟩) hH ?_
  refine wpAnyH_take (i := 1) (v := .pointer (some ⟨b, 0, none⟩)) rfl (by kernel_rfl) (by kernel_rfl) (by kernel_rfl) (fun _ _ _ h => h) (Or.inl ⟨by rfl, fun W hW => by go_simp⟩) hH ?_
  refine wpAnyH_take (i := 2) (v := .pointer (some ⟨b, 0, none⟩)) rfl (by kernel_rfl) (by kernel_rfl) (by kernel_rfl) (fun _ _ _ h => h) (Or.inl ⟨by rfl, fun W hW => by go_simp⟩) hH ?_
  refine wpAnyH_take (i := 3) (v := .map (some mb)) rfl (by kernel_rfl) (by kernel_rfl) (by kernel_rfl) (fun _ _ _ h => h) (Or.inl ⟨by rfl, fun W hW => by have c0 : W.cell? ⟨b, 0, none⟩ = some (.map (some mb)) := hW.1; clear hW; go_simp⟩) hH ?_
  refine wpAnyH_take (i := 4) (v := .agg (preL (masked i.a i.n) i.n).toArray) rfl (by kernel_rfl) (by kernel_rfl) (by kernel_rfl) (fun _ _ _ h => h) (yieldsIf_load_mid (by rfl) 25 _ rfl B2 0 rfl (preL (masked i.a i.n) i.n) _ (fun W hW => hW.2.1) u25 rfl (l25)) hH ?_
  refine wpAnyH_take (i := 5) (v := .int .u64 now) rfl (by kernel_rfl) (by kernel_rfl) (by kernel_rfl) (fun _ _ _ h => h) (Or.inl ⟨by rfl, fun W hW => by go_simp⟩) hH ?_
  refine wpAnyH_take (i := 6) (v := .pointer (some ⟨B1, 19, none⟩)) rfl (by kernel_rfl) (by kernel_rfl) (by kernel_rfl) (fun _ _ _ h => h) (Or.inl ⟨by rfl, fun W hW => by go_simp⟩) hH ?_
  refine wpAnyH_take (i := 7) (v := .int .u32 (i.v : Int)) rfl (by kernel_rfl) (by kernel_rfl) (by kernel_rfl) (fun _ _ _ h => h) (Or.inl ⟨by rfl, fun W hW => by have c0 : W.cell? ⟨B1, 19, none⟩ = some (.int .u32 (i.v : Int)) := hW.2.2; clear hW; go_simp⟩) hH ?_
  refine wpAnyH_ready (rs := [8]) (by kernel_rfl) (by simp) ?_
  refine AllReadyH.cons rfl (fun K hK => ?_) AllReadyH.nil
  go_simp
  refine (secs_any i.v _ ok.v).mono ?_
  rintro e w6 ⟨rfl, rfl⟩
  refine hK.out _ _ hH (fun _ => ?_)
  clear hK
  refine wpAnyH_ready (rs := [9]) (by kernel_rfl) (by simp) ?_
  refine AllReadyH.cons rfl (fun K hK => ?_) AllReadyH.nil
  have hsec : secsT i.v < 18446744073709551616 := by have := ok.v; unfold secsT forever; split <;> omega
  go_simp
  refine (add_any now (secsT i.v) _ hnow hsec).mono ?_
  rintro e w6 ⟨rfl, rfl⟩
  clear hsec
  refine hK.out _ _ hH (fun _ => ?_)
  clear hK
  refine wpAnyH_ready (rs := [10]) (by kernel_rfl) (by simp) ?_
  refine AllReadyH.cons rfl (fun K hK => ?_) AllReadyH.nil
  have hwf : (Lit.int .u64 (addT now (secsT i.v) : Nat)).wf = true := by
    have : addT now (secsT i.v) < 18446744073709551616 := by unfold addT forever; omega
    simp [Lit.wf, IntKind.min, IntKind.max, IntKind.signed, IntKind.bits]; omega
  obtain ⟨w6, hrun, hown, hturn⟩ := HR2.map.store keyed Try.underlying56 (by unfold maxLen; omega) HK.out (plainElem_int Try.underlying34 hwf)
  have hrun' : (Instr.mapUpdate 56 (.map (some mb)) (.agg (preL (masked i.a i.n) i.n).toArray) (.int .u64 (addT now (secsT i.v) : Nat))).run Try.prog w5.drew.drew = .ok () w6 := hrun
  clear hrun hwf
  have HT := Lib.hid hturn; have HO := Lib.hid hown; clear hturn hown
  go_simp
  refine hK.out _ _ (HR2.over HT.out) (fun hH3 => ?_)
  clear hK hH hrun'
  refine wpAnyH_done (by kernel_rfl) ?_ _
  clear hH3 u25 l25
  go_wp2_with fail
  go_ret
  exact ⟨rfl, HR2.turned HO.out HT.out⟩

set_option maxRecDepth 100000 in
set_option maxHeartbeats 1000000 in
theorem learn_none (i : Info) (b mb now : Nat) (D : PD) (w : World) (ok : i.Ok) (hnow : now < 18446744073709551616) (h : w.heap[b]? = some (.cells #[.map (some mb)] 58 (0, 0))) (hm : MapIs w mb D) (hon : i.on = true) (hn : i.n ≤ 128) (hlink : linkB i.a = false) (hmany : manyB i.a = false) (hhas : Maps.has D i.key = false) (hv : i.v = 0) :
    Calls Try.prog 8 #[.pointer (some ⟨b, 0, none⟩), .int .u64 now, .agg i.cells] w fun e w' => e = .returned (.bool false) ∧ Learnt b mb D w w' := by
  have h1 : (w.alloc (.cells i.cells 28)).heap[w.heap.size]? = some (.cells i.cells 28 (0, 0)) := heap_alloc_new _ _
  have r1 := range_info h1
  have h2 := heap_alloc2_new w (.cells i.cells 28) (.cells (preCells (fun _ => 0) 0) 25)
  have hB := begun_mk (i := i) h hm
  rw [← zeroPre] at h2 hB
  have R1 := Lib.hid r1; have H2 := Lib.hid h2; have HBEG := Lib.hid hB; clear r1 h1 h2 hB
  have hsz : 17 = (preL i.a i.n).toArray.size := by simp [preL_length]
  have HS := Lib.hid hsz; clear hsz
  go_enter Try.func8, Try.ntmps8
  go_wp2_with (first | (refine wpList_load_mid rfl 25 _ rfl w.heap.size 0 rfl (preL i.a i.n) _ R1.out Try.underlying25 rfl (info25 _ _) ?_) | (refine wpList_store_row rfl 25 _ _ rfl (w.heap.size + 1) (preL i.a i.n).toArray rfl rfl 25 _ H2.out (by rw [← HS.out]; kernel_rfl) HS.out (all_oneCell_toArray (preL_one _ _)) ?_))
  generalize (((w.alloc (.cells i.cells 28)).alloc _).setRow (w.heap.size + 1) (preL i.a i.n).toArray) = w1 at *
  obtain ⟨B1, hB1⟩ : ∃ B, B = w.heap.size := ⟨_, rfl⟩
  obtain ⟨B2, hB2⟩ : ∃ B, B = w.heap.size + 1 := ⟨_, rfl⟩
  have HB : Begun i b mb D B1 B2 w w1 := by rw [hB1, hB2]; exact HBEG.out
  rw [← hB2, ← hB1]
  have N1 := Lib.hid hB1; have N2 := Lib.hid hB2; clear hB1 hB2 HBEG R1 H2 HS
  refine (there_any b mb _ HB.hb).mono ?_
  rintro e w2 ⟨rfl, rfl⟩
  have c17 : w1.cell? ⟨B1, 17, none⟩ = some (.bool i.on) := by rw [cell_blk HB.h1]; exact i.get.1
  rw [hon] at c17
  have c16 : w1.cell? ⟨B2, 16, none⟩ = some (.int .u8 (i.n : Int)) := by rw [cell_blk HB.h2]; exact preCells_last _ _
  have tn : decide ((128 : Int) < i.n) = false := by simp; omega
  have R2 := Lib.hid (range_pre HB.h2)
  go_wp2_with (refine wpList_load_mid_g rfl 23 _ rfl B2 0 rfl (adrL i.a) _ R2.out Try.underlying23 rfl (info23 _) ?_)
  refine (link_any i.a _ ok.a).mono ?_
  rintro e w2 ⟨rfl, b2⟩
  have HB2 := HB.step b2
  rw [hlink]
  clear c16 c17 R2 HB b2
  have R3 := Lib.hid (range_pre HB2.h2)
  go_wp2_with (refine wpList_load_mid_g rfl 23 _ rfl B2 0 rfl (adrL i.a) _ R3.out Try.underlying23 rfl (info23 _) ?_)
  refine (many_any i.a _).mono ?_
  rintro e w3 ⟨rfl, b3⟩
  have HB3 := HB2.step b3
  rw [hmany]
  clear R3 HB2 b3
  have R4 := Lib.hid (range_pre HB3.h2)
  have c16 : w3.cell? ⟨B2, 16, none⟩ = some (.int .u8 (i.n : Int)) := by rw [cell_blk HB3.h2]; exact preCells_last _ _
  go_wp2_with (refine wpList_load_mid rfl 23 _ rfl B2 0 rfl (adrL i.a) _ R4.out Try.underlying23 rfl (info23 _) ?_)
  refine (masked_any i.a i.n _ ok.a ok.n).mono ?_
  rintro e w4 ⟨rfl, b4⟩
  have HB4 := HB3.step b4
  have T4 := Lib.hid (there_blk HB4.h2 (n := 16) (by simp [preCells, adrL_length]))
  have hsz : (adrCells (masked i.a i.n)).size = 16 := adrCells_size _
  have hi23 : (Try.prog.info? 23).map (·.size) = some (adrCells (masked i.a i.n)).size := by rw [hsz]; kernel_rfl
  have HI := Lib.hid hi23; have HS := Lib.hid hsz
  clear R4 HB3 b4 hsz hi23 c16
  go_wp2_with (refine wpList_store_mid rfl 23 _ _ rfl B2 0 (adrCells (masked i.a i.n)) rfl rfl (by rw [HS.out]; exact T4.out) HI.out (adrCells_one _) ?_)
  have t5 := Turned.setCells (adrL (masked i.a i.n)) 0 _ w4 HB4.h2
  rw [putAt_pre] at t5
  have hne : B1 ≠ B2 := by have := N1.out; have := N2.out; omega
  have HR := HB4.ready t5 hne
  clear HB4 T4 HI HS t5
  rw [show (adrCells (masked i.a i.n)).toList = adrL (masked i.a i.n) from rfl]
  generalize w4.setCells B2 0 (adrL (masked i.a i.n)) = w5 at *
  have hkey := keyOf_pre (masked i.a i.n) i.n (fun k hk => top_lt (ok.a k hk) _) ok.n
  obtain ⟨told, hlook⟩ := map_look HR.map hkey
  have hhas' : Maps.has D (keyLit (masked i.a i.n) i.n) = false := hhas
  simp only [hhas'] at hlook
  clear hhas'
  have HK := Lib.hid hkey; have HL := Lib.hid hlook; clear hkey
  have u25 := Try.underlying25
  have l25 := info25 (masked i.a i.n) i.n
  refine wp_region_held_drew (S := fun W => Ready i b mb D B1 B2 w W) (by kernel_rfl) (HR.heap rfl rfl rfl rfl) ?_
  intro hH
  refine wpAnyH_take (i := 0) (v := .pointer (some ⟨b, 0, none⟩)) rfl (by kernel_rfl) (by kernel_rfl) (by kernel_rfl) (fun _ _ _ h => h) (Or.inl ⟨by rfl, fun W hW => by go_simp⟩) hH ?_
  refine wpAnyH_take (i := 1) (v := .pointer (some ⟨b, 0, none⟩)) rfl (by kernel_rfl) (by kernel_rfl) (by kernel_rfl) (fun _ _ _ h => h) (Or.inl ⟨by rfl, fun W hW => by go_simp⟩) hH ?_
  refine wpAnyH_take (i := 2) (v := .pointer (some ⟨b, 0, none⟩)) rfl (by kernel_rfl) (by kernel_rfl) (by kernel_rfl) (fun _ _ _ h => h) (Or.inl ⟨by rfl, fun W hW => by go_simp⟩) hH ?_
  refine wpAnyH_take (i := 3) (v := .map (some mb)) rfl (by kernel_rfl) (by kernel_rfl) (by kernel_rfl) (fun _ _ _ h => h) (Or.inl ⟨by rfl, fun W hW => by have c0 : W.cell? ⟨b, 0, none⟩ = some (.map (some mb)) := cell_blk hW.hb 0; clear hW hlook; go_simp⟩) hH ?_
  refine wpAnyH_take (i := 4) (v := .agg (preL (masked i.a i.n) i.n).toArray) rfl (by kernel_rfl) (by kernel_rfl) (by kernel_rfl) (fun _ _ _ h => h) (yieldsIf_load_mid (by rfl) 25 _ rfl B2 0 rfl (preL (masked i.a i.n) i.n) _ (fun W hW => range_preL hW.h2) u25 rfl (l25)) hH ?_
  refine wpAnyH_take (i := 5) (v := .tuple #[.int .u64 told, .bool false]) rfl (by kernel_rfl) (by kernel_rfl) (by kernel_rfl) (fun _ _ _ h => h) (Or.inl ⟨by rfl, fun W hW => by have hl : (Instr.lookup 56 (.map (some mb)) (.agg (preL (masked i.a i.n) i.n).toArray) true).run Try.prog W = .ok (.tuple #[.int .u64 told, .bool false]) W := hlook W mb hW.map; clear hW hlook; go_simp⟩) hH ?_
  refine wpAnyH_take (i := 6) (v := .tuple #[.int .u64 told, .bool false]) rfl (by kernel_rfl) (by kernel_rfl) (by kernel_rfl) (fun _ _ _ h => h) (Or.inl ⟨by rfl, fun W hW => by clear hlook; go_simp⟩) hH ?_
  refine wpAnyH_take (i := 7) (v := .int .u64 told) rfl (by kernel_rfl) (by kernel_rfl) (by kernel_rfl) (fun _ _ _ h => h) (Or.inl ⟨by rfl, fun W hW => by clear hlook; go_simp⟩) hH ?_
  refine wpAnyH_take (i := 8) (v := .bool false) rfl (by kernel_rfl) (by kernel_rfl) (by kernel_rfl) (fun _ _ _ h => h) (Or.inl ⟨by rfl, fun W hW => by clear hlook; go_simp⟩) hH ?_
  refine wpAnyH_take (i := 9) (v := .int .u64 told) rfl (by kernel_rfl) (by kernel_rfl) (by kernel_rfl) (fun _ _ _ h => h) (Or.inl ⟨by rfl, fun W hW => by clear hlook; go_simp⟩) hH ?_
  refine wpAnyH_take (i := 10) (v := .bool false) rfl (by kernel_rfl) (by kernel_rfl) (by kernel_rfl) (fun _ _ _ h => h) (Or.inl ⟨by rfl, fun W hW => by clear hlook; go_simp⟩) hH ?_
  refine wpAnyH_done (by kernel_rfl) ?_ _
  have c19 := hH.sees.2.2
  have cb := hH.sees.1
  clear HR hlook
  have tv2 : decide ((0 : Int) < i.v) = false := by simp; omega
  go_wp2_with fail
  go_ret
  exact ⟨rfl, Learnt.same h hm hH.below⟩

set_option maxRecDepth 100000 in
set_option maxHeartbeats 1000000 in
theorem learn_full (i : Info) (b mb now : Nat) (D : PD) (w : World) (ok : i.Ok) (hnow : now < 18446744073709551616) (h : w.heap[b]? = some (.cells #[.map (some mb)] 58 (0, 0))) (hm : MapIs w mb D) (hon : i.on = true) (hn : i.n ≤ 128) (hlink : linkB i.a = false) (hmany : manyB i.a = false) (hhas : Maps.has D i.key = false) (hv : 0 < i.v) (hsz : 8 ≤ Maps.size D) :
    Calls Try.prog 8 #[.pointer (some ⟨b, 0, none⟩), .int .u64 now, .agg i.cells] w fun e w' => e = .returned (.bool false) ∧ Learnt b mb D w w' := by
  have h1 : (w.alloc (.cells i.cells 28)).heap[w.heap.size]? = some (.cells i.cells 28 (0, 0)) := heap_alloc_new _ _
  have r1 := range_info h1
  have h2 := heap_alloc2_new w (.cells i.cells 28) (.cells (preCells (fun _ => 0) 0) 25)
  have hB := begun_mk (i := i) h hm
  rw [← zeroPre] at h2 hB
  have R1 := Lib.hid r1; have H2 := Lib.hid h2; have HBEG := Lib.hid hB; clear r1 h1 h2 hB
  have hsz : 17 = (preL i.a i.n).toArray.size := by simp [preL_length]
  have HS := Lib.hid hsz; clear hsz
  go_enter Try.func8, Try.ntmps8
  go_wp2_with (first | (refine wpList_load_mid rfl 25 _ rfl w.heap.size 0 rfl (preL i.a i.n) _ R1.out Try.underlying25 rfl (info25 _ _) ?_) | (refine wpList_store_row rfl 25 _ _ rfl (w.heap.size + 1) (preL i.a i.n).toArray rfl rfl 25 _ H2.out (by rw [← HS.out]; kernel_rfl) HS.out (all_oneCell_toArray (preL_one _ _)) ?_))
  generalize (((w.alloc (.cells i.cells 28)).alloc _).setRow (w.heap.size + 1) (preL i.a i.n).toArray) = w1 at *
  obtain ⟨B1, hB1⟩ : ∃ B, B = w.heap.size := ⟨_, rfl⟩
  obtain ⟨B2, hB2⟩ : ∃ B, B = w.heap.size + 1 := ⟨_, rfl⟩
  have HB : Begun i b mb D B1 B2 w w1 := by rw [hB1, hB2]; exact HBEG.out
  rw [← hB2, ← hB1]
  have N1 := Lib.hid hB1; have N2 := Lib.hid hB2; clear hB1 hB2 HBEG R1 H2 HS
  refine (there_any b mb _ HB.hb).mono ?_
  rintro e w2 ⟨rfl, rfl⟩
  have c17 : w1.cell? ⟨B1, 17, none⟩ = some (.bool i.on) := by rw [cell_blk HB.h1]; exact i.get.1
  rw [hon] at c17
  have c16 : w1.cell? ⟨B2, 16, none⟩ = some (.int .u8 (i.n : Int)) := by rw [cell_blk HB.h2]; exact preCells_last _ _
  have tn : decide ((128 : Int) < i.n) = false := by simp; omega
  have R2 := Lib.hid (range_pre HB.h2)
  go_wp2_with (refine wpList_load_mid_g rfl 23 _ rfl B2 0 rfl (adrL i.a) _ R2.out Try.underlying23 rfl (info23 _) ?_)
  refine (link_any i.a _ ok.a).mono ?_
  rintro e w2 ⟨rfl, b2⟩
  have HB2 := HB.step b2
  rw [hlink]
  clear c16 c17 R2 HB b2
  have R3 := Lib.hid (range_pre HB2.h2)
  go_wp2_with (refine wpList_load_mid_g rfl 23 _ rfl B2 0 rfl (adrL i.a) _ R3.out Try.underlying23 rfl (info23 _) ?_)
  refine (many_any i.a _).mono ?_
  rintro e w3 ⟨rfl, b3⟩
  have HB3 := HB2.step b3
  rw [hmany]
  clear R3 HB2 b3
  have R4 := Lib.hid (range_pre HB3.h2)
  have c16 : w3.cell? ⟨B2, 16, none⟩ = some (.int .u8 (i.n : Int)) := by rw [cell_blk HB3.h2]; exact preCells_last _ _
  go_wp2_with (refine wpList_load_mid rfl 23 _ rfl B2 0 rfl (adrL i.a) _ R4.out Try.underlying23 rfl (info23 _) ?_)
  refine (masked_any i.a i.n _ ok.a ok.n).mono ?_
  rintro e w4 ⟨rfl, b4⟩
  have HB4 := HB3.step b4
  have T4 := Lib.hid (there_blk HB4.h2 (n := 16) (by simp [preCells, adrL_length]))
  have hsz : (adrCells (masked i.a i.n)).size = 16 := adrCells_size _
  have hi23 : (Try.prog.info? 23).map (·.size) = some (adrCells (masked i.a i.n)).size := by rw [hsz]; kernel_rfl
  have HI := Lib.hid hi23; have HS := Lib.hid hsz
  clear R4 HB3 b4 hsz hi23 c16
  go_wp2_with (refine wpList_store_mid rfl 23 _ _ rfl B2 0 (adrCells (masked i.a i.n)) rfl rfl (by rw [HS.out]; exact T4.out) HI.out (adrCells_one _) ?_)
  have t5 := Turned.setCells (adrL (masked i.a i.n)) 0 _ w4 HB4.h2
  rw [putAt_pre] at t5
  have hne : B1 ≠ B2 := by have := N1.out; have := N2.out; omega
  have HR := HB4.ready t5 hne
  clear HB4 T4 HI HS t5
  rw [show (adrCells (masked i.a i.n)).toList = adrL (masked i.a i.n) from rfl]
  generalize w4.setCells B2 0 (adrL (masked i.a i.n)) = w5 at *
  have hkey := keyOf_pre (masked i.a i.n) i.n (fun k hk => top_lt (ok.a k hk) _) ok.n
  obtain ⟨told, hlook⟩ := map_look HR.map hkey
  have hhas' : Maps.has D (keyLit (masked i.a i.n) i.n) = false := hhas
  simp only [hhas'] at hlook
  clear hhas'
  have HK := Lib.hid hkey; have HL := Lib.hid hlook; clear hkey
  have u25 := Try.underlying25
  have l25 := info25 (masked i.a i.n) i.n
  refine wp_region_held_drew (S := fun W => Ready i b mb D B1 B2 w W) (by kernel_rfl) (HR.heap rfl rfl rfl rfl) ?_
  intro hH
  refine wpAnyH_take (i := 0) (v := .pointer (some ⟨b, 0, none⟩)) rfl (by kernel_rfl) (by kernel_rfl) (by kernel_rfl) (fun _ _ _ h => h) (Or.inl ⟨by rfl, fun W hW => by go_simp⟩) hH ?_
  refine wpAnyH_take (i := 1) (v := .pointer (some ⟨b, 0, none⟩)) rfl (by kernel_rfl) (by kernel_rfl) (by kernel_rfl) (fun _ _ _ h => h) (Or.inl ⟨by rfl, fun W hW => by go_simp⟩) hH ?_
  refine wpAnyH_take (i := 2) (v := .pointer (some ⟨b, 0, none⟩)) rfl (by kernel_rfl) (by kernel_rfl) (by kernel_rfl) (fun _ _ _ h => h) (Or.inl ⟨by rfl, fun W hW => by go_simp⟩) hH ?_
  refine wpAnyH_take (i := 3) (v := .map (some mb)) rfl (by kernel_rfl) (by kernel_rfl) (by kernel_rfl) (fun _ _ _ h => h) (Or.inl ⟨by rfl, fun W hW => by have c0 : W.cell? ⟨b, 0, none⟩ = some (.map (some mb)) := cell_blk hW.hb 0; clear hW hlook; go_simp⟩) hH ?_
  refine wpAnyH_take (i := 4) (v := .agg (preL (masked i.a i.n) i.n).toArray) rfl (by kernel_rfl) (by kernel_rfl) (by kernel_rfl) (fun _ _ _ h => h) (yieldsIf_load_mid (by rfl) 25 _ rfl B2 0 rfl (preL (masked i.a i.n) i.n) _ (fun W hW => range_preL hW.h2) u25 rfl (l25)) hH ?_
  refine wpAnyH_take (i := 5) (v := .tuple #[.int .u64 told, .bool false]) rfl (by kernel_rfl) (by kernel_rfl) (by kernel_rfl) (fun _ _ _ h => h) (Or.inl ⟨by rfl, fun W hW => by have hl : (Instr.lookup 56 (.map (some mb)) (.agg (preL (masked i.a i.n) i.n).toArray) true).run Try.prog W = .ok (.tuple #[.int .u64 told, .bool false]) W := hlook W mb hW.map; clear hW hlook; go_simp⟩) hH ?_
  refine wpAnyH_take (i := 6) (v := .tuple #[.int .u64 told, .bool false]) rfl (by kernel_rfl) (by kernel_rfl) (by kernel_rfl) (fun _ _ _ h => h) (Or.inl ⟨by rfl, fun W hW => by clear hlook; go_simp⟩) hH ?_
  refine wpAnyH_take (i := 7) (v := .int .u64 told) rfl (by kernel_rfl) (by kernel_rfl) (by kernel_rfl) (fun _ _ _ h => h) (Or.inl ⟨by rfl, fun W hW => by clear hlook; go_simp⟩) hH ?_
  refine wpAnyH_take (i := 8) (v := .bool false) rfl (by kernel_rfl) (by kernel_rfl) (by kernel_rfl) (fun _ _ _ h => h) (Or.inl ⟨by rfl, fun W hW => by clear hlook; go_simp⟩) hH ?_
  refine wpAnyH_take (i := 9) (v := .int .u64 told) rfl (by kernel_rfl) (by kernel_rfl) (by kernel_rfl) (fun _ _ _ h => h) (Or.inl ⟨by rfl, fun W hW => by clear hlook; go_simp⟩) hH ?_
  refine wpAnyH_take (i := 10) (v := .bool false) rfl (by kernel_rfl) (by kernel_rfl) (by kernel_rfl) (fun _ _ _ h => h) (Or.inl ⟨by rfl, fun W hW => by clear hlook; go_simp⟩) hH ?_
  refine wpAnyH_done (by kernel_rfl) ?_ _
  have c19 := hH.sees.2.2
  have cb := hH.sees.1
  clear HR hlook
  have hlen : ∀ ty, (Builtin.len_ #[56] ty #[.map (some mb)]).run Try.prog w5.drew = .ok (.int .i64 (Maps.size D)) w5.drew := fun ty => hH.map.len Try.underlying56 ty
  have tv2 : decide ((0 : Int) < i.v) = true := by simp; omega
  have ts : decide ((Maps.size D : Int) < 8) = false := by simp; omega
  go_wp2_with fail
  go_ret
  exact ⟨rfl, Learnt.same h hm hH.below⟩
end Go.Proofs.Ytkhbchgocilclaa
