/- Several texts in one: Told, Tell2. No condition beyond those that each part names. -/
import Derived.Test.YtfolamkjlgpgmaaGreatDoorTellM
import Derived.Test.YtfolamkjlgpgmaaGreatDoorMade
/- An option's data handed to a reader: the walks. No condition but what the reader's contract says. (Printed by gTold.py.) -/
namespace Go.Proofs.YtfolamkjlgpgmaaGreatDoor
open Go.RowKit
set_option linter.unusedVariables false
set_option linter.unusedSimpArgs false
theorem results_row_tmp {P : Program} {fn : Func} {p u : Tmp} {ty : TypeId} (h : fn.results = #[.cell p ty, .tmp u]) (tmps : Array Value) (w : World) (g : Nat) (t : TypeId) (cs : Array Value) (fr : Nat × Nat) (d : TypeDesc)
    (hp : tmps.getD p undef = .pointer (some ⟨g, 0, none⟩)) (hg : w.heap[g]? = some (.cells cs t fr))
    (hu : P.underlying ty = some d) (hd : (match d with | .struct _ | .array _ _ => true | _ => false) = true) (hi : (P.info? ty).map (·.size) = some cs.size) :
    (results fn tmps).run P w = .ok (.tuple #[.agg cs, tmps.getD u undef]) w := by
  have hp' : tmps[p]?.getD undef = .pointer (some ⟨g, 0, none⟩) := by simpa using hp
  simp [results, h, hp', asAddr, run_loadVar_row w g t ty cs fr d hg hu hd hi]
/-- what a reader gives -/
structure Gives (n : Nat) (w0 : World) (q kd : Nat) (v : Value) (l : List Nat) (C : Array Value) (r : Bool) (cf : Nat) : Prop where
  calls : ∀ (W : World) (p g c : Nat), CS w0 q kd v p g c 0 l W → Calls Tryz.prog cf #[.pointer (some ⟨p, 0, none⟩), .pointer (some ⟨q, 0, none⟩)] W fun e w' => e = .returned (.tuple #[.agg C, .bool r]) ∧ CS w0 q kd v p g c n l w'
theorem sizeZ49 : (Tryz.prog.info? 28).map (·.size) = some (#[.int .u8 0, .int .u8 0, .int .u8 0, .int .u8 0, .int .u8 0, .int .u8 0] : Array Value).size := by kernel_rfl
set_option maxRecDepth 100000 in
set_option maxHeartbeats 4000000 in
theorem told85 {q kd : Nat} {A : Option Addr} {c : Nat} {l : List Nat} {C : Array Value} {r : Bool} (w : World) {v : Value} (hq : w.heap[q]? = some (.cells #[.int .u8 (kd : Int), v] 24 (0, 0))) (h : Bs w w.heap.size A c l) (hl : l.length ≤ 1000000000)
    (hG : ∀ w0 : World, l.length = 6 → Gives 6 w0 q kd v l C r 30) (hC : C.size = 6) (hC1 : C.all (·.oneCell') = true) :
    Calls Tryz.prog 29 #[.slice A l.length c, .int .i64 6, .func (.func 30) #[] #[.pointer (some ⟨q, 0, none⟩)]] w fun e w' => e = .returned (.tuple #[.agg (if l.length = 6 ∧ r = true then C else #[.int .u8 0, .int .u8 0, .int .u8 0, .int .u8 0, .int .u8 0, .int .u8 0]), .bool (decide (l.length = 6 ∧ r = true))]) ∧ Below w.heap.size w w' := by
  obtain ⟨V, hV⟩ : ∃ V, V = w.alloc (.cells #[.int .u8 0, .int .u8 0, .int .u8 0, .int .u8 0, .int .u8 0, .int .u8 0] 28) := ⟨_, rfl⟩
  have hz : V.heap[w.heap.size]? = some (.cells #[.int .u8 0, .int .u8 0, .int .u8 0, .int .u8 0, .int .u8 0, .int .u8 0] 28 (0, 0)) := by rw [hV, heap_alloc_new]
  have hBV : Below w.heap.size w V := by rw [hV]; exact (Below.refl _ _).alloc (Nat.le_refl _) _
  have hz0 : (w.alloc (.cells #[.int .u8 0, .int .u8 0, .int .u8 0, .int .u8 0, .int .u8 0, .int .u8 0] 28)).heap[w.heap.size]? = some (.cells #[.int .u8 0, .int .u8 0, .int .u8 0, .int .u8 0, .int .u8 0, .int .u8 0] 28 (0, 0)) := by rw [heap_alloc_new]
  have hVs : V.heap.size = w.heap.size + 1 := by rw [hV]; simp
  have HZ := Lib.hid hz; have HZ0 := Lib.hid hz0; have HBV := Lib.hid hBV; have HVS := Lib.hid hVs
  have hqV := (hBV.block q (lt_of_blk hq)).trans hq
  have HQ := Lib.hid hqV; have HQL := Lib.hid (lt_of_blk hq)
  have HO := Lib.hid (of47 (c := c) V (h.below hBV) hl)
  have HSC : Hid ((Tryz.prog.info? 28).map (·.size) = some C.size) := Lib.hid (by rw [hC]; kernel_rfl)
  have HC := Lib.hid hC; have HC1 := Lib.hid hC1; have HG := Lib.hid hG
  have HSZ := Lib.hid sizeZ49
  have HZ1 : Hid (((#[.int .u8 0, .int .u8 0, .int .u8 0, .int .u8 0, .int .u8 0, .int .u8 0] : Array Value).all (·.oneCell')) = true) := Lib.hid (by simp [Value.oneCell'])
  obtain ⟨n, hn⟩ : ∃ n, l.length = n := ⟨_, rfl⟩
  have HN := Lib.hid hn
  rw [hn] at HO ⊢
  clear hz hBV hVs hq h hqV hG hC hC1 hn hz0
  go_enter Tryz.func29, Tryz.ntmps29
  by_cases h6 : n = 6
  · subst h6
    have t0 : (((6 : Nat) : Int) != 6) = false := by decide
    go_wp2_with fail
    rw [← hV]
    clear hV
    refine (HO.out).mono ?_
    rintro e w1 ⟨p, g, c1, rfl, k1, k2, k3, k4⟩
    have hS1 : CS V q kd v p g c1 0 l w1 := ⟨k1, (k4.block q (by rw [HVS.out]; have := HQL.out; omega)).trans HQ.out, k2, by have := HQL.out; have := HVS.out; omega, k4⟩
    have HCL := Lib.hid ((HG.out V HN.out).calls w1 p g c1 hS1)
    clear k1 k2 k3 k4 hS1 HO
    go_wp2_with fail
    refine (HCL.out).mono ?_
    rintro e w2 ⟨rfl, hS2⟩
    have hn3 := heap_alloc_new w2 (.cells #[.int .u8 0, .int .u8 0, .int .u8 0, .int .u8 0, .int .u8 0, .int .u8 0] 28)
    have hb3 : Below w2.heap.size w2 (w2.alloc (.cells #[.int .u8 0, .int .u8 0, .int .u8 0, .int .u8 0, .int .u8 0, .int .u8 0] 28)) := (Below.refl _ _).alloc (Nat.le_refl _) _
    have t3 := Turned.setRow hn3 C
    have HN3 := Lib.hid hn3
    have hb4 : Below w2.heap.size w2 ((w2.alloc (.cells #[.int .u8 0, .int .u8 0, .int .u8 0, .int .u8 0, .int .u8 0, .int .u8 0] 28)).setRow w2.heap.size C) := hb3.trans (t3.below (Nat.le_refl _))
    have HS4 := Lib.hid (hS2.step hb4)
    have HT9 := Lib.hid (t3.get (lt_of_blk hn3))
    have HZ4 := Lib.hid (((hS2.step hb4).below.block w.heap.size (by rw [HVS.out]; omega)).trans HZ.out)
    clear hS2 hn3 hb3 t3 hb4 HCL
    cases r
    · go_upto_region 5 with (refine wpList_store_row rfl 28 _ _ rfl w2.heap.size C rfl rfl 28 _ HN3.out HSC.out ?hold HC1.out ?_)
      case hold => rw [HC.out]; rfl
      obtain ⟨W, hW⟩ : ∃ W, W = (w2.alloc (.cells #[.int .u8 0, .int .u8 0, .int .u8 0, .int .u8 0, .int .u8 0, .int .u8 0] 28)).setRow w2.heap.size C := ⟨_, rfl⟩
      rw [← hW] at HS4 HT9 HZ4 ⊢
      clear hW HN3
      go_wp2_with (first | (refine wpList_load_row rfl 28 _ rfl w.heap.size rfl 28 _ (0, 0) _ HZ4.out Tryz.underlying28 rfl HSZ.out ?_) | (refine wpList_store_row rfl 28 _ _ rfl w.heap.size #[.int .u8 0, .int .u8 0, .int .u8 0, .int .u8 0, .int .u8 0, .int .u8 0] rfl rfl 28 _ HZ4.out HSZ.out rfl HZ1.out ?_))
      have t := Turned.setRow HZ4.out #[.int .u8 0, .int .u8 0, .int .u8 0, .int .u8 0, .int .u8 0, .int .u8 0]
      refine bodyPost_ret (results_row_tmp Tryz.results29 _ _ w.heap.size 28 _ (0, 0) _ rfl (t.get (lt_of_blk HZ4.out)) Tryz.underlying28 rfl HSZ.out) rfl ⟨?_, HBV.out.trans ((HS4.out.below.mono (by rw [HVS.out]; omega)).trans (t.below (Nat.le_refl _)))⟩
      rfl
    · go_wp2_with (refine wpList_store_row rfl 28 _ _ rfl w2.heap.size C rfl rfl 28 _ HN3.out HSC.out ?hold HC1.out ?_)
      case hold => rw [HC.out]; rfl
      obtain ⟨W, hW⟩ : ∃ W, W = (w2.alloc (.cells #[.int .u8 0, .int .u8 0, .int .u8 0, .int .u8 0, .int .u8 0, .int .u8 0] 28)).setRow w2.heap.size C := ⟨_, rfl⟩
      rw [← hW] at HS4 HT9 HZ4 ⊢
      clear hW HN3
      obtain ⟨Ap, hp, _⟩ := HS4.out.cut.at_
      rw [HN.out] at hp
      have HBAD := Lib.hid (bad51 W hp)
      have HLEFT : Hid (Calls Tryz.prog 42 #[.pointer (some ⟨p, 0, none⟩)] W fun e w' => e = .returned (.int .i64 0) ∧ W = w') := Lib.hid ((left48 W hp).mono (by
        rintro e w' ⟨rfl, rfl⟩
        exact ⟨by simp, rfl⟩))
      obtain ⟨t9, ht9⟩ : ∃ t9, t9 = w2.heap.size := ⟨_, rfl⟩
      rw [← ht9] at HT9 ⊢
      clear hp ht9
      go_wp2_with fail
      refine (HBAD.out).mono ?_
      rintro e w5 ⟨rfl, rfl⟩
      go_wp2_with fail
      refine (HLEFT.out).mono ?_
      rintro e w5 ⟨rfl, rfl⟩
      go_wp2_with (first | (refine wpList_load_row rfl 28 _ rfl t9 rfl 28 _ (0, 0) _ HT9.out Tryz.underlying28 rfl HSC.out ?_) | (refine wpList_store_row rfl 28 _ _ rfl w.heap.size C rfl rfl 28 _ HZ4.out HSC.out ?hold HC1.out ?_))
      case hold => rw [HC.out]; rfl
      have t := Turned.setRow HZ4.out C
      refine bodyPost_ret (results_row_tmp Tryz.results29 _ _ w.heap.size 28 _ (0, 0) _ rfl (t.get (lt_of_blk HZ4.out)) Tryz.underlying28 rfl HSC.out) rfl ⟨?_, HBV.out.trans ((HS4.out.below.mono (by rw [HVS.out]; omega)).trans (t.below (Nat.le_refl _)))⟩
      rfl
  · have t0 : ((n : Int) != 6) = true := by simp; omega
    have e1 : ¬ (n = 6 ∧ r = true) := fun h => h6 h.1
    rw [if_neg e1, decide_eq_false e1]
    go_wp2_with (first | (refine wpList_load_row rfl 28 _ rfl w.heap.size rfl 28 _ (0, 0) _ HZ0.out Tryz.underlying28 rfl HSZ.out ?_) | (refine wpList_store_row rfl 28 _ _ rfl w.heap.size #[.int .u8 0, .int .u8 0, .int .u8 0, .int .u8 0, .int .u8 0, .int .u8 0] rfl rfl 28 _ HZ0.out HSZ.out rfl HZ1.out ?_))
    have t := Turned.setRow HZ0.out #[.int .u8 0, .int .u8 0, .int .u8 0, .int .u8 0, .int .u8 0, .int .u8 0]
    refine bodyPost_ret (results_row_tmp Tryz.results29 _ _ w.heap.size 28 _ (0, 0) _ rfl (t.get (lt_of_blk HZ0.out)) Tryz.underlying28 rfl HSZ.out) rfl ⟨rfl, ?_⟩
    rw [← hV]
    rw [← hV] at t
    exact HBV.out.trans (t.below (Nat.le_refl _))
theorem sizeZ56 : (Tryz.prog.info? 37).map (·.size) = some (#[.int .u8 0, .int .u8 0, .int .u8 0, .int .u8 0, .int .u8 0, .int .u8 0, .int .u8 0, .int .u8 0, .int .u8 0, .int .u8 0, .int .u8 0, .int .u8 0, .int .u8 0, .int .u8 0, .int .u8 0, .int .u8 0, .int .u8 0, .bool false, .bool false, .int .u32 0, .int .u32 0] : Array Value).size := by kernel_rfl
set_option maxRecDepth 100000 in
set_option maxHeartbeats 4000000 in
theorem told87 {q kd : Nat} {A : Option Addr} {c : Nat} {l : List Nat} {C : Array Value} {r : Bool} (w : World) {v : Value} (hq : w.heap[q]? = some (.cells #[.int .u8 (kd : Int), v] 24 (0, 0))) (h : Bs w w.heap.size A c l) (hl : l.length ≤ 1000000000)
    (hG : ∀ w0 : World, l.length = 30 → Gives 30 w0 q kd v l C r 33) (hC : C.size = 21) (hC1 : C.all (·.oneCell') = true) :
    Calls Tryz.prog 32 #[.slice A l.length c, .int .i64 30, .func (.func 33) #[] #[.pointer (some ⟨q, 0, none⟩)]] w fun e w' => e = .returned (.tuple #[.agg (if l.length = 30 ∧ r = true then C else #[.int .u8 0, .int .u8 0, .int .u8 0, .int .u8 0, .int .u8 0, .int .u8 0, .int .u8 0, .int .u8 0, .int .u8 0, .int .u8 0, .int .u8 0, .int .u8 0, .int .u8 0, .int .u8 0, .int .u8 0, .int .u8 0, .int .u8 0, .bool false, .bool false, .int .u32 0, .int .u32 0]), .bool (decide (l.length = 30 ∧ r = true))]) ∧ Below w.heap.size w w' := by
  obtain ⟨V, hV⟩ : ∃ V, V = w.alloc (.cells #[.int .u8 0, .int .u8 0, .int .u8 0, .int .u8 0, .int .u8 0, .int .u8 0, .int .u8 0, .int .u8 0, .int .u8 0, .int .u8 0, .int .u8 0, .int .u8 0, .int .u8 0, .int .u8 0, .int .u8 0, .int .u8 0, .int .u8 0, .bool false, .bool false, .int .u32 0, .int .u32 0] 37) := ⟨_, rfl⟩
  have hz : V.heap[w.heap.size]? = some (.cells #[.int .u8 0, .int .u8 0, .int .u8 0, .int .u8 0, .int .u8 0, .int .u8 0, .int .u8 0, .int .u8 0, .int .u8 0, .int .u8 0, .int .u8 0, .int .u8 0, .int .u8 0, .int .u8 0, .int .u8 0, .int .u8 0, .int .u8 0, .bool false, .bool false, .int .u32 0, .int .u32 0] 37 (0, 0)) := by rw [hV, heap_alloc_new]
  have hBV : Below w.heap.size w V := by rw [hV]; exact (Below.refl _ _).alloc (Nat.le_refl _) _
  have hz0 : (w.alloc (.cells #[.int .u8 0, .int .u8 0, .int .u8 0, .int .u8 0, .int .u8 0, .int .u8 0, .int .u8 0, .int .u8 0, .int .u8 0, .int .u8 0, .int .u8 0, .int .u8 0, .int .u8 0, .int .u8 0, .int .u8 0, .int .u8 0, .int .u8 0, .bool false, .bool false, .int .u32 0, .int .u32 0] 37)).heap[w.heap.size]? = some (.cells #[.int .u8 0, .int .u8 0, .int .u8 0, .int .u8 0, .int .u8 0, .int .u8 0, .int .u8 0, .int .u8 0, .int .u8 0, .int .u8 0, .int .u8 0, .int .u8 0, .int .u8 0, .int .u8 0, .int .u8 0, .int .u8 0, .int .u8 0, .bool false, .bool false, .int .u32 0, .int .u32 0] 37 (0, 0)) := by rw [heap_alloc_new]
  have hVs : V.heap.size = w.heap.size + 1 := by rw [hV]; simp
  have HZ := Lib.hid hz; have HZ0 := Lib.hid hz0; have HBV := Lib.hid hBV; have HVS := Lib.hid hVs
  have hqV := (hBV.block q (lt_of_blk hq)).trans hq
  have HQ := Lib.hid hqV; have HQL := Lib.hid (lt_of_blk hq)
  have HO := Lib.hid (of47 (c := c) V (h.below hBV) hl)
  have HSC : Hid ((Tryz.prog.info? 37).map (·.size) = some C.size) := Lib.hid (by rw [hC]; kernel_rfl)
  have HC := Lib.hid hC; have HC1 := Lib.hid hC1; have HG := Lib.hid hG
  have HSZ := Lib.hid sizeZ56
  have HZ1 : Hid (((#[.int .u8 0, .int .u8 0, .int .u8 0, .int .u8 0, .int .u8 0, .int .u8 0, .int .u8 0, .int .u8 0, .int .u8 0, .int .u8 0, .int .u8 0, .int .u8 0, .int .u8 0, .int .u8 0, .int .u8 0, .int .u8 0, .int .u8 0, .bool false, .bool false, .int .u32 0, .int .u32 0] : Array Value).all (·.oneCell')) = true) := Lib.hid (by simp [Value.oneCell'])
  obtain ⟨n, hn⟩ : ∃ n, l.length = n := ⟨_, rfl⟩
  have HN := Lib.hid hn
  rw [hn] at HO ⊢
  clear hz hBV hVs hq h hqV hG hC hC1 hn hz0
  go_enter Tryz.func32, Tryz.ntmps32
  by_cases h6 : n = 30
  · subst h6
    have t0 : (((30 : Nat) : Int) != 30) = false := by decide
    go_wp2_with fail
    rw [← hV]
    clear hV
    refine (HO.out).mono ?_
    rintro e w1 ⟨p, g, c1, rfl, k1, k2, k3, k4⟩
    have hS1 : CS V q kd v p g c1 0 l w1 := ⟨k1, (k4.block q (by rw [HVS.out]; have := HQL.out; omega)).trans HQ.out, k2, by have := HQL.out; have := HVS.out; omega, k4⟩
    have HCL := Lib.hid ((HG.out V HN.out).calls w1 p g c1 hS1)
    clear k1 k2 k3 k4 hS1 HO
    go_wp2_with fail
    refine (HCL.out).mono ?_
    rintro e w2 ⟨rfl, hS2⟩
    have hn3 := heap_alloc_new w2 (.cells #[.int .u8 0, .int .u8 0, .int .u8 0, .int .u8 0, .int .u8 0, .int .u8 0, .int .u8 0, .int .u8 0, .int .u8 0, .int .u8 0, .int .u8 0, .int .u8 0, .int .u8 0, .int .u8 0, .int .u8 0, .int .u8 0, .int .u8 0, .bool false, .bool false, .int .u32 0, .int .u32 0] 37)
    have hb3 : Below w2.heap.size w2 (w2.alloc (.cells #[.int .u8 0, .int .u8 0, .int .u8 0, .int .u8 0, .int .u8 0, .int .u8 0, .int .u8 0, .int .u8 0, .int .u8 0, .int .u8 0, .int .u8 0, .int .u8 0, .int .u8 0, .int .u8 0, .int .u8 0, .int .u8 0, .int .u8 0, .bool false, .bool false, .int .u32 0, .int .u32 0] 37)) := (Below.refl _ _).alloc (Nat.le_refl _) _
    have t3 := Turned.setRow hn3 C
    have HN3 := Lib.hid hn3
    have hb4 : Below w2.heap.size w2 ((w2.alloc (.cells #[.int .u8 0, .int .u8 0, .int .u8 0, .int .u8 0, .int .u8 0, .int .u8 0, .int .u8 0, .int .u8 0, .int .u8 0, .int .u8 0, .int .u8 0, .int .u8 0, .int .u8 0, .int .u8 0, .int .u8 0, .int .u8 0, .int .u8 0, .bool false, .bool false, .int .u32 0, .int .u32 0] 37)).setRow w2.heap.size C) := hb3.trans (t3.below (Nat.le_refl _))
    have HS4 := Lib.hid (hS2.step hb4)
    have HT9 := Lib.hid (t3.get (lt_of_blk hn3))
    have HZ4 := Lib.hid (((hS2.step hb4).below.block w.heap.size (by rw [HVS.out]; omega)).trans HZ.out)
    clear hS2 hn3 hb3 t3 hb4 HCL
    cases r
    · go_upto_region 5 with (refine wpList_store_row rfl 37 _ _ rfl w2.heap.size C rfl rfl 37 _ HN3.out HSC.out ?hold HC1.out ?_)
      case hold => rw [HC.out]; rfl
      obtain ⟨W, hW⟩ : ∃ W, W = (w2.alloc (.cells #[.int .u8 0, .int .u8 0, .int .u8 0, .int .u8 0, .int .u8 0, .int .u8 0, .int .u8 0, .int .u8 0, .int .u8 0, .int .u8 0, .int .u8 0, .int .u8 0, .int .u8 0, .int .u8 0, .int .u8 0, .int .u8 0, .int .u8 0, .bool false, .bool false, .int .u32 0, .int .u32 0] 37)).setRow w2.heap.size C := ⟨_, rfl⟩
      rw [← hW] at HS4 HT9 HZ4 ⊢
      clear hW HN3
      go_wp2_with (first | (refine wpList_load_row rfl 37 _ rfl w.heap.size rfl 37 _ (0, 0) _ HZ4.out Tryz.underlying37 rfl HSZ.out ?_) | (refine wpList_store_row rfl 37 _ _ rfl w.heap.size #[.int .u8 0, .int .u8 0, .int .u8 0, .int .u8 0, .int .u8 0, .int .u8 0, .int .u8 0, .int .u8 0, .int .u8 0, .int .u8 0, .int .u8 0, .int .u8 0, .int .u8 0, .int .u8 0, .int .u8 0, .int .u8 0, .int .u8 0, .bool false, .bool false, .int .u32 0, .int .u32 0] rfl rfl 37 _ HZ4.out HSZ.out rfl HZ1.out ?_))
      have t := Turned.setRow HZ4.out #[.int .u8 0, .int .u8 0, .int .u8 0, .int .u8 0, .int .u8 0, .int .u8 0, .int .u8 0, .int .u8 0, .int .u8 0, .int .u8 0, .int .u8 0, .int .u8 0, .int .u8 0, .int .u8 0, .int .u8 0, .int .u8 0, .int .u8 0, .bool false, .bool false, .int .u32 0, .int .u32 0]
      refine bodyPost_ret (results_row_tmp Tryz.results32 _ _ w.heap.size 37 _ (0, 0) _ rfl (t.get (lt_of_blk HZ4.out)) Tryz.underlying37 rfl HSZ.out) rfl ⟨?_, HBV.out.trans ((HS4.out.below.mono (by rw [HVS.out]; omega)).trans (t.below (Nat.le_refl _)))⟩
      rfl
    · go_wp2_with (refine wpList_store_row rfl 37 _ _ rfl w2.heap.size C rfl rfl 37 _ HN3.out HSC.out ?hold HC1.out ?_)
      case hold => rw [HC.out]; rfl
      obtain ⟨W, hW⟩ : ∃ W, W = (w2.alloc (.cells #[.int .u8 0, .int .u8 0, .int .u8 0, .int .u8 0, .int .u8 0, .int .u8 0, .int .u8 0, .int .u8 0, .int .u8 0, .int .u8 0, .int .u8 0, .int .u8 0, .int .u8 0, .int .u8 0, .int .u8 0, .int .u8 0, .int .u8 0, .bool false, .bool false, .int .u32 0, .int .u32 0] 37)).setRow w2.heap.size C := ⟨_, rfl⟩
      rw [← hW] at HS4 HT9 HZ4 ⊢
      clear hW HN3
      obtain ⟨Ap, hp, _⟩ := HS4.out.cut.at_
      rw [HN.out] at hp
      have HBAD := Lib.hid (bad51 W hp)
      have HLEFT : Hid (Calls Tryz.prog 42 #[.pointer (some ⟨p, 0, none⟩)] W fun e w' => e = .returned (.int .i64 0) ∧ W = w') := Lib.hid ((left48 W hp).mono (by
        rintro e w' ⟨rfl, rfl⟩
        exact ⟨by simp, rfl⟩))
      obtain ⟨t9, ht9⟩ : ∃ t9, t9 = w2.heap.size := ⟨_, rfl⟩
      rw [← ht9] at HT9 ⊢
      clear hp ht9
      go_wp2_with fail
      refine (HBAD.out).mono ?_
      rintro e w5 ⟨rfl, rfl⟩
      go_wp2_with fail
      refine (HLEFT.out).mono ?_
      rintro e w5 ⟨rfl, rfl⟩
      go_wp2_with (first | (refine wpList_load_row rfl 37 _ rfl t9 rfl 37 _ (0, 0) _ HT9.out Tryz.underlying37 rfl HSC.out ?_) | (refine wpList_store_row rfl 37 _ _ rfl w.heap.size C rfl rfl 37 _ HZ4.out HSC.out ?hold HC1.out ?_))
      case hold => rw [HC.out]; rfl
      have t := Turned.setRow HZ4.out C
      refine bodyPost_ret (results_row_tmp Tryz.results32 _ _ w.heap.size 37 _ (0, 0) _ rfl (t.get (lt_of_blk HZ4.out)) Tryz.underlying37 rfl HSC.out) rfl ⟨?_, HBV.out.trans ((HS4.out.below.mono (by rw [HVS.out]; omega)).trans (t.below (Nat.le_refl _)))⟩
      rfl
  · have t0 : ((n : Int) != 30) = true := by simp; omega
    have e1 : ¬ (n = 30 ∧ r = true) := fun h => h6 h.1
    rw [if_neg e1, decide_eq_false e1]
    go_wp2_with (first | (refine wpList_load_row rfl 37 _ rfl w.heap.size rfl 37 _ (0, 0) _ HZ0.out Tryz.underlying37 rfl HSZ.out ?_) | (refine wpList_store_row rfl 37 _ _ rfl w.heap.size #[.int .u8 0, .int .u8 0, .int .u8 0, .int .u8 0, .int .u8 0, .int .u8 0, .int .u8 0, .int .u8 0, .int .u8 0, .int .u8 0, .int .u8 0, .int .u8 0, .int .u8 0, .int .u8 0, .int .u8 0, .int .u8 0, .int .u8 0, .bool false, .bool false, .int .u32 0, .int .u32 0] rfl rfl 37 _ HZ0.out HSZ.out rfl HZ1.out ?_))
    have t := Turned.setRow HZ0.out #[.int .u8 0, .int .u8 0, .int .u8 0, .int .u8 0, .int .u8 0, .int .u8 0, .int .u8 0, .int .u8 0, .int .u8 0, .int .u8 0, .int .u8 0, .int .u8 0, .int .u8 0, .int .u8 0, .int .u8 0, .int .u8 0, .int .u8 0, .bool false, .bool false, .int .u32 0, .int .u32 0]
    refine bodyPost_ret (results_row_tmp Tryz.results32 _ _ w.heap.size 37 _ (0, 0) _ rfl (t.get (lt_of_blk HZ0.out)) Tryz.underlying37 rfl HSZ.out) rfl ⟨rfl, ?_⟩
    rw [← hV]
    rw [← hV] at t
    exact HBV.out.trans (t.below (Nat.le_refl _))
end Go.Proofs.YtfolamkjlgpgmaaGreatDoor

/- An option read by kind: an address of the link, a prefix: the walks. (Printed by gTell2.py.) -/
namespace Go.Proofs.YtfolamkjlgpgmaaGreatDoor
open Go.RowKit
set_option linter.unusedVariables false
set_option linter.unusedSimpArgs false
set_option maxRecDepth 100000 in
set_option maxHeartbeats 4000000 in
theorem tell74 {kd : Nat} {A : Option Addr} {c : Nat} {l : List Nat} {C : Array Value} {r : Bool} (w : World) (h : Bs w w.heap.size A c l) (hl : l.length ≤ 1000000000)
    (hG : ∀ (w0 : World) (q : Nat) (v : Value), l.length = 6 → Gives 6 w0 q kd v l C r 30) (hC : C.size = 6) (hC1 : C.all (·.oneCell') = true) :
    Calls Tryz.prog 6 #[.agg #[.int .u8 (kd : Int), .slice A l.length c]] w fun e w' => e = .returned (.tuple #[.agg (if l.length = 6 ∧ r = true then C else #[.int .u8 0, .int .u8 0, .int .u8 0, .int .u8 0, .int .u8 0, .int .u8 0]), .bool (decide (l.length = 6 ∧ r = true))]) ∧ Below w.heap.size w w' := by
  obtain ⟨hb2, h2, h3⟩ := two_new w (.cells #[.int .u8 (kd : Int), .slice A l.length c] 24) (.cells #[.int .u8 0, .int .u8 0, .int .u8 0, .int .u8 0, .int .u8 0, .int .u8 0] 28)
  obtain ⟨V, hV⟩ : ∃ V, V = (w.alloc (.cells #[.int .u8 (kd : Int), .slice A l.length c] 24)).alloc (.cells #[.int .u8 0, .int .u8 0, .int .u8 0, .int .u8 0, .int .u8 0, .int .u8 0] 28) := ⟨_, rfl⟩
  rw [← hV] at hb2 h2 h3
  have HT := Lib.hid (told85 (A := A) (c := c) (l := l) (C := C) (r := r) V h2 ((h.below hb2).mono hb2.size) hl (fun w0 => hG w0 w.heap.size _) hC hC1)
  obtain ⟨G, eG⟩ : ∃ G, G = (if l.length = 6 ∧ r = true then C else #[.int .u8 0, .int .u8 0, .int .u8 0, .int .u8 0, .int .u8 0, .int .u8 0]) := ⟨_, rfl⟩
  have hGs : G.size = 6 := by rw [eG]; split; exact hC; rfl
  have hG1 : G.all (·.oneCell') = true := by rw [eG]; split; exact hC1; simp [Value.oneCell']
  have HGS : Hid ((Tryz.prog.info? 28).map (·.size) = some G.size) := Lib.hid (by rw [hGs]; kernel_rfl)
  have HG := Lib.hid hGs; have HG1 := Lib.hid hG1
  obtain ⟨b, eb⟩ : ∃ b, b = decide (l.length = 6 ∧ r = true) := ⟨_, rfl⟩
  rw [← eG, ← eb] at HT ⊢
  obtain ⟨n, hn⟩ : ∃ n, l.length = n := ⟨_, rfl⟩
  rw [hn] at HT h2 hV ⊢
  have c1 := cell_blk h2 1
  simp only [List.getElem?_toArray, List.getElem?_cons_zero, List.getElem?_cons_succ] at c1
  have HB := Lib.hid hb2
  have H3 := Lib.hid h3
  have hlt3 := lt_of_blk h3
  clear h hG hC hC1 eG hGs hG1 eb hn hb2 h2 h3 hl
  go_enter Tryz.func6, Tryz.ntmps6
  go_wp2_with fail
  rw [← hV]
  clear hV
  refine (HT.out).mono ?_
  rintro e w3 ⟨rfl, hb⟩
  have HB3 := Lib.hid (HB.out.trans (hb.mono HB.out.size))
  have H33 := Lib.hid ((hb.block _ hlt3).trans H3.out)
  clear hb HT H3
  go_wp2_with (refine wpList_store_row rfl 28 _ _ rfl (w.heap.size + 1) G rfl rfl 28 _ H33.out HGS.out ?hold HG1.out ?_)
  case hold => rw [HG.out]; rfl
  have t := Turned.setRow H33.out G
  refine bodyPost_ret (results_row_tmp Tryz.results6 _ _ (w.heap.size + 1) 28 _ (0, 0) _ rfl (t.get (lt_of_blk H33.out)) Tryz.underlying28 rfl HGS.out) rfl ⟨rfl, HB3.out.trans (t.below (Nat.le_succ _))⟩
set_option maxRecDepth 100000 in
set_option maxHeartbeats 4000000 in
theorem tell75 {kd : Nat} {A : Option Addr} {c : Nat} {l : List Nat} {C : Array Value} {r : Bool} (w : World) (h : Bs w w.heap.size A c l) (hl : l.length ≤ 1000000000)
    (hG : ∀ (w0 : World) (q : Nat) (v : Value), l.length = 30 → Gives 30 w0 q kd v l C r 33) (hC : C.size = 21) (hC1 : C.all (·.oneCell') = true) :
    Calls Tryz.prog 8 #[.agg #[.int .u8 (kd : Int), .slice A l.length c]] w fun e w' => e = .returned (.tuple #[.agg (if l.length = 30 ∧ r = true then C else #[.int .u8 0, .int .u8 0, .int .u8 0, .int .u8 0, .int .u8 0, .int .u8 0, .int .u8 0, .int .u8 0, .int .u8 0, .int .u8 0, .int .u8 0, .int .u8 0, .int .u8 0, .int .u8 0, .int .u8 0, .int .u8 0, .int .u8 0, .bool false, .bool false, .int .u32 0, .int .u32 0]), .bool (decide (l.length = 30 ∧ r = true))]) ∧ Below w.heap.size w w' := by
  obtain ⟨hb2, h2, h3⟩ := two_new w (.cells #[.int .u8 (kd : Int), .slice A l.length c] 24) (.cells #[.int .u8 0, .int .u8 0, .int .u8 0, .int .u8 0, .int .u8 0, .int .u8 0, .int .u8 0, .int .u8 0, .int .u8 0, .int .u8 0, .int .u8 0, .int .u8 0, .int .u8 0, .int .u8 0, .int .u8 0, .int .u8 0, .int .u8 0, .bool false, .bool false, .int .u32 0, .int .u32 0] 37)
  obtain ⟨V, hV⟩ : ∃ V, V = (w.alloc (.cells #[.int .u8 (kd : Int), .slice A l.length c] 24)).alloc (.cells #[.int .u8 0, .int .u8 0, .int .u8 0, .int .u8 0, .int .u8 0, .int .u8 0, .int .u8 0, .int .u8 0, .int .u8 0, .int .u8 0, .int .u8 0, .int .u8 0, .int .u8 0, .int .u8 0, .int .u8 0, .int .u8 0, .int .u8 0, .bool false, .bool false, .int .u32 0, .int .u32 0] 37) := ⟨_, rfl⟩
  rw [← hV] at hb2 h2 h3
  have HT := Lib.hid (told87 (A := A) (c := c) (l := l) (C := C) (r := r) V h2 ((h.below hb2).mono hb2.size) hl (fun w0 => hG w0 w.heap.size _) hC hC1)
  obtain ⟨G, eG⟩ : ∃ G, G = (if l.length = 30 ∧ r = true then C else #[.int .u8 0, .int .u8 0, .int .u8 0, .int .u8 0, .int .u8 0, .int .u8 0, .int .u8 0, .int .u8 0, .int .u8 0, .int .u8 0, .int .u8 0, .int .u8 0, .int .u8 0, .int .u8 0, .int .u8 0, .int .u8 0, .int .u8 0, .bool false, .bool false, .int .u32 0, .int .u32 0]) := ⟨_, rfl⟩
  have hGs : G.size = 21 := by rw [eG]; split; exact hC; rfl
  have hG1 : G.all (·.oneCell') = true := by rw [eG]; split; exact hC1; simp [Value.oneCell']
  have HGS : Hid ((Tryz.prog.info? 37).map (·.size) = some G.size) := Lib.hid (by rw [hGs]; kernel_rfl)
  have HG := Lib.hid hGs; have HG1 := Lib.hid hG1
  obtain ⟨b, eb⟩ : ∃ b, b = decide (l.length = 30 ∧ r = true) := ⟨_, rfl⟩
  rw [← eG, ← eb] at HT ⊢
  obtain ⟨n, hn⟩ : ∃ n, l.length = n := ⟨_, rfl⟩
  rw [hn] at HT h2 hV ⊢
  have c1 := cell_blk h2 1
  simp only [List.getElem?_toArray, List.getElem?_cons_zero, List.getElem?_cons_succ] at c1
  have HB := Lib.hid hb2
  have H3 := Lib.hid h3
  have hlt3 := lt_of_blk h3
  clear h hG hC hC1 eG hGs hG1 eb hn hb2 h2 h3 hl
  go_enter Tryz.func8, Tryz.ntmps8
  go_wp2_with fail
  rw [← hV]
  clear hV
  refine (HT.out).mono ?_
  rintro e w3 ⟨rfl, hb⟩
  have HB3 := Lib.hid (HB.out.trans (hb.mono HB.out.size))
  have H33 := Lib.hid ((hb.block _ hlt3).trans H3.out)
  clear hb HT H3
  go_wp2_with (refine wpList_store_row rfl 37 _ _ rfl (w.heap.size + 1) G rfl rfl 37 _ H33.out HGS.out ?hold HG1.out ?_)
  case hold => rw [HG.out]; rfl
  have t := Turned.setRow H33.out G
  refine bodyPost_ret (results_row_tmp Tryz.results8 _ _ (w.heap.size + 1) 37 _ (0, 0) _ rfl (t.get (lt_of_blk H33.out)) Tryz.underlying37 rfl HGS.out) rfl ⟨rfl, HB3.out.trans (t.below (Nat.le_succ _))⟩
def macC (l : List Nat) : Array Value := #[.int .u8 ((l.getD 0 0 : Nat) : Int), .int .u8 ((l.getD 1 0 : Nat) : Int), .int .u8 ((l.getD 2 0 : Nat) : Int), .int .u8 ((l.getD 3 0 : Nat) : Int), .int .u8 ((l.getD 4 0 : Nat) : Int), .int .u8 ((l.getD 5 0 : Nat) : Int)]
theorem mac74 {kd : Nat} {A : Option Addr} {c : Nat} {l : List Nat} (w : World) (h : Bs w w.heap.size A c l) (hl : l.length ≤ 1000000000) :
    Calls Tryz.prog 6 #[.agg #[.int .u8 (kd : Int), .slice A l.length c]] w fun e w' => e = .returned (.tuple #[.agg (if l.length = 6 ∧ (kd == 1 || kd == 2) = true then macC l else #[.int .u8 0, .int .u8 0, .int .u8 0, .int .u8 0, .int .u8 0, .int .u8 0]), .bool (decide (l.length = 6 ∧ (kd == 1 || kd == 2) = true))]) ∧ Below w.heap.size w w' :=
  tell74 w h hl (fun w0 q v h6 => ⟨fun W p g c hS => mac86 (m := fun i => l.getD i 0) W hS h6 (fun i hi => by
    rw [List.getD_eq_getElem?_getD, List.getElem?_eq_getElem (by omega)]; rfl) rfl⟩) rfl (by simp [macC, Value.oneCell'])
end Go.Proofs.YtfolamkjlgpgmaaGreatDoor
