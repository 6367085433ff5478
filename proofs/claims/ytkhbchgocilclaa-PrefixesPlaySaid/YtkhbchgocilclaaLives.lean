/- The walk of lives: the example of the chapter is true. No condition. -/
import Derived.Test.YtkhbchgocilclaaTell

namespace Go.Proofs.Ytkhbchgocilclaa
open Go.RowKit
set_option linter.unusedVariables false

def exA : Nat → Nat := fun i => if i = 0 then 32 else if i = 1 then 1 else if i = 2 then 13 else if i = 3 then 184 else if i = 15 then 1 else 0
def exL : Nat → Nat := fun i => if i = 0 then 254 else if i = 1 then 128 else if i = 15 then 1 else 0
theorem exA_cells : #[Value.int .u8 32, .int .u8 1, .int .u8 13, .int .u8 184, .int .u8 0, .int .u8 0, .int .u8 0, .int .u8 0, .int .u8 0, .int .u8 0, .int .u8 0, .int .u8 0, .int .u8 0, .int .u8 0, .int .u8 0, .int .u8 1] = adrCells exA := by kernel_rfl
theorem exL_cells : #[Value.int .u8 254, .int .u8 128, .int .u8 0, .int .u8 0, .int .u8 0, .int .u8 0, .int .u8 0, .int .u8 0, .int .u8 0, .int .u8 0, .int .u8 0, .int .u8 0, .int .u8 0, .int .u8 0, .int .u8 0, .int .u8 1] = adrCells exL := by kernel_rfl
theorem exA_lt : ∀ i, i < 16 → exA i < 256 := by decide
theorem exL_lt : ∀ i, i < 16 → exL i < 256 := by decide
def exI : Info := Info.mk exA 64 true false 100 0
def exD : PD := learnD exI 0 (.map [])
theorem exD_ok : learnOk exI (.map []) = true := by kernel_rfl
theorem exD_has : hasB exA exD = true := by kernel_rfl
theorem exD_still : tickD 99999 exD = exD := by kernel_rfl
theorem exD_gone : tickD 100000 exD = .map [] := by kernel_rfl
theorem exD_one : Maps.size exD - Maps.size (tickD 100000 exD) = 1 := by kernel_rfl
theorem exD_none : hasB exA (.map []) = false := by kernel_rfl
theorem exD_link : hasB exL (.map []) = true := by kernel_rfl
theorem exI_ok : exI.Ok := ⟨exA_lt, by decide, by decide⟩
theorem exD_lok : LOk exD := lok_empty.learn exI_ok

theorem Learnt.below {b mb B : Nat} {D : PD} {w w1 w2 : World} (h : Learnt b mb D w1 w2) (hb : Below B w w1) (hB : B ≤ w1.heap.size) (hm : B ≤ mb) : Below B w w2 :=
  hb.grown h.grown hB (fun k hk => by injection hk with e; rw [← e]; exact hm)
/-- a row that is not the map's stands behind Learn and Tick -/
theorem Learnt.row {b mb ab : Nat} {D : PD} {w1 w2 : World} {cs : Array Value} {t : TypeId} {z : Nat × Nat} (h : Learnt b mb D w1 w2) (hm : ∃ D0, MapIs w1 mb D0) (ha : w1.heap[ab]? = some (.cells cs t z)) : w2.heap[ab]? = some (.cells cs t z) := by
  refine (h.grown.block _ (lt_of_blk ha) (fun e => ?_)).trans ha
  obtain ⟨D0, es, clock, hh, _⟩ := hm
  injection e with e
  rw [e, hh] at ha; injection ha with x; cases x

set_option maxRecDepth 100000 in
set_option maxHeartbeats 400000 in
theorem lives_any (w : World) :
    Calls Try.prog 6 #[] w fun e w' => e = .returned (.bool true) ∧ Below w.heap.size w w' := by
  go_enter Try.func6, Try.ntmps6
  go_wp2_with fail
  refine (new_any w).mono ?_
  rintro e w1 ⟨b, mb, rfl, hb, hle, hne, hm⟩
  have hblk := hb.get
  have HB := Lib.hid hb; have HM := Lib.hid hm; have HK := Lib.hid hblk; clear hb hm hblk
  go_wp2_with fail
  rw [exA_cells]
  have BM : Below w1.heap.size w1 (w1.alloc (.cells (adrCells exA) 23)) := (Below.refl _ _).alloc (Nat.le_refl _) _
  have ha := heap_alloc_new w1 (.cells (adrCells exA) 23)
  generalize w1.alloc (.cells (adrCells exA) 23) = w2 at *
  have hb2 := (BM.block b (lt_of_blk HK.out)).trans HK.out
  have hm2 := HM.out.below BM HM.out.lt
  have B2 := HB.out.below.trans (BM.mono HB.out.below.size)
  have hlt : w.heap.size ≤ w1.heap.size := HB.out.below.size
  generalize w1.heap.size = ab at *
  have HA := Lib.hid ha; have HB2 := Lib.hid hb2; have HM2 := Lib.hid hm2; have BB2 := Lib.hid B2
  clear HB HM HK BM ha hb2 hm2 B2
  refine (info_any exA 64 100 w2 (by decide)).mono ?_
  rintro e w3 ⟨rfl, b3⟩
  have ha3 := (b3.block _ (lt_of_blk HA.out)).trans HA.out
  have hb3 := (b3.block _ (lt_of_blk HB2.out)).trans HB2.out
  have hm3 := HM2.out.below b3 HM2.out.lt
  have B3 := BB2.out.trans (b3.mono BB2.out.size)
  have HA := Lib.hid ha3; have HB3 := Lib.hid hb3; have HM3 := Lib.hid hm3; have BB3 := Lib.hid B3
  clear HB2 HM2 BB2 b3 ha3 hb3 hm3 B3
  go_wp2_with fail
  refine (learn_any exI b mb 0 (.map []) w3 exI_ok (by decide) HB3.out HM3.out (by decide)).mono ?_
  rw [exD_ok]
  rintro e w4 ⟨rfl, L4⟩
  have L4 : Learnt b mb exD w3 w4 := L4
  have ha4 := L4.row ⟨_, HM3.out⟩ HA.out
  have B4 := L4.below BB3.out BB3.out.size hle
  have HA4 := Lib.hid ha4; have HB4 := Lib.hid L4.hb; have HM4 := Lib.hid L4.map; have BB4 := Lib.hid B4
  have HR := Lib.hid (range_adr ha4)
  clear HA HB3 HM3 BB3 ha4 B4 L4
  go_wp2_with (refine wpList_load_mid rfl 23 _ rfl ab 0 rfl (adrL exA) _ HR.out Try.underlying23 rfl (info23 _) ?_)
  refine (has_any exA b mb exD w4 exA_lt HB4.out HM4.out exD_lok).mono ?_
  rw [exD_has]
  rintro e w5 ⟨rfl, b5⟩
  have ha5 := (b5.block _ (lt_of_blk HA4.out)).trans HA4.out
  have hb5 := (b5.block _ (lt_of_blk HB4.out)).trans HB4.out
  have hm5 := HM4.out.below b5 HM4.out.lt
  have B5 := BB4.out.trans (b5.mono BB4.out.size)
  have HA5 := Lib.hid ha5; have HB5 := Lib.hid hb5; have HM5 := Lib.hid hm5; have BB5 := Lib.hid B5
  clear HA4 HB4 HM4 BB4 HR b5 ha5 hb5 hm5 B5
  go_wp2_with fail
  refine (tick_any b mb 99999 exD w5 (by decide) HB5.out HM5.out exD_lok).mono ?_
  rw [exD_still]
  rintro e w6 ⟨rfl, L6⟩
  have ha6 := L6.row ⟨_, HM5.out⟩ HA5.out
  have B6 := L6.below BB5.out BB5.out.size hle
  have HA6 := Lib.hid ha6; have HB6 := Lib.hid L6.hb; have HM6 := Lib.hid L6.map; have BB6 := Lib.hid B6
  have HR := Lib.hid (range_adr ha6)
  clear HA5 HB5 HM5 BB5 ha6 B6 L6
  go_wp2_with (refine wpList_load_mid rfl 23 _ rfl ab 0 rfl (adrL exA) _ HR.out Try.underlying23 rfl (info23 _) ?_)
  refine (has_any exA b mb exD w6 exA_lt HB6.out HM6.out exD_lok).mono ?_
  rw [exD_has]
  rintro e w7 ⟨rfl, b7⟩
  have ha7 := (b7.block _ (lt_of_blk HA6.out)).trans HA6.out
  have hb7 := (b7.block _ (lt_of_blk HB6.out)).trans HB6.out
  have hm7 := HM6.out.below b7 HM6.out.lt
  have B7 := BB6.out.trans (b7.mono BB6.out.size)
  have HA7 := Lib.hid ha7; have HB7 := Lib.hid hb7; have HM7 := Lib.hid hm7; have BB7 := Lib.hid B7
  clear HA6 HB6 HM6 BB6 HR b7 ha7 hb7 hm7 B7
  go_wp2_with fail
  refine (tick_any b mb 100000 exD w7 (by decide) HB7.out HM7.out exD_lok).mono ?_
  rw [exD_one, exD_gone]
  rintro e w8 ⟨rfl, L8⟩
  have ha8 := L8.row ⟨_, HM7.out⟩ HA7.out
  have B8 := L8.below BB7.out BB7.out.size hle
  have HA8 := Lib.hid ha8; have HB8 := Lib.hid L8.hb; have HM8 := Lib.hid L8.map; have BB8 := Lib.hid B8
  have HR := Lib.hid (range_adr ha8)
  clear HA7 HB7 HM7 BB7 ha8 B8 L8
  go_wp2_with (refine wpList_load_mid_g rfl 23 _ rfl ab 0 rfl (adrL exA) _ HR.out Try.underlying23 rfl (info23 _) ?_)
  refine (has_any exA b mb (.map []) w8 exA_lt HB8.out HM8.out lok_empty).mono ?_
  rw [exD_none]
  rintro e w9 ⟨rfl, b9⟩
  have hb9 := (b9.block _ (lt_of_blk HB8.out)).trans HB8.out
  have hm9 := HM8.out.below b9 HM8.out.lt
  have B9 := BB8.out.trans (b9.mono BB8.out.size)
  have HB9 := Lib.hid hb9; have HM9 := Lib.hid hm9; have BB9 := Lib.hid B9
  clear HA8 HB8 HM8 BB8 HR b9 hb9 hm9 B9
  go_wp2_with fail
  rw [exL_cells]
  refine (has_any exL b mb (.map []) w9 exL_lt HB9.out HM9.out lok_empty).mono ?_
  rw [exD_link]
  rintro e w10 ⟨rfl, b10⟩
  have B10 := BB9.out.trans (b10.mono BB9.out.size)
  have BB := Lib.hid B10
  clear HB9 HM9 BB9 b10 B10
  go_wp2_with fail
  go_ret
  exact ⟨rfl, BB.out⟩
end Go.Proofs.Ytkhbchgocilclaa
