/- The chapter's answers. -/
import Derived.Test.YtepoaapadalnoaaDoorGetF
namespace Go.Proofs.YtepoaapadalnoaaDoor
open Go.RowKit
set_option linter.unusedVariables false
set_option linter.unusedSimpArgs false
theorem put8_lit (cs : Array Value) (f : Nat → Nat) (t : ByteArray) (w : World) (L : Lay07 w) (hf : ∀ i, i < 16 → f i < 256) (hc : cs = adrCells f) (ht : ⟨(putL f).toArray⟩ = t) :
    Calls Tryd.prog 8 #[.agg cs] w fun e w' => e = .returned (.string t) ∧ Below w.heap.size w w' := by
  subst hc; subst ht; exact put8 f w L hf
theorem none16_lit (s : ByteArray) (w : World) (L : Lay07 w) (hs : s.size < 1000000000) (h : (getL s.data.toList).isNone = true) :
    Calls Tryd.prog 16 #[.string s] w fun e w' => e = .returned (.bool true) ∧ Below w.heap.size w w' := by
  have := none16 s w L hs; rw [h] at this; exact this
theorem is13_lit (s : ByteArray) (cs : Array Value) (f : Nat → Nat) (w : World) (L : Lay07 w) (hs : s.size < 1000000000) (hf : ∀ i, i < 16 → f i < 256) (hc : cs = adrCells f) (h : isL s.data.toList f = true) :
    Calls Tryd.prog 13 #[.string s, .agg cs] w fun e w' => e = .returned (.bool true) ∧ Below w.heap.size w w' := by
  subst hc
  have := is13 s f w L hs hf; rw [h] at this; exact this
structure Lv (w wr : World) : Prop where
  lay : Lay07 wr
  below : Below w.heap.size w wr
theorem Lv.step {w wr w2 : World} (I : Lv w wr) (hb : Below wr.heap.size wr w2) : Lv w w2 := ⟨I.lay.step hb, I.below.trans (hb.mono I.below.size)⟩
/-- an address out of its bytes -/
def ofL (l : List Nat) (i : Nat) : Nat := l.getD i 0
theorem ofL_lt {l : List Nat} (h : l.all (· < 256) = true) : ∀ i, i < 16 → ofL l i < 256 := fun i _ => by
  unfold ofL
  rw [List.getD_eq_getElem?_getD]
  cases he : l[i]? with
  | none => decide
  | some z => exact by simpa using List.all_eq_true.1 h z (List.mem_of_getElem? he)
set_option maxRecDepth 100000 in
set_option maxHeartbeats 1000000 in
theorem lives10 (w : World) (L : Lay07 w) : Calls Tryd.prog 10 #[] w fun e w' => e = .returned (.bool true) ∧ Below w.heap.size w w' := by
  have I0 := Lib.hid (show Lv w w from ⟨L, Below.refl _ _⟩)
  clear L
  go_enter Tryd.func10, Tryd.ntmps10
  go_wp2_with fail
  refine (put8_lit _ (ofL [0,0,0,0,0,0,0,0,0,0,0,0,0,0,0,0]) ⟨#[58, 58]⟩ _ I0.out.lay (ofL_lt (by decide)) (by kernel_rfl) (by decide +kernel)).mono ?_
  rintro e w1 ⟨rfl, b⟩
  have I1 := Lib.hid (I0.out.step b)
  clear b I0
  go_wp2_with fail
  refine (put8_lit _ (ofL [0,0,0,0,0,0,0,0,0,0,0,0,0,0,0,1]) ⟨#[58, 58, 49]⟩ _ I1.out.lay (ofL_lt (by decide)) (by kernel_rfl) (by decide +kernel)).mono ?_
  rintro e w2 ⟨rfl, b⟩
  have I2 := Lib.hid (I1.out.step b)
  clear b I1
  go_wp2_with fail
  refine (put8_lit _ (ofL [32,1,13,184,0,0,0,0,0,1,0,0,0,0,0,1]) ⟨#[50, 48, 48, 49, 58, 100, 98, 56, 58, 58, 49, 58, 48, 58, 48, 58, 49]⟩ _ I2.out.lay (ofL_lt (by decide)) (by kernel_rfl) (by decide +kernel)).mono ?_
  rintro e w3 ⟨rfl, b⟩
  have I3 := Lib.hid (I2.out.step b)
  clear b I2
  go_wp2_with fail
  refine (put8_lit _ (ofL [0,0,0,0,0,0,0,1,0,0,0,0,0,0,0,0]) ⟨#[48, 58, 48, 58, 48, 58, 49, 58, 58]⟩ _ I3.out.lay (ofL_lt (by decide)) (by kernel_rfl) (by decide +kernel)).mono ?_
  rintro e w4 ⟨rfl, b⟩
  have I4 := Lib.hid (I3.out.step b)
  clear b I3
  go_wp2_with fail
  refine (put8_lit _ (ofL [0,1,0,0,0,2,0,3,0,4,0,5,0,6,0,7]) ⟨#[49, 58, 48, 58, 50, 58, 51, 58, 52, 58, 53, 58, 54, 58, 55]⟩ _ I4.out.lay (ofL_lt (by decide)) (by kernel_rfl) (by decide +kernel)).mono ?_
  rintro e w5 ⟨rfl, b⟩
  have I5 := Lib.hid (I4.out.step b)
  clear b I4
  go_wp2_with fail
  refine (none16_lit ⟨#[49, 58, 58, 50, 58, 58, 51]⟩ _ I5.out.lay (by decide) (by decide +kernel)).mono ?_
  rintro e w6 ⟨rfl, b⟩
  have I6 := Lib.hid (I5.out.step b)
  clear b I5
  go_wp2_with fail
  refine (none16_lit ⟨#[49, 50, 51, 52, 53, 58, 58]⟩ _ I6.out.lay (by decide) (by decide +kernel)).mono ?_
  rintro e w7 ⟨rfl, b⟩
  have I7 := Lib.hid (I6.out.step b)
  clear b I6
  go_wp2_with fail
  refine (is13_lit ⟨#[58, 58, 49, 46, 50, 46, 51, 46, 52]⟩ _ (ofL [0,0,0,0,0,0,0,0,0,0,0,0,1,2,3,4]) _ I7.out.lay (by decide) (ofL_lt (by decide)) (by kernel_rfl) (by decide +kernel)).mono ?_
  rintro e w8 ⟨rfl, b⟩
  have I8 := Lib.hid (I7.out.step b)
  clear b I7
  go_wp2_with fail
  refine (is13_lit ⟨#[49, 58, 50, 58, 51, 58, 52, 58, 53, 58, 54, 58, 55, 58, 58]⟩ _ (ofL [0,1,0,2,0,3,0,4,0,5,0,6,0,7,0,0]) _ I8.out.lay (by decide) (ofL_lt (by decide)) (by kernel_rfl) (by decide +kernel)).mono ?_
  rintro e w9 ⟨rfl, b⟩
  have I9 := Lib.hid (I8.out.step b)
  clear b I8
  go_wp2_with fail
  refine (none16_lit ⟨#[49, 58, 50, 58, 51, 58, 52, 58, 53, 58, 54, 58, 55, 58, 56, 58, 58]⟩ _ I9.out.lay (by decide) (by decide +kernel)).mono ?_
  rintro e w10 ⟨rfl, b⟩
  have I10 := Lib.hid (I9.out.step b)
  clear b I9
  go_wp2_with fail
  go_ret
  exact ⟨rfl, I10.out.below⟩
end Go.Proofs.YtepoaapadalnoaaDoor
