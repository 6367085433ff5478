/- Groups by the document: which are noughts, and their text. No condition but that each is one of 16 bits. -/
import Derived.Test.YtepoaapadalnoaaDoorPutF
namespace Go.Proofs.YtepoaapadalnoaaDoor
open Go.RowKit
set_option linter.unusedVariables false
set_option linter.unusedSimpArgs false
/-- numbers in a row of their own -/
def RowN (w : World) (b n : Nat) (g : Nat → Nat) : Prop := b < w.heap.size ∧ ∀ j, j < n → w.cell? ⟨b, j, none⟩ = some (.int .i64 (g j : Int)) ∧ g j < 65536
theorem RowN.step {w w' : World} {b n : Nat} {g : Nat → Nat} (h : RowN w b n g) (hb : Below w.heap.size w w') : RowN w' b n g :=
  ⟨Nat.lt_of_lt_of_le h.1 hb.size, fun j hj => ⟨(hb.cell (p := ⟨b, j, none⟩) h.1).trans (h.2 j hj).1, (h.2 j hj).2⟩⟩
theorem allZ_end (z : Nat → Bool) (t : Nat) : allZ z t t = true := by unfold allZ; rw [Nat.sub_self]; rfl
theorem allZ_step (z : Nat → Bool) {k t : Nat} (h : k < t) : allZ z k t = (z k && allZ z (k + 1) t) := by
  unfold allZ
  rw [show t - k = (t - (k + 1)) + 1 by omega, List.range'_succ, List.all_cons]
theorem joinG_self (g : Nat → Nat) (f : Nat) : joinG g f f = [] := by rw [joinG_eq, Nat.sub_self]; rfl
theorem joinG_one (g : Nat → Nat) (f : Nat) : joinG g f (f + 1) = hexS (g f) := by
  rw [joinG_eq, show f + 1 - f = 1 by omega]; simp [Lib.join_one]
theorem join_snoc (xs : List (List UInt8)) (y sep : List UInt8) (h : xs ≠ []) : Lib.join (xs ++ [y]) sep = Lib.join xs sep ++ sep ++ y := by
  cases xs with
  | nil => exact absurd rfl h
  | cons x r => rw [List.cons_append, Lib.join_cons, Lib.join_cons, Lib.joinTail, List.map_append, List.flatten_append]; simp [Lib.joinTail]
theorem joinG_succ (g : Nat → Nat) {f k : Nat} (h : f < k) : joinG g f (k + 1) = joinG g f k ++ [58] ++ hexS (g k) := by
  rw [joinG_eq, joinG_eq, show k + 1 - f = (k - f) + 1 by omega, List.range_succ, List.map_append, List.map_cons, List.map_nil, join_snoc _ _ _ (by
    intro e
    have := congrArg List.length e
    simp at this; omega), show f + (k - f) = k by omega]
set_option maxRecDepth 100000 in
set_option maxHeartbeats 1000000 in
theorem noughts20 (b n cap f t : Nat) (g : Nat → Nat) (w : World) (h : RowN w b n g) (hft : f ≤ t) (ht : t ≤ n) (hn : n ≤ 8) :
    Calls Tryd.prog 20 #[.slice (some ⟨b, 0, none⟩) n cap, .int .i64 (f : Int), .int .i64 (t : Int)] w fun e w' => e = .returned (.bool (allZ (fun i => g i == 0) f t)) ∧ Below w.heap.size w w' := by
  have HR := Lib.hid h
  clear h
  go_enter Tryd.func20, Tryd.ntmps20
  go_wp2_with fail
  go_loopw [7] (fun i wr => ∃ k : Nat, f ≤ k ∧ k ≤ t ∧ i = .int .i64 k ∧ RowN wr b n g ∧ Below w.heap.size w wr ∧ allZ (fun i => g i == 0) f t = allZ (fun i => g i == 0) k t) (fun i _ => t - (intOf i).toNat)
  case atStart => exact ⟨f, Nat.le_refl _, hft, rfl, HR.out, Below.refl _ _, rfl⟩
  case round =>
    clear HR
    obtain ⟨k, hk1, hk2, rfl, R, B, E⟩ := hrel
    by_cases hlt : k < t
    · have c1 := (R.2 k (by omega)).1
      have HR := Lib.hid R
      have HB := Lib.hid B
      replace E := E.trans (allZ_step _ hlt)
      clear R B
      have o1 : ¬ ((n : Int) ≤ k) := by omega
      have o2 : (k : Int) < t := by omega
      by_cases hz : g k = 0
      · have HE := Lib.hid (E.trans (by simp [hz]) : _ = allZ (fun i => g i == 0) (k + 1) t)
        clear E
        go_wp2_with fail
        go_roundw
        case rel => exact ⟨k + 1, by omega, by omega, by go_num, HR.out, HB.out, HE.out⟩
        case measure => simp [intOf]; omega
      · have HE := Lib.hid (E.trans (by simp [hz]) : _ = false)
        clear E
        go_wp2_with fail
        go_ret
        exact ⟨by rw [HE.out]; rfl, HB.out⟩
    · have HE := Lib.hid (E.trans (by rw [show k = t by omega, allZ_end]) : _ = true)
      have HB := Lib.hid B
      clear R E B
      have o2 : ¬ ((k : Int) < t) := by omega
      go_wp2_with fail
      go_ret
      exact ⟨by rw [HE.out]; rfl, HB.out⟩
set_option maxRecDepth 100000 in
set_option maxHeartbeats 1000000 in
theorem joined21 (b n cap f t : Nat) (g : Nat → Nat) (w : World) (h : RowN w b n g) (hft : f ≤ t) (ht : t ≤ n) (hn : n ≤ 8) :
    Calls Tryd.prog 21 #[.slice (some ⟨b, 0, none⟩) n cap, .int .i64 (f : Int), .int .i64 (t : Int)] w fun e w' => e = .returned (.string ⟨(joinG g f t).toArray⟩) ∧ Below w.heap.size w w' := by
  have HR := Lib.hid h
  clear h
  go_enter Tryd.func21, Tryd.ntmps21
  go_wp2_with fail
  go_loopw [7, 8] (fun s i wr => ∃ k : Nat, f ≤ k ∧ k ≤ t ∧ i = .int .i64 k ∧ s = .string ⟨(joinG g f k).toArray⟩ ∧ RowN wr b n g ∧ Below w.heap.size w wr) (fun _ i _ => t - (intOf i).toNat)
  case atStart => exact ⟨f, Nat.le_refl _, hft, rfl, by rw [joinG_self], HR.out, Below.refl _ _⟩
  case round =>
    clear HR
    obtain ⟨k, hk1, hk2, rfl, rfl, R, B⟩ := hrel
    by_cases hlt : k < t
    · have c1 := (R.2 k (by omega)).1
      have hg := (R.2 k (by omega)).2
      have HR := Lib.hid R
      have HB := Lib.hid B
      clear R B
      have o1 : ¬ ((n : Int) ≤ k) := by omega
      have o2 : (k : Int) < t := by omega
      have l1 := joinG_len g f k
      by_cases hz : f < k
      · have HE := Lib.hid (joinG_succ g hz)
        have o3 : decide ((f : Int) < k) = true := by simp; omega
        go_wp2_with fail
        refine (group27 65536 (g k) _ hg hg).mono ?_
        rintro e w2 ⟨rfl, b2⟩
        have HR2 := Lib.hid (HR.out.step b2)
        have HB2 := Lib.hid (HB.out.trans (b2.mono HB.out.size))
        have l2 := hexS_le (g k)
        clear HR HB b2
        have q1 : ¬ (9223372036854775807 < (joinG g f k).length + 1 + (hexS (g k)).length) := by omega
        go_wp2_with fail
        refine ⟨⟨k + 1, by omega, by omega, by go_num, ?_, HR2.out, HB2.out⟩, by simp [intOf]; omega⟩
        rw [show (⟨#[58]⟩ : ByteArray) = ⟨[58].toArray⟩ from rfl, catB, catB, HE.out]
      · obtain rfl : k = f := by omega
        have HE := Lib.hid (joinG_one g k)
        have o3 : decide ((k : Int) < k) = false := by simp
        rw [joinG_self] at *
        go_wp2_with fail
        refine (group27 65536 (g k) _ hg hg).mono ?_
        rintro e w2 ⟨rfl, b2⟩
        have HR2 := Lib.hid (HR.out.step b2)
        have HB2 := Lib.hid (HB.out.trans (b2.mono HB.out.size))
        have l2 := hexS_le (g k)
        clear HR HB b2
        have q1 : ¬ (9223372036854775807 < (hexS (g k)).length) := by omega
        go_wp2_with fail
        refine ⟨⟨k + 1, by omega, by omega, by go_num, ?_, HR2.out, HB2.out⟩, by simp [intOf]; omega⟩
        rw [HE.out, show (⟨#[]⟩ : ByteArray) = ⟨[].toArray⟩ from rfl, catB]; rfl
    · obtain rfl : k = t := by omega
      have HB := Lib.hid B
      clear R B
      have o2 : ¬ ((k : Int) < k) := by omega
      go_wp2_with fail
      go_ret
      exact ⟨rfl, HB.out⟩
end Go.Proofs.YtepoaapadalnoaaDoor
