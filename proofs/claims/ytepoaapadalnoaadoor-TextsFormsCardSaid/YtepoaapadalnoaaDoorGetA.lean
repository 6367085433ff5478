/- The digits of a base in a text. -/
import Derived.Test.YtepoaapadalnoaaDoorWords
import Derived.WalkKit
import Derived.WalkSpells
import Derived.WalkLawsBesides
import Derived.Deep.QuietTactic
import Derived.BigQuiet
import Derived.RegionTactic
import Derived.Deep.RegionWith
import Derived.Lib.Hide
import Derived.Test.YtepoaapadalnoaaDoorGetP
import Derived.Lib.OthersKept
import Derived.Laws.Bits64
namespace Go.Proofs.YtepoaapadalnoaaDoor
open Go.RowKit
set_option linter.unusedVariables false
set_option linter.unusedSimpArgs false
def numV : Option Nat → Value
  | some n => .tuple #[.int .i64 n, .bool true]
  | none => .tuple #[.int .i64 0, .bool false]
structure DInv (s : ByteArray) (base B : Nat) (w wr : World) (pos n : Nat) : Prop where
  it : wr.heap[B]? = some (.stringIter s pos)
  below : Below B w wr
  rest : numG base n (s.data.toList.drop pos) = numG base 0 s.data.toList
  lt : n < 16 ^ pos
  le : pos ≤ s.size
theorem iterPos_of {w : World} {k : Nat} {s : ByteArray} {p : Nat} (h : w.heap[k]? = some (.stringIter s p)) : w.iterPos k = p := by simp [World.iterPos, h]
theorem i32_small {z : Int} (h0 : 0 ≤ z) (h1 : z < 2147483648) : IntKind.i32.wrap z = z := by
  rw [IntKind.wrap_i32]; omega
theorem or_i32 {x : Nat} (h : x < 2147483648) : bits .or .i32 (x : Int) 32 = ((x ||| 32 : Nat) : Int) :=
  (bits_nat .i32 31 (by decide) (fun n h0 h1 => by simp [IntKind.wrap, IntKind.signed, IntKind.bits]; omega) x 32 (by omega) (by omega)).2
theorem numG_stop {base n : Nat} {l : List UInt8} {c : UInt8} {pos : Nat} (h : l[pos]? = some c) (hd : dig c = none ∨ ∃ d, dig c = some d ∧ base ≤ d) : numG base n (l.drop pos) = none := by
  obtain ⟨hp, rfl⟩ := List.getElem?_eq_some_iff.1 h
  rw [List.drop_eq_getElem_cons hp, numG]
  rcases hd with hd | ⟨d, hd, hb⟩ <;> rw [hd]
  exact if_neg (by omega)
theorem numG_next {base n d : Nat} {l : List UInt8} {c : UInt8} {pos : Nat} (h : l[pos]? = some c) (hd : dig c = some d) (hb : d < base) : numG base n (l.drop pos) = numG base (n * base + d) (l.drop (pos + 1)) := by
  obtain ⟨hp, rfl⟩ := List.getElem?_eq_some_iff.1 h
  rw [List.drop_eq_getElem_cons hp, numG, hd]
  exact if_pos hb
/-- what a rune at a place says of the byte there -/
theorem rune_dig (s : ByteArray) (pos : Nat) (h : pos < s.size) : ∃ (c : UInt8) (r k : Nat), Utf8.decode s pos = (r, k) ∧ s.data.toList[pos]? = some c ∧ r < 2147483648 ∧ dig c = digR r ∧ 1 ≤ k ∧ (∀ d, digR r = some d → k = 1) := by
  refine ⟨s[pos], (Utf8.decode s pos).1, (Utf8.decode s pos).2, rfl, ?_, ?_, ?_⟩
  · simp [h]; rfl
  · have := decode_le s pos; omega
  · by_cases ha : (s[pos]'h).toNat < 128
    · rw [decode_ascii s pos h ha]
      exact ⟨dig_small _, Nat.le_refl _, fun _ _ => rfl⟩
    · obtain ⟨h1, h2⟩ := decode_high s pos h (by omega)
      rw [dig_big (by omega), digR_big h1]
      exact ⟨rfl, h2, fun d hd => by cases hd⟩
set_option maxRecDepth 100000 in
set_option maxHeartbeats 1000000 in
theorem digits32 (s : ByteArray) (base most : Nat) (hb : 1 ≤ base ∧ base ≤ 16) (hm : most ≤ 4) (w : World) :
    Calls Tryd.prog 32 #[.string s, .int .i32 base, .int .i64 most] w fun e w' => e = .returned (numV (num base most s.data.toList)) ∧ Below w.heap.size w w' := by
  by_cases h1 : s.size = 0
  · have e1 : s = ⟨#[]⟩ := by
      have : s.data = #[] := Array.eq_empty_of_size_eq_zero h1
      cases s; simp_all
    subst e1
    go_enter Tryd.func32, Tryd.ntmps32
    go_wp2_with fail
    go_ret2
    exact ⟨rfl, Below.refl _ _⟩
  · have e0 : s.data.toList ≠ [] := fun h => h1 (by rw [← ByteArray.size_data, ← Array.length_toList, h]; rfl)
    have e1 : s.toList.isEmpty = false := by
      rw [Bool.eq_false_iff]; intro h
      rw [List.isEmpty_iff, ByteArray.toList_eq] at h
      exact e0 h
    by_cases h2 : most < s.size
    · go_enter Tryd.func32, Tryd.ntmps32
      go_wp2_with fail
      go_ret2
      refine ⟨?_, Below.refl _ _⟩
      rw [num, if_pos (.inr (by simpa using h2))]
      rfl
    · have h3 : num base most s.data.toList = numG base 0 s.data.toList := by
        rw [num, if_neg (by rintro (h | h); exact e0 h; simp at h; omega)]
      have I0 : DInv s base w.heap.size w (w.iter s 0) 0 0 := ⟨World.iter_heap w s 0, (Below.refl _ _).alloc (Nat.le_refl _) _, by simp, by simp, by omega⟩
      have I := Lib.hid I0; clear I0
      go_enter Tryd.func32, Tryd.ntmps32
      go_wp2_with fail
      go_loopw [6] (fun v wr => ∃ pos n : Nat, v = .int .i64 n ∧ DInv s base w.heap.size w wr pos n) (fun _ wr => s.size - wr.iterPos w.heap.size)
      case atStart => exact ⟨0, 0, rfl, I.out⟩
      case round =>
        clear I
        obtain ⟨pos, n, rfl, I⟩ := hrel
        have hq := iterPos_of I.it
        have hle := I.le
        by_cases hp : pos < s.size
        · obtain ⟨c, r, k, ed, hc, hr, hdig, hk, hk1⟩ := rune_dig s pos hp
          have hnx : ∀ ty, (Instr.next (.pointer (some ⟨w.heap.size, 0, none⟩)) true ty).run Tryd.prog wr = .ok (.tuple #[.bool true, .int .i64 pos, .int .i32 r]) (wr.iterAt w.heap.size s (pos + k)) := fun ty => by
            have := Lib.run_next_any_at (P := Tryd.prog) wr w.heap.size s pos ty I.it hp
            rw [ed] at this; exact this
          have ho := or_i32 hr
          have hit := Lib.iterAt_heap wr w.heap.size s pos (pos + k) I.it
          have hbw := Lib.below_iterAt I.below (k := w.heap.size) (Nat.le_refl _) s (pos + k)
          by_cases hA : 48 ≤ r ∧ r ≤ 57
          · have hd : digR r = some (r - 48) := if_pos hA
            obtain ⟨d, hd2⟩ : ∃ d, d = r - 48 := ⟨_, rfl⟩
            rw [← hd2] at hd
            obtain rfl := hk1 _ hd
            by_cases hbd : d < base
            · have hz := numG_next (base := base) (n := n) hc (hdig.trans hd) hbd
              rw [I.rest] at hz
              have hnl := I.lt
              have hp4 : (16 : Nat) ^ pos ≤ 16 ^ 3 := Nat.pow_le_pow_right (by decide) (by omega)
              have hd16 := digR_lt hd
              have hmul : n * base ≤ 4096 * 16 := Nat.mul_le_mul (by omega) hb.2
              have hgt : n * base + d < 16 ^ (pos + 1) := by
                have : n * base ≤ (16 ^ pos - 1) * 16 := Nat.mul_le_mul (by omega) hb.2
                rw [Nat.pow_succ]; omega
              have I2 : DInv s base w.heap.size w (wr.iterAt w.heap.size s (pos + 1)) (pos + 1) (n * base + d) := ⟨hit, hbw, hz.symm, hgt, by omega⟩
              have I3 := Lib.hid I2
              have hz3 := Lib.hid hz
              have em : ((n : Int) * (base : Int)) = ((n * base : Nat) : Int) := by simp
              have ew : IntKind.i32.wrap ((r : Int) - 48) = (d : Int) := by rw [i32_small (by omega) (by omega)]; omega
              obtain ⟨m, hm2⟩ : ∃ m, m = n * base := ⟨_, rfl⟩
              rw [← hm2] at hmul em
              have I4 : Hid (DInv s base w.heap.size w (wr.iterAt w.heap.size s (pos + 1)) (pos + 1) (m + d)) := by rw [hm2]; exact I3
              clear I2 I3 hz hz3 hgt hnl hp4 hm2
              go_wp2_with fail
              go_roundw
              case rel => exact ⟨pos + 1, m + d, by congr 1; omega, I4.out⟩
              case measure => show _ - World.iterPos (wr.iterAt w.heap.size s (pos + 1)) w.heap.size < _; rw [iterPos_of I4.out.it, hq]; omega
            · have hz := numG_stop (base := base) (n := n) hc (.inr ⟨d, hdig.trans hd, by omega⟩)
              rw [I.rest] at hz
              have ew : IntKind.i32.wrap ((r : Int) - 48) = (d : Int) := by rw [i32_small (by omega) (by omega)]; omega
              go_wp2_with fail
              go_ret2
              refine ⟨?_, hbw⟩
              first | rfl | (rw [h3, hz]; rfl) | (rw [hz]; rfl)
          · by_cases hB : 97 ≤ (r ||| 32) ∧ (r ||| 32) ≤ 102
            · have hd : digR r = some ((r ||| 32) - 87) := by rw [digR, if_neg hA, if_pos hB]
              have hA2 : r < 48 ∨ 57 < r := by omega
              have hB1 := hB.1
              have hB2 := hB.2
              clear hA
              rcases hA2 with hA | hA
              all_goals (
                obtain ⟨d, hd2⟩ : ∃ d, d = (r ||| 32) - 87 := ⟨_, rfl⟩
                rw [← hd2] at hd
                obtain rfl := hk1 _ hd
                by_cases hbd : d < base
                · have hz := numG_next (base := base) (n := n) hc (hdig.trans hd) hbd
                  rw [I.rest] at hz
                  have hnl := I.lt
                  have hp4 : (16 : Nat) ^ pos ≤ 16 ^ 3 := Nat.pow_le_pow_right (by decide) (by omega)
                  have hd16 := digR_lt hd
                  have hmul : n * base ≤ 4096 * 16 := Nat.mul_le_mul (by omega) hb.2
                  have hgt : n * base + d < 16 ^ (pos + 1) := by
                    have : n * base ≤ (16 ^ pos - 1) * 16 := Nat.mul_le_mul (by omega) hb.2
                    rw [Nat.pow_succ]; omega
                  have I2 : DInv s base w.heap.size w (wr.iterAt w.heap.size s (pos + 1)) (pos + 1) (n * base + d) := ⟨hit, hbw, hz.symm, hgt, by omega⟩
                  have I3 := Lib.hid I2
                  have hz3 := Lib.hid hz
                  have em : ((n : Int) * (base : Int)) = ((n * base : Nat) : Int) := by simp
                  have ew : IntKind.i32.wrap (IntKind.i32.wrap (((r ||| 32 : Nat) : Int) - 97) + 10) = (d : Int) := by rw [i32_small (z := _ - 97) (by omega) (by omega), i32_small (by omega) (by omega)]; omega
                  obtain ⟨m, hm2⟩ : ∃ m, m = n * base := ⟨_, rfl⟩
                  rw [← hm2] at hmul em
                  have I4 : Hid (DInv s base w.heap.size w (wr.iterAt w.heap.size s (pos + 1)) (pos + 1) (m + d)) := by rw [hm2]; exact I3
                  clear I2 I3 hz hz3 hgt hnl hp4 hm2
                  go_wp2_with fail
                  go_roundw
                  case rel => exact ⟨pos + 1, m + d, by congr 1; omega, I4.out⟩
                  case measure => show _ - World.iterPos (wr.iterAt w.heap.size s (pos + 1)) w.heap.size < _; rw [iterPos_of I4.out.it, hq]; omega
                · have hz := numG_stop (base := base) (n := n) hc (.inr ⟨d, hdig.trans hd, by omega⟩)
                  rw [I.rest] at hz
                  have ew : IntKind.i32.wrap (IntKind.i32.wrap (((r ||| 32 : Nat) : Int) - 97) + 10) = (d : Int) := by rw [i32_small (z := _ - 97) (by omega) (by omega), i32_small (by omega) (by omega)]; omega
                  go_wp2_with fail
                  go_ret2
                  refine ⟨?_, hbw⟩
                  first | rfl | (rw [h3, hz]; rfl) | (rw [hz]; rfl))
            · have hd : digR r = none := by rw [digR, if_neg hA, if_neg hB]
              have hz := numG_stop (base := base) (n := n) hc (.inl (hdig.trans hd))
              rw [I.rest] at hz
              have hA2 : r < 48 ∨ 57 < r := by omega
              have hB2 : (r ||| 32) < 97 ∨ 102 < (r ||| 32) := by omega
              clear hA hB
              rcases hA2 with hA | hA <;> rcases hB2 with hB | hB
              all_goals (
                go_wp2_with fail
                go_ret2
                refine ⟨?_, hbw⟩
                first | rfl | (rw [h3, hz]; rfl) | (rw [hz]; rfl))
        · obtain rfl : pos = s.size := by omega
          have hnx : ∀ ty, (Instr.next (.pointer (some ⟨w.heap.size, 0, none⟩)) true ty).run Tryd.prog wr = _ := fun ty => Lib.run_next_end_at wr w.heap.size s s.size ty I.it hp
          have hz := I.rest
          rw [List.drop_eq_nil_of_le (by simp)] at hz
          have hB2 := I.below
          go_wp2_with fail
          go_ret2
          rw [h3, ← hz]
          exact ⟨rfl, hB2⟩
end Go.Proofs.YtepoaapadalnoaaDoor
