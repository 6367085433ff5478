/- What two addresses have in common: the walk of Common, and that so many bits are common just if the first so many agree. No condition but that each byte is one. -/
import Derived.Test.YtkhbchgocilclaaAddrs
namespace Go.Proofs.Ytkhbchgocilclaa
open Go.RowKit
set_option linter.unusedVariables false

/-- how many bits two addresses have in common, from byte k on -/
def commonFrom (a b : Nat → Nat) (k : Nat) : Nat → Nat
  | 0 => 128
  | f + 1 => if a k = b k then commonFrom a b (k + 1) f else 8 * k + (8 - Lib.bitLen (a k ^^^ b k))
def common (a b : Nat → Nat) : Nat := commonFrom a b 0 16

theorem bitLen_bd : ∀ z : Fin 256, z.val ≠ 0 → 1 ≤ Lib.bitLen z.val ∧ Lib.bitLen z.val ≤ 8 ∧ 2 ^ (Lib.bitLen z.val - 1) ≤ z.val ∧ z.val < 2 ^ (Lib.bitLen z.val) := by decide +kernel

theorem commonFrom_agree {a b : Nat → Nat} {n : Nat} (ha : ∀ i, i < 16 → a i < 256) (hb : ∀ i, i < 16 → b i < 256) (hn : n ≤ 128) :
    ∀ f k, k + f = 16 → (∀ i, i < k → a i = b i) → (n ≤ commonFrom a b k f ↔ agree a b n) := by
  intro f
  induction f with
  | zero =>
    intro k hk hs
    constructor
    · intro _; exact agree_all (fun i hi => hs i (by omega))
    · intro _; exact hn
  | succ f ih =>
    intro k hk hs
    unfold commonFrom
    by_cases he : a k = b k
    · rw [if_pos he]
      exact ih (k + 1) (by omega) (fun i hi => by
        by_cases h : i = k
        · subst h; exact he
        · exact hs i (by omega))
    · rw [if_neg he]
      have hz : a k ^^^ b k ≠ 0 := fun e => he (by
        have := (xor_lt_iff (a k) (b k) 0).mp (by rw [e]; simp)
        simpa using this)
      have hl : a k ^^^ b k < 256 := Nat.xor_lt_two_pow (n := 8) (ha k (by omega)) (hb k (by omega))
      obtain ⟨l1, l2, l3, l4⟩ := bitLen_bd ⟨_, hl⟩ hz
      simp only at l1 l2 l3 l4
      have := agree_at (n := n) (k := k) (l := Lib.bitLen (a k ^^^ b k) - 1) ha hb (by omega) hs l3 (by rw [Nat.sub_add_cancel l1]; exact l4) (by omega)
      rw [← this]
      omega
theorem common_agree {a b : Nat → Nat} {n : Nat} (ha : ∀ i, i < 16 → a i < 256) (hb : ∀ i, i < 16 → b i < 256) (hn : n ≤ 128) : n ≤ common a b ↔ agree a b n :=
  commonFrom_agree ha hb hn 16 0 rfl (fun i hi => by omega)
theorem common_le (a b : Nat → Nat) : common a b ≤ 128 := by
  have key : ∀ f k, k + f = 16 → commonFrom a b k f ≤ 128 := by
    intro f
    induction f with
    | zero => intro k _; exact Nat.le_refl _
    | succ f ih =>
      intro k hk
      unfold commonFrom
      split
      · exact ih (k + 1) (by omega)
      · omega
  exact key 16 0 rfl

set_option maxRecDepth 100000 in
set_option maxHeartbeats 400000 in
theorem common_any (a b : Nat → Nat) (w : World) (ha : ∀ i, i < 16 → a i < 256) (hb : ∀ i, i < 16 → b i < 256) :
    Calls Try.prog 37 #[.agg (adrCells a), .agg (adrCells b)] w fun e w' => e = .returned (.int .i64 (common a b)) ∧ Below w.heap.size w w' := by
  have h1 : ((w.alloc (.cells (adrCells a) 23)).alloc (.cells (adrCells b) 23)).heap[w.heap.size]? = some (.cells (adrCells a) 23 (0, 0)) := heap_alloc2_old _ _ _
  have h2 : ((w.alloc (.cells (adrCells a) 23)).alloc (.cells (adrCells b) 23)).heap[w.heap.size + 1]? = some (.cells (adrCells b) 23 (0, 0)) := heap_alloc2_new _ _ _
  have hB : Below w.heap.size w ((w.alloc (.cells (adrCells a) 23)).alloc (.cells (adrCells b) 23)) := ((Below.refl _ _).alloc (Nat.le_refl _) _).alloc (by simp) _
  have H1 := Lib.hid h1; have H2 := Lib.hid h2; have HB := Lib.hid hB; clear h1 h2 hB
  go_enter Try.func37, Try.ntmps37
  go_wp2_with fail
  generalize (w.alloc (.cells (adrCells a) 23)).alloc (.cells (adrCells b) 23) = w0 at *
  go_loopw [7] (fun i wr => ∃ k n : Nat, k ≤ 16 ∧ i = .int .i64 k ∧ wr = w0.drewN n ∧ common a b = commonFrom a b k (16 - k)) (fun i _ => 16 - (intOf i).toNat)
  case atStart => exact ⟨0, 0, by omega, rfl, rfl, rfl⟩
  case round =>
    obtain ⟨k, n, hk, rfl, rfl, hcom⟩ := hrel
    by_cases hlt : k < 16
    · have hc1 := cell_blk H1.out k
      have hc2 := cell_blk H2.out k
      rw [adrCells_get _ hlt] at hc1 hc2
      have hak := ha k hlt
      have hbk := hb k hlt
      have HC := Lib.hid hcom; clear hcom
      have hx := u8_xor_nat _ _ hak hbk
      have hxl : a k ^^^ b k < 256 := Nat.xor_lt_two_pow (n := 8) hak hbk
      by_cases hz : a k = b k
      · have t0 : (((a k ^^^ b k : Nat) : Int) != 0) = false := by rw [hz]; simp
        have HZ := Lib.hid hz; clear hz
        go_wp2_with fail
        go_quiet (fail)
        go_wp2_with fail
        go_roundw
        case rel => exact ⟨k + 1, _, by omega, by go_num, rfl, by rw [HC.out, show 16 - k = (16 - (k + 1)) + 1 from by omega, commonFrom, if_pos HZ.out]⟩
        case measure => simp [intOf]; omega
      · have hne : a k ^^^ b k ≠ 0 := fun e => hz (by
          have := (xor_lt_iff (a k) (b k) 0).mp (by rw [e]; simp)
          simpa using this)
        have t0 : (((a k ^^^ b k : Nat) : Int) != 0) = true := by simp; omega
        have HZ := Lib.hid hz; clear hz hne
        go_wp2_with fail
        go_quiet (fail)
        go_wp2_with (go_at_call 43; refine (Try.bits_LeadingZeros8 _ _ (by omega) (by omega)).mono ?_; rintro e w' ⟨rfl, rfl⟩)
        have hl := (bitLen_bd ⟨_, hxl⟩ (by simpa using t0)).2.1
        go_ret
        refine ⟨?_, ⟨HB.out.os, HB.out.tape, HB.out.output, HB.out.size, HB.out.block⟩⟩
        rw [HC.out, show 16 - k = (15 - k) + 1 from by omega, commonFrom, if_neg HZ.out]
        simp only at hl
        show Ending.returned (.int .i64 (wrap64 (8 * (k : Int) + (8 - (Lib.bitLen (a k ^^^ b k) : Nat))))) = _
        rw [IntWalk.wrap64_in _ (by omega)]
        congr 2
        omega
    · obtain rfl : k = 16 := by omega
      have HC := Lib.hid hcom; clear hcom
      go_wp2_with fail
      go_ret
      refine ⟨?_, ⟨HB.out.os, HB.out.tape, HB.out.output, HB.out.size, HB.out.block⟩⟩
      rw [HC.out]
      rfl
end Go.Proofs.Ytkhbchgocilclaa
