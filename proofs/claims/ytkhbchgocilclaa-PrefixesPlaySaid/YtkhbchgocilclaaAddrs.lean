/- The walks of the addresses' small functions: IsMulticast, IsLinkLocal, Masked. No condition but that each byte is one. -/
import Derived.Test.YtkhbchgocilclaaProg
import Derived.Test.YtkhbchgocilclaaBits
import Derived.Test.YtkhbchgocilclaaReads
import Derived.Test.YtkhbchgocilclaaShelf
import Derived.WalkKit
import Derived.WalkSpells
import Derived.WalkLawsBesides
import Derived.Deep.QuietTactic
import Derived.BigQuiet
import Derived.RegionTactic
import Derived.Deep.RegionWith
import Derived.Lib.Hide
namespace Go.Proofs.Ytkhbchgocilclaa
open Go.RowKit
set_option linter.unusedVariables false

theorem Turned.setRow {w : World} {b : Nat} {c : Array Value} {t : TypeId} {z : Nat × Nat} (h : w.heap[b]? = some (.cells c t z)) (cs : Array Value) : Turned b (.cells cs t z) w (w.setRow b cs) := by
  refine ⟨?_, rfl, rfl, rfl⟩
  have hb := lt_of_blk h
  apply Array.ext_getElem?
  intro k
  simp only [World.setRow, Array.getElem?_modify, Array.getElem?_setIfInBounds]
  by_cases hk : b = k
  · subst hk; rw [if_pos rfl, if_pos rfl, h]; simp [hb]
  · simp [hk]

def adrL (a : Nat → Nat) : List Value := (List.range 16).map fun i => .int .u8 (a i : Int)
def adrCells (a : Nat → Nat) : Array Value := (adrL a).toArray
theorem adrL_length (a : Nat → Nat) : (adrL a).length = 16 := by simp [adrL]
theorem adrL_one (a : Nat → Nat) : ∀ v ∈ adrL a, v.oneCell' = true := by
  intro v hv
  simp only [adrL, List.mem_map] at hv
  obtain ⟨i, _, rfl⟩ := hv
  rfl
theorem adrCells_get (a : Nat → Nat) {i : Nat} (h : i < 16) : (adrCells a)[i]? = some (.int .u8 (a i : Int)) := by
  simp [adrCells, adrL, h]
theorem adrCells_size (a : Nat → Nat) : (adrCells a).size = 16 := by simp [adrCells, adrL]

def linkB (a : Nat → Nat) : Bool := a 0 == 254 && a 1 / 64 == 2
def manyB (a : Nat → Nat) : Bool := a 0 == 255

theorem many_any (a : Nat → Nat) (w : World) : Calls Try.prog 10 #[.agg (adrCells a)] w fun e w' => e = .returned (.bool (manyB a)) ∧ Below w.heap.size w w' := by
  have h := heap_alloc_new w (.cells (adrCells a) 23)
  have c0 := cell_blk h 0
  rw [adrCells_get a (by omega)] at c0
  go_enter Try.func10, Try.ntmps10
  go_wp2_with fail
  go_ret
  have e : ((a 0 : Int) == 255) = manyB a := by unfold manyB; rw [Bool.eq_iff_iff]; simp; omega
  exact ⟨by rw [← e]; rfl, (Below.refl _ _).alloc (Nat.le_refl _) _⟩

theorem link_any (a : Nat → Nat) (w : World) (ha : ∀ i, i < 16 → a i < 256) : Calls Try.prog 9 #[.agg (adrCells a)] w fun e w' => e = .returned (.bool (linkB a)) ∧ Below w.heap.size w w' := by
  have h := heap_alloc_new w (.cells (adrCells a) 23)
  have c0 := cell_blk h 0
  have c1 := cell_blk h 1
  have b0 := ha 0 (by omega)
  have b1 := ha 1 (by omega)
  rw [adrCells_get a (by omega)] at c0 c1
  clear ha
  by_cases h0 : a 0 = 254
  · have t0 : ((a 0 : Int) == 254) = true := by simp [h0]
    have e : linkB a = ((a 1 : Int) / 64 == 2) := by unfold linkB; rw [Bool.eq_iff_iff]; simp [h0]; omega
    rw [e]
    clear e h0
    go_enter Try.func9, Try.ntmps9
    go_wp2_with fail
    go_ret
    exact ⟨rfl, (Below.refl _ _).alloc (Nat.le_refl _) _⟩
  · have t0 : ((a 0 : Int) == 254) = false := by simp; omega
    have e : linkB a = false := by unfold linkB; simp [h0]
    rw [e]
    clear e h0
    go_enter Try.func9, Try.ntmps9
    go_wp2_with fail
    go_ret
    exact ⟨rfl, (Below.refl _ _).alloc (Nat.le_refl _) _⟩

/-- an address of which the first k bytes are masked -/
def partly (a : Nat → Nat) (n k : Nat) : Nat → Nat := fun i => if i < k then top (a i) (own n i) else a i

theorem adrCells_set (a : Nat → Nat) (k x : Nat) (h : k < 16) : (adrCells a).setIfInBounds k (.int .u8 (x : Int)) = adrCells (fun i => if i = k then x else a i) := by
  apply Array.ext_getElem?
  intro i
  rw [Array.getElem?_setIfInBounds, adrCells_size]
  by_cases hi : i < 16
  · rw [adrCells_get _ hi, adrCells_get _ hi]
    by_cases hk : k = i
    · subst hk; simp [h]
    · simp [hk, show ¬ i = k from fun e => hk e.symm]
  · rw [if_neg (by omega), Array.getElem?_eq_none (by rw [adrCells_size]; omega), Array.getElem?_eq_none (by rw [adrCells_size]; omega)]
theorem adrCells_congr {a b : Nat → Nat} (h : ∀ i, i < 16 → a i = b i) : adrCells a = adrCells b := by
  apply Array.ext_getElem?
  intro i
  by_cases hi : i < 16
  · rw [adrCells_get _ hi, adrCells_get _ hi, h i hi]
  · rw [Array.getElem?_eq_none (by rw [adrCells_size]; omega), Array.getElem?_eq_none (by rw [adrCells_size]; omega)]
theorem adrCells_one (a : Nat → Nat) : (adrCells a).all (·.oneCell') = true := by
  rw [Array.all_eq_true_iff_forall_mem]
  intro v hv
  exact adrL_one a v (by simpa [adrCells] using hv)
def zeroCells : Array Value := adrCells fun _ => 0

theorem zeroCells_eq : zeroCells = #[.int .u8 0, .int .u8 0, .int .u8 0, .int .u8 0, .int .u8 0, .int .u8 0, .int .u8 0, .int .u8 0, .int .u8 0, .int .u8 0, .int .u8 0, .int .u8 0, .int .u8 0, .int .u8 0, .int .u8 0, .int .u8 0] := by kernel_rfl

structure MaskInv (B k n : Nat) (a : Nat → Nat) (w wr : World) : Prop where
  h1 : wr.heap[B]? = some (.cells (adrCells (partly a n k)) 23 (0, 0))
  h2 : wr.heap[B + 1]? = some (.cells zeroCells 23 (0, 0))
  below : Below B w wr

set_option maxRecDepth 100000 in
set_option maxHeartbeats 400000 in
theorem masked_any (a : Nat → Nat) (n : Nat) (w : World) (ha : ∀ i, i < 16 → a i < 256) (hn : n < 256) :
    Calls Try.prog 11 #[.agg (adrCells a), .int .u8 n] w fun e w' => e = .returned (.agg (adrCells (masked a n))) ∧ Below w.heap.size w w' := by
  have I0 : MaskInv w.heap.size 0 n a w ((w.alloc (.cells (adrCells a) 23)).alloc (.cells zeroCells 23)) := by
    refine ⟨?_, ?_, ((Below.refl _ _).alloc (Nat.le_refl _) _).alloc (by simp) _⟩
    · rw [heap_alloc2_old]; rfl
    · rw [heap_alloc2_new]
  rw [zeroCells_eq] at I0
  have I := Lib.hid I0
  clear I0
  go_enter Try.func11, Try.ntmps11
  go_wp2_with fail
  go_loopw [7] (fun i wr => ∃ k : Nat, k ≤ 16 ∧ i = .int .i64 k ∧ MaskInv w.heap.size k n a w wr) (fun i _ => 16 - (intOf i).toNat)
  case atStart => exact ⟨0, by omega, rfl, I.out⟩
  case round =>
    clear I
    obtain ⟨k, hk, rfl, I⟩ := hrel
    by_cases hlt : k < 16
    · have hc := cell_blk I.h1 k
      rw [adrCells_get _ hlt, show partly a n k k = a k from by unfold partly; rw [if_neg (by omega)]] at hc
      have hf := frozen_blk I.h1 k
      have hak := ha k hlt
      have o1 : min (8 : Int) (max 0 ((n : Int) - 8 * k)) = (own n k : Nat) := by unfold own; omega
      have o2 := own_le n k
      go_wp2_with fail
      go_region
      have I9 : MaskInv w.heap.size (k + 1) n a w ((wr.setCell ⟨w.heap.size, k, none⟩ (.int .u8 (top (a k) (own n k) : Nat))).drew) := by
        have t := Turned.setCell I.h1 k (.int .u8 (top (a k) (own n k) : Nat))
        rw [adrCells_set _ _ _ hlt] at t
        have hB := lt_of_blk I.h1
        refine ⟨?_, t.keep I.h2 (by omega), I.below.trans (t.drew.below (Nat.le_refl _))⟩
        rw [show partly a n (k + 1) = (fun i => if i = k then top (a k) (own n k) else partly a n k i) from ?_]
        · exact t.get hB
        · funext i
          unfold partly
          by_cases h1 : i = k
          · subst h1; simp
          · by_cases h2 : i < k
            · rw [if_pos (by omega), if_neg h1, if_pos h2]
            · rw [if_neg (by omega), if_neg h1, if_neg h2]
      rw [topI hak o2]
      clear I hc hf o1
      go_wp2_with fail
      go_roundw
      case rel => exact ⟨k + 1, by omega, by go_num, I9⟩
      case measure => simp [intOf]; omega
    · obtain rfl : k = 16 := by omega
      have g1 := I.h1
      rw [adrCells_congr (b := masked a n) (fun i hi => by unfold partly masked; rw [if_pos hi])] at g1
      have g2 := I.h2
      have hsz : (Try.prog.info? 23).map (·.size) = some (adrCells (masked a n)).size := by rw [adrCells_size]; kernel_rfl
      have G1 := Lib.hid g1; have G2 := Lib.hid g2; have GB := Lib.hid I.below
      clear g1 g2 I
      have HS := Lib.hid hsz; clear hsz
      go_wp2_with (first | (refine wpList_load_row rfl 23 _ rfl w.heap.size rfl 23 _ (0, 0) _ G1.out Try.underlying23 rfl HS.out ?_) | (refine wpList_store_row rfl 23 _ _ rfl (w.heap.size + 1) (adrCells (masked a n)) rfl rfl 23 _ G2.out HS.out ?hold (adrCells_one _) ?_))
      case hold => rw [adrCells_size]; kernel_rfl
      have t := Turned.setRow G2.out (adrCells (masked a n))
      have hlast := t.get (lt_of_blk G2.out)
      have hB := GB.out.trans (t.below (by omega))
      refine bodyPost_ret (results_cell_row rfl _ _ (w.heap.size + 1) 23 _ (0, 0) _ rfl hlast Try.underlying23 rfl HS.out) rfl ⟨rfl, hB⟩
end Go.Proofs.Ytkhbchgocilclaa
