/- Several texts in one: Num8, Mask. No condition beyond those that each part names. -/
import Derived.Test.YtfolamkjlgpgmaaGreatDoorTwins8
import Derived.Laws.BitsAllLaws
import Derived.Laws.BitsLemmas
/- Some bytes of a cutter as one number: the walk. No condition. -/
namespace Go.Proofs.YtfolamkjlgpgmaaGreatDoor
open Go.RowKit
set_option linter.unusedVariables false
set_option linter.unusedSimpArgs false
/-- bytes, the greatest first, as a number -/
def beN (l : List Nat) : Nat := l.foldl (fun a x => a * 256 + x) 0
theorem beN_snoc (l : List Nat) (x : Nat) : beN (l ++ [x]) = beN l * 256 + x := by simp [beN]
theorem beN_lt {l : List Nat} {k : Nat} (h : ∀ x ∈ l, x < 256) (hl : l.length ≤ k) : beN l < 256 ^ k := by
  have key : ∀ (l : List Nat) (a m : Nat), (∀ x ∈ l, x < 256) → a < 256 ^ m → l.foldl (fun a x => a * 256 + x) a < 256 ^ (m + l.length) := by
    intro l
    induction l with
    | nil => intro a m _ ha; exact ha
    | cons y l ih =>
      intro a m hx ha
      have hy := hx y (by simp)
      have h1 : a * 256 + y < 256 ^ (m + 1) := by rw [Nat.pow_succ]; omega
      have := ih (a * 256 + y) (m + 1) (fun x hx2 => hx x (by simp [hx2])) h1
      rw [List.foldl_cons, List.length_cons, show m + (l.length + 1) = m + 1 + l.length by omega]
      exact this
  have := key l 0 0 h (by decide)
  rw [Nat.zero_add] at this
  exact Nat.lt_of_lt_of_le this (Nat.pow_le_pow_right (by decide) hl)
theorem or_shl {a x : Nat} (ha : a < 16777216) (hx : x < 256) : bits .or .u64 ((a * 256 : Nat) : Int) (x : Int) = ((a * 256 + x : Nat) : Int) := by
  have h := (bits_nat .u64 64 (by decide) (fun n h0 h1 => by simp [IntKind.wrap, IntKind.signed, IntKind.bits]; omega) (a * 256) x (by omega) (by omega)).2
  rw [h]
  congr 1
  have := Nat.shiftLeft_add_eq_or_of_lt (i := 8) (b := x) hx a
  rw [Nat.shiftLeft_eq] at this
  exact this.symm
set_option maxRecDepth 100000 in
set_option maxHeartbeats 1000000 in
theorem num49_be {p g c pos k : Nat} {bs : List Nat} (w : World) (h : CutAt w p g c pos bs) (hk : 0 < k) (hk4 : k ≤ 4) (hk2 : pos + k ≤ bs.length) (hb : ∀ x ∈ bs, x < 256) :
    Calls Tryz.prog 34 #[.pointer (some ⟨p, 0, none⟩), .int .i64 (k : Int)] w fun e w' => e = .returned (.int .u64 (beN ((bs.drop pos).take k) : Nat)) ∧ CutAt w' p g c (pos + k) bs ∧ ∃ o, Turned p o w w' := by
  have HT := Lib.hid (take78_ok k w h hk hk2)
  have t1 : ¬ (k : Int) < 1 := by omega
  have t2 : ¬ (8 : Int) < (k : Int) := by omega
  clear h
  go_enter Tryz.func34, Tryz.ntmps34
  go_wp2_with fail
  refine (HT.out).mono ?_
  rintro e w1 ⟨rfl, h1, o, ht⟩
  have HR := Lib.hid h1.rd
  have HC := Lib.hid h1
  have HO := Lib.hid ht
  have HB := Lib.hid hb
  have HK2 := Lib.hid hk2
  clear h1 ht HT t1 t2 hb
  go_wp2_with fail
  go_loop [4, 17] (fun v i => ∃ j : Nat, j ≤ k ∧ i = .int .i64 j ∧ v = .int .u64 (beN ((bs.drop pos).take j) : Nat)) (fun _ i => (k - intOf i).toNat)
  case atStart => exact ⟨0, Nat.zero_le _, rfl, rfl⟩
  case round =>
    obtain ⟨j, hj, rfl, rfl⟩ := hrel
    by_cases hlt : j < k
    · obtain ⟨x, hx⟩ : ∃ x, bs[pos + j]? = some x := ⟨bs[pos + j]'(by omega), List.getElem?_eq_getElem _⟩
      have c1 := HR.out (pos + j) x hx
      have hx256 := HB.out x (List.mem_of_getElem? hx)
      have HS : Hid (beN ((bs.drop pos).take (j + 1)) = beN ((bs.drop pos).take j) * 256 + x) := Lib.hid (by
        rw [List.take_add_one, List.getElem?_drop, hx]
        exact beN_snoc _ _)
      have ha : beN ((bs.drop pos).take j) < 256 ^ 3 := beN_lt (fun y hy => HB.out y (List.mem_of_mem_drop (List.mem_of_mem_take hy))) (by rw [List.length_take]; omega)
      obtain ⟨a, ea⟩ : ∃ a, beN ((bs.drop pos).take j) = a := ⟨_, rfl⟩
      rw [ea] at HS ha ⊢
      have ha3 : a < 16777216 := ha
      have HZ := Lib.hid (or_shl ha3 hx256)
      have t3 : (j : Int) < (k : Int) := by omega
      clear hx ea ha
      go_wp2_with fail
      refine ⟨⟨j + 1, by omega, by go_num, ?_⟩, by simp [intOf]; omega⟩
      rw [HS.out, ← HZ.out]; congr 1
    · obtain rfl : j = k := by omega
      have t3 : ¬ (j : Int) < (j : Int) := by omega
      go_wp2_with fail
      go_ret
      exact ⟨rfl, HC.out, o, HO.out⟩
end Go.Proofs.YtfolamkjlgpgmaaGreatDoor

/- An address with its first bits alone: the walk of Masked. No condition but that each byte is one. (Lines of b20's Addrs and Bits, turned to this dump by gMask.py.) -/
namespace Go.Proofs.YtfolamkjlgpgmaaGreatDoor
open Go.RowKit
set_option linter.unusedVariables false
/-- the first o bits of a byte -/
def top (b o : Nat) : Nat := b / 2 ^ (8 - o) * 2 ^ (8 - o)
/-- how many bits of byte i belong to the first n ones -/
def own (n i : Nat) : Nat := min 8 (n - 8 * i)
theorem own_le (n i : Nat) : own n i ≤ 8 := by unfold own; omega

/-- the walk's own word for 'a[i] & ^byte(0xff >> own)' -/
theorem top_bits : ∀ b : Fin 256, ∀ o : Fin 9, bits .and .u8 (b.val : Int) (bits .xor .u8 (if IntKind.u8.signed = true then -1 else IntKind.u8.max) (255 / 2 ^ o.val)) = (top b.val o.val : Int) := by decide +kernel
theorem topI {b o : Nat} (hb : b < 256) (ho : o ≤ 8) : bits .and .u8 (b : Int) (bits .xor .u8 (if IntKind.u8.signed = true then -1 else IntKind.u8.max) (255 / 2 ^ o)) = (top b o : Int) := top_bits ⟨b, hb⟩ ⟨o, by omega⟩

/-- an address with its first n bits alone -/
def masked (a : Nat → Nat) (n : Nat) : Nat → Nat := fun i => top (a i) (own n i)
def adrL (a : Nat → Nat) : List Value := (List.range 16).map fun i => .int .u8 (a i : Int)
def adrCells (a : Nat → Nat) : Array Value := (adrL a).toArray
theorem adrL_length (a : Nat → Nat) : (adrL a).length = 16 := by simp [adrL]
theorem adrL_one (a : Nat → Nat) : ∀ v ∈ adrL a, v.oneCell' = true := by
  intro v hv
  simp only [adrL, List.mem_map] at hv
  obtain ⟨i, _, rfl⟩ := hv
  rfl
theorem adrCells_get (a : Nat → Nat) {i : Nat} (h : i < 16) : (adrCells a)[i]? = some (.int .u8 (a i : Int)) := by
  simp [adrCells, adrL, h]
theorem adrCells_size (a : Nat → Nat) : (adrCells a).size = 16 := by simp [adrCells, adrL]

/-- an address of which the first k bytes are masked -/
def partly (a : Nat → Nat) (n k : Nat) : Nat → Nat := fun i => if i < k then top (a i) (own n i) else a i

theorem adrCells_set (a : Nat → Nat) (k x : Nat) (h : k < 16) : (adrCells a).setIfInBounds k (.int .u8 (x : Int)) = adrCells (fun i => if i = k then x else a i) := by
  apply Array.ext_getElem?
  intro i
  rw [Array.getElem?_setIfInBounds, adrCells_size]
  by_cases hi : i < 16
  · rw [adrCells_get _ hi, adrCells_get _ hi]
    by_cases hk : k = i
    · subst hk; simp [h]
    · simp [hk, show ¬ i = k from fun e => hk e.symm]
  · rw [if_neg (by omega), Array.getElem?_eq_none (by rw [adrCells_size]; omega), Array.getElem?_eq_none (by rw [adrCells_size]; omega)]
theorem adrCells_congr {a b : Nat → Nat} (h : ∀ i, i < 16 → a i = b i) : adrCells a = adrCells b := by
  apply Array.ext_getElem?
  intro i
  by_cases hi : i < 16
  · rw [adrCells_get _ hi, adrCells_get _ hi, h i hi]
  · rw [Array.getElem?_eq_none (by rw [adrCells_size]; omega), Array.getElem?_eq_none (by rw [adrCells_size]; omega)]
theorem adrCells_one (a : Nat → Nat) : (adrCells a).all (·.oneCell') = true := by
  rw [Array.all_eq_true_iff_forall_mem]
  intro v hv
  exact adrL_one a v (by simpa [adrCells] using hv)
def zeroCells : Array Value := adrCells fun _ => 0

theorem zeroCells_eq : zeroCells = #[.int .u8 0, .int .u8 0, .int .u8 0, .int .u8 0, .int .u8 0, .int .u8 0, .int .u8 0, .int .u8 0, .int .u8 0, .int .u8 0, .int .u8 0, .int .u8 0, .int .u8 0, .int .u8 0, .int .u8 0, .int .u8 0] := by kernel_rfl

structure MaskInv (B k n : Nat) (a : Nat → Nat) (w wr : World) : Prop where
  h1 : wr.heap[B]? = some (.cells (adrCells (partly a n k)) 32 (0, 0))
  h2 : wr.heap[B + 1]? = some (.cells zeroCells 32 (0, 0))
  below : Below B w wr

set_option maxRecDepth 100000 in
set_option maxHeartbeats 400000 in
theorem masked_any (a : Nat → Nat) (n : Nat) (w : World) (ha : ∀ i, i < 16 → a i < 256) (hn : n < 256) :
    Calls Tryz.prog 35 #[.agg (adrCells a), .int .u8 n] w fun e w' => e = .returned (.agg (adrCells (masked a n))) ∧ Below w.heap.size w w' := by
  have I0 : MaskInv w.heap.size 0 n a w ((w.alloc (.cells (adrCells a) 32)).alloc (.cells zeroCells 32)) := by
    refine ⟨?_, ?_, ((Below.refl _ _).alloc (Nat.le_refl _) _).alloc (by simp) _⟩
    · rw [heap_alloc2_old]; rfl
    · rw [heap_alloc2_new]
  rw [zeroCells_eq] at I0
  have I := Lib.hid I0
  clear I0
  go_enter Tryz.func35, Tryz.ntmps35
  go_wp2_with fail
  go_loopw [7] (fun i wr => ∃ k : Nat, k ≤ 16 ∧ i = .int .i64 k ∧ MaskInv w.heap.size k n a w wr) (fun i _ => 16 - (intOf i).toNat)
  case atStart => exact ⟨0, by omega, rfl, I.out⟩
  case round =>
    clear I
    obtain ⟨k, hk, rfl, I⟩ := hrel
    by_cases hlt : k < 16
    · have hc := cell_blk I.h1 k
      rw [adrCells_get _ hlt, show partly a n k k = a k from by unfold partly; rw [if_neg (by omega)]] at hc
      have hf := frozen_blk I.h1 k
      have hak := ha k hlt
      have o2 := own_le n k
      rcases Nat.lt_or_ge (8 * k) n with q1 | q1
      · rcases Nat.lt_or_ge n (8 * k + 8) with q2 | q2
        · have m1 : ¬ (n : Int) - 8 * k < 0 := by omega
          have m2 : (n : Int) - 8 * k < 8 := by omega
          go_wp2_with fail
          go_region
          have I9 : MaskInv w.heap.size (k + 1) n a w ((wr.setCell ⟨w.heap.size, k, none⟩ (.int .u8 (top (a k) (own n k) : Nat))).drew) := by
            have t := Turned.setCell I.h1 k (.int .u8 (top (a k) (own n k) : Nat))
            rw [adrCells_set _ _ _ hlt] at t
            have hB := lt_of_blk I.h1
            refine ⟨?_, t.keep I.h2 (by omega), I.below.trans (t.drew.below (Nat.le_refl _))⟩
            rw [show partly a n (k + 1) = (fun i => if i = k then top (a k) (own n k) else partly a n k i) from ?_]
            · exact t.get hB
            · funext i
              unfold partly
              by_cases h1 : i = k
              · subst h1; simp
              · by_cases h2 : i < k
                · rw [if_pos (by omega), if_neg h1, if_pos h2]
                · rw [if_neg (by omega), if_neg h1, if_neg h2]
          have e9 : bits .and .u8 (a k : Int) (bits .xor .u8 (if IntKind.u8.signed = true then -1 else IntKind.u8.max) (255 / 2 ^ (n - 8 * k))) = (top (a k) (own n k) : Nat) := by
            rw [show own n k = n - 8 * k by unfold own; omega]; exact topI hak (by omega)
          rw [e9]
          clear I hc hf
          go_wp2_with fail
          go_roundw
          case rel => exact ⟨k + 1, by omega, by go_num, I9⟩
          case measure => simp [intOf]; omega
        · have m1 : ¬ (n : Int) - 8 * k < 0 := by omega
          have m2 : ¬ (n : Int) - 8 * k < 8 := by omega
          go_wp2_with fail
          go_region
          have I9 : MaskInv w.heap.size (k + 1) n a w ((wr.setCell ⟨w.heap.size, k, none⟩ (.int .u8 (top (a k) (own n k) : Nat))).drew) := by
            have t := Turned.setCell I.h1 k (.int .u8 (top (a k) (own n k) : Nat))
            rw [adrCells_set _ _ _ hlt] at t
            have hB := lt_of_blk I.h1
            refine ⟨?_, t.keep I.h2 (by omega), I.below.trans (t.drew.below (Nat.le_refl _))⟩
            rw [show partly a n (k + 1) = (fun i => if i = k then top (a k) (own n k) else partly a n k i) from ?_]
            · exact t.get hB
            · funext i
              unfold partly
              by_cases h1 : i = k
              · subst h1; simp
              · by_cases h2 : i < k
                · rw [if_pos (by omega), if_neg h1, if_pos h2]
                · rw [if_neg (by omega), if_neg h1, if_neg h2]
          have e9 : bits .and .u8 (a k : Int) (bits .xor .u8 (if IntKind.u8.signed = true then -1 else IntKind.u8.max) 0) = (top (a k) (own n k) : Nat) := by
            have h := topI (b := a k) (o := 8) hak (by decide)
            rw [show (255 : Int) / 2 ^ 8 = 0 from by decide] at h
            rw [show own n k = 8 by unfold own; omega]; exact h
          rw [e9]
          clear I hc hf
          go_wp2_with fail
          go_roundw
          case rel => exact ⟨k + 1, by omega, by go_num, I9⟩
          case measure => simp [intOf]; omega
      · have m1 : (n : Int) - 8 * k ≤ 0 := by omega
        go_wp2_with fail
        go_region
        have I9 : MaskInv w.heap.size (k + 1) n a w ((wr.setCell ⟨w.heap.size, k, none⟩ (.int .u8 (top (a k) (own n k) : Nat))).drew) := by
          have t := Turned.setCell I.h1 k (.int .u8 (top (a k) (own n k) : Nat))
          rw [adrCells_set _ _ _ hlt] at t
          have hB := lt_of_blk I.h1
          refine ⟨?_, t.keep I.h2 (by omega), I.below.trans (t.drew.below (Nat.le_refl _))⟩
          rw [show partly a n (k + 1) = (fun i => if i = k then top (a k) (own n k) else partly a n k i) from ?_]
          · exact t.get hB
          · funext i
            unfold partly
            by_cases h1 : i = k
            · subst h1; simp
            · by_cases h2 : i < k
              · rw [if_pos (by omega), if_neg h1, if_pos h2]
              · rw [if_neg (by omega), if_neg h1, if_neg h2]
        have e9 : bits .and .u8 (a k : Int) (bits .xor .u8 (if IntKind.u8.signed = true then -1 else IntKind.u8.max) 255) = (top (a k) (own n k) : Nat) := by
          have h := topI (b := a k) (o := 0) hak (by decide)
          rw [show (255 : Int) / 2 ^ 0 = 255 from by decide] at h
          rw [show own n k = 0 by unfold own; omega]; exact h
        rw [e9]
        clear I hc hf
        go_wp2_with fail
        go_roundw
        case rel => exact ⟨k + 1, by omega, by go_num, I9⟩
        case measure => simp [intOf]; omega
    · obtain rfl : k = 16 := by omega
      have g1 := I.h1
      rw [adrCells_congr (b := masked a n) (fun i hi => by unfold partly masked; rw [if_pos hi])] at g1
      have g2 := I.h2
      have hsz : (Tryz.prog.info? 32).map (·.size) = some (adrCells (masked a n)).size := by rw [adrCells_size]; kernel_rfl
      have G1 := Lib.hid g1; have G2 := Lib.hid g2; have GB := Lib.hid I.below
      clear g1 g2 I
      have HS := Lib.hid hsz; clear hsz
      go_wp2_with (first | (refine wpList_load_row rfl 32 _ rfl w.heap.size rfl 32 _ (0, 0) _ G1.out Tryz.underlying32 rfl HS.out ?_) | (refine wpList_store_row rfl 32 _ _ rfl (w.heap.size + 1) (adrCells (masked a n)) rfl rfl 32 _ G2.out HS.out ?hold (adrCells_one _) ?_))
      case hold => rw [adrCells_size]; kernel_rfl
      have t := Turned.setRow G2.out (adrCells (masked a n))
      have hlast := t.get (lt_of_blk G2.out)
      have hB := GB.out.trans (t.below (by omega))
      refine bodyPost_ret (results_cell_row rfl _ _ (w.heap.size + 1) 32 _ (0, 0) _ rfl hlast Tryz.underlying32 rfl HS.out) rfl ⟨rfl, hB⟩
end Go.Proofs.YtfolamkjlgpgmaaGreatDoor
