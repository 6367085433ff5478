/- An option of a prefix: the program's walk. No condition. -/
import Derived.Test.YtfolamkjlgpgmabDoorMade
namespace Go.Proofs.YtfolamkjlgpgmabDoor
open Go.RowKit
set_option linter.unusedVariables false
set_option linter.unusedSimpArgs false
/-- a prefix's flags, its bytes -/
def flagO (on auto : Bool) : Nat := (if on then 128 else 0) + (if auto then 64 else 0)
def adr16 (x : Nat → Nat) : List Nat := [x 0, x 1, x 2, x 3, x 4, x 5, x 6, x 7, x 8, x 9, x 10, x 11, x 12, x 13, x 14, x 15]
def infoB (x : Nat → Nat) (bits v p F : Nat) : List Nat := [bits, F] ++ be4 v ++ be4 p ++ be4 0 ++ adr16 x
theorem four_new (w : World) (a b c d : Obj) : Below w.heap.size w ((((w.alloc a).alloc b).alloc c).alloc d) ∧ ((((w.alloc a).alloc b).alloc c).alloc d).heap[w.heap.size]? = some a ∧ ((((w.alloc a).alloc b).alloc c).alloc d).heap[w.heap.size + 1]? = some b ∧
    ((((w.alloc a).alloc b).alloc c).alloc d).heap[w.heap.size + 1 + 1]? = some c ∧ ((((w.alloc a).alloc b).alloc c).alloc d).heap[w.heap.size + 1 + 1 + 1]? = some d ∧ ((((w.alloc a).alloc b).alloc c).alloc d).heap.size = w.heap.size + 1 + 1 + 1 + 1 := by
  obtain ⟨h1, h2, h3⟩ := two_new w a b
  obtain ⟨k1, k2, k3⟩ := two_new ((w.alloc a).alloc b) c d
  have hs : ((w.alloc a).alloc b).heap.size = w.heap.size + 1 + 1 := by simp
  refine ⟨h1.trans (k1.mono h1.size), (k1.block _ (lt_of_blk h2)).trans h2, (k1.block _ (lt_of_blk h3)).trans h3, ?_, ?_, by simp⟩
  · rw [hs] at k2; exact k2
  · rw [hs] at k3; exact k3
/-- while the numbers are put -/
structure IB (B : Nat) (W wr : World) (v : Value) (l : List Nat) : Prop where
  own : OwnC wr B v l
  below : Below W.heap.size W wr
  low : B ≤ wr.heap.size
theorem IB.put {B : Nat} {W wr w9 : World} {v : Value} {l bs : List Nat} {A : Option Addr} {c k : Nat} (h : IB B W wr v l) (h1 : c = bs.length) (h2 : c ≤ k) (h3 : w9.ownsRow wr.heap.size 5 1 (.slice A bs.length k) bs.length (row8 bs)) (h4 : Below wr.heap.size wr w9) : IB wr.heap.size W w9 (.slice A bs.length c) bs :=
  ⟨⟨A, c, k, rfl, .inr h1, by omega, h2, h3⟩, h.below.trans (h4.mono h.below.size), h4.size⟩
set_option maxRecDepth 100000 in
set_option maxHeartbeats 1000000 in
theorem info30 (x : Nat → Nat) (bits v p : Nat) (on auto : Bool) (hv : v < 4294967296) (hp : p < 4294967296) (w : World) :
    Calls Tryd.prog 8 #[.agg #[.int .u8 (x 0 : Int), .int .u8 (x 1 : Int), .int .u8 (x 2 : Int), .int .u8 (x 3 : Int), .int .u8 (x 4 : Int), .int .u8 (x 5 : Int), .int .u8 (x 6 : Int), .int .u8 (x 7 : Int), .int .u8 (x 8 : Int), .int .u8 (x 9 : Int), .int .u8 (x 10 : Int), .int .u8 (x 11 : Int), .int .u8 (x 12 : Int), .int .u8 (x 13 : Int), .int .u8 (x 14 : Int), .int .u8 (x 15 : Int), .int .u8 (bits : Int), .bool on, .bool auto, .int .u32 (v : Int), .int .u32 (p : Int)]] w (MadePost 3 (infoB x bits v p (flagO on auto)) w) := by
  go_enter Tryd.func8, Tryd.ntmps8
  cases on <;> cases auto
  · have hF1 : Go.bits BinOp.or IntKind.u8 0 128 = 128 := by decide
    have hF2 : Go.bits BinOp.or IntKind.u8 0 64 = 64 := by decide
    have hF3 : Go.bits BinOp.or IntKind.u8 128 64 = 192 := by decide
    obtain ⟨hb, h0, h1, h2, h3, hs⟩ := four_new w (.cells #[.int .u8 (x 0 : Int), .int .u8 (x 1 : Int), .int .u8 (x 2 : Int), .int .u8 (x 3 : Int), .int .u8 (x 4 : Int), .int .u8 (x 5 : Int), .int .u8 (x 6 : Int), .int .u8 (x 7 : Int), .int .u8 (x 8 : Int), .int .u8 (x 9 : Int), .int .u8 (x 10 : Int), .int .u8 (x 11 : Int), .int .u8 (x 12 : Int), .int .u8 (x 13 : Int), .int .u8 (x 14 : Int), .int .u8 (x 15 : Int), .int .u8 (bits : Int), .bool false, .bool false, .int .u32 (v : Int), .int .u32 (p : Int)] 30) (.cells #[.int .u8 0, .slice none 0 0] 39) (.cells #[.int .u8 (bits : Int), .int .u8 0] 5) (.cells #[.int .u32 (v : Int), .int .u32 (p : Int), .int .u32 0] 28)
    obtain ⟨W, hW⟩ : ∃ W, W = (((w.alloc (.cells #[.int .u8 (x 0 : Int), .int .u8 (x 1 : Int), .int .u8 (x 2 : Int), .int .u8 (x 3 : Int), .int .u8 (x 4 : Int), .int .u8 (x 5 : Int), .int .u8 (x 6 : Int), .int .u8 (x 7 : Int), .int .u8 (x 8 : Int), .int .u8 (x 9 : Int), .int .u8 (x 10 : Int), .int .u8 (x 11 : Int), .int .u8 (x 12 : Int), .int .u8 (x 13 : Int), .int .u8 (x 14 : Int), .int .u8 (x 15 : Int), .int .u8 (bits : Int), .bool false, .bool false, .int .u32 (v : Int), .int .u32 (p : Int)] 30)).alloc (.cells #[.int .u8 0, .slice none 0 0] 39)).alloc (.cells #[.int .u8 (bits : Int), .int .u8 0] 5)).alloc (.cells #[.int .u32 (v : Int), .int .u32 (p : Int), .int .u32 0] 28) := ⟨_, rfl⟩
    rw [← hW] at hb h0 h1 h2 h3 hs
    have H0 := Lib.hid h0
    have H1 := Lib.hid h1
    have H3 := Lib.hid h3
    have HB := Lib.hid hb
    have HI0 : Hid (IB w.heap.size W W (.slice (some ⟨w.heap.size + 1 + 1, 0, none⟩) 2 2) [bits, 0]) := Lib.hid ⟨OwnC.of_own (blk_own (l := [bits, 0]) h2 (base := w.heap.size) (by omega) (by simp)), Below.refl _ _, hb.size⟩
    have hsw : w.heap.size ≤ W.heap.size := hb.size
    clear hb h0 h1 h2 h3 hs
    go_wp2_with fail
    rw [← hW]
    clear hW hF1 hF2 hF3
    go_loopw [3, 30] (fun v3 i wr => ∃ k : Nat, k ≤ 3 ∧ i = .int .i64 k ∧ ∃ B, (k = 0 ∨ W.heap.size ≤ B) ∧ IB B W wr v3 ([bits, 0] ++ (be4 v ++ be4 p ++ be4 0).take (4 * k))) (fun _ i _ => 3 - (intOf i).toNat)
    case atStart => exact ⟨0, by omega, rfl, _, .inl rfl, HI0.out⟩
    case round =>
      clear HI0
      obtain ⟨k, hk, rfl, B, hB, I⟩ := hrel
      match k, hk with
      | 0, _ =>
        have c0 := cell_blk ((I.below.block _ (lt_of_blk H3.out)).trans H3.out) 0
        simp only [List.getElem?_toArray, List.getElem?_cons_zero, List.getElem?_cons_succ] at c0
        have hsz := I.below.size
        have HI : Hid (IB B W wr u3 ([bits, 0])) := Lib.hid I
        obtain ⟨A3, c3, k3, hv3, -, -, -, -⟩ := I.own
        have hv3 : u3 = .slice A3 2 c3 := hv3
        subst hv3
        have HP := Lib.hid (put64 (l := [bits, 0]) v (by omega) wr HI.out.own.bs (by show 2 ≤ 100000000; omega))
        rw [show ([bits, 0]).length = 2 from rfl] at HP
        clear I
        go_wp2_with fail
        refine (HP.out).mono ?_
        rintro e w9 ⟨A9, c9, k9, rfl, h1, h2, h3, h4⟩
        have HR := Lib.hid (HI.out.put h1 h2 h3 h4)
        clear h1 h2 h3 h4 HP
        go_wp2_with fail
        go_roundw
        case rel => exact ⟨1, by omega, by congr 1, _, .inr hsz, HR.out⟩
        case measure => simp [intOf]
      | 1, _ =>
        have c0 := cell_blk ((I.below.block _ (lt_of_blk H3.out)).trans H3.out) 1
        simp only [List.getElem?_toArray, List.getElem?_cons_zero, List.getElem?_cons_succ] at c0
        have hsz := I.below.size
        have HI : Hid (IB B W wr u3 ([bits, 0] ++ be4 v)) := Lib.hid I
        obtain ⟨A3, c3, k3, hv3, -, -, -, -⟩ := I.own
        have hv3 : u3 = .slice A3 6 c3 := hv3
        subst hv3
        have HP := Lib.hid (put64 (l := [bits, 0] ++ be4 v) p (by omega) wr HI.out.own.bs (by show 6 ≤ 100000000; omega))
        rw [show ([bits, 0] ++ be4 v).length = 6 from rfl] at HP
        clear I
        go_wp2_with fail
        refine (HP.out).mono ?_
        rintro e w9 ⟨A9, c9, k9, rfl, h1, h2, h3, h4⟩
        have HR := Lib.hid (HI.out.put h1 h2 h3 h4)
        clear h1 h2 h3 h4 HP
        go_wp2_with fail
        go_roundw
        case rel => exact ⟨2, by omega, by congr 1, _, .inr hsz, HR.out⟩
        case measure => simp [intOf]
      | 2, _ =>
        have c0 := cell_blk ((I.below.block _ (lt_of_blk H3.out)).trans H3.out) 2
        simp only [List.getElem?_toArray, List.getElem?_cons_zero, List.getElem?_cons_succ] at c0
        have hsz := I.below.size
        have HI : Hid (IB B W wr u3 ([bits, 0] ++ be4 v ++ be4 p)) := Lib.hid I
        obtain ⟨A3, c3, k3, hv3, -, -, -, -⟩ := I.own
        have hv3 : u3 = .slice A3 10 c3 := hv3
        subst hv3
        have HP := Lib.hid (put64 (l := [bits, 0] ++ be4 v ++ be4 p) 0 (by omega) wr HI.out.own.bs (by show 10 ≤ 100000000; omega))
        rw [show ([bits, 0] ++ be4 v ++ be4 p).length = 10 from rfl] at HP
        clear I
        go_wp2_with fail
        refine (HP.out).mono ?_
        rintro e w9 ⟨A9, c9, k9, rfl, h1, h2, h3, h4⟩
        have HR := Lib.hid (HI.out.put h1 h2 h3 h4)
        clear h1 h2 h3 h4 HP
        go_wp2_with fail
        go_roundw
        case rel => exact ⟨3, by omega, by congr 1, _, .inr hsz, HR.out⟩
        case measure => simp [intOf]
      | 3, _ =>
        have I : IB B W wr u3 ([bits, 0] ++ be4 v ++ be4 p ++ be4 0) := I
        have hBW : W.heap.size ≤ B := by rcases hB with h | h; cases h; exact h
        have hlow := I.low
        have hsz := I.below.size
        have hcell : ∀ j u, (row8 (adr16 x))[j]? = some u → wr.cell? ((⟨w.heap.size, 0, none⟩ : Addr).add j) = some u := by
          intro j u hu
          have hj := (List.getElem?_eq_some_iff.1 hu).1
          have hh : (row8 (adr16 x) ++ [.int .u8 (bits : Int), .bool false, .bool false, .int .u32 (v : Int), .int .u32 (p : Int)])[j]? = some u := by rw [List.getElem?_append_left hj]; exact hu
          rw [Addr.add_mid, Nat.zero_add, cell_blk ((I.below.block _ (lt_of_blk H0.out)).trans H0.out)]
          show (List.toArray _)[j]? = some u
          rw [List.getElem?_toArray]
          exact hh
        have HC := Lib.hid hcell
        have HI := Lib.hid I
        obtain ⟨A3, c3, k3, hv3, -, -, -, -⟩ := I.own
        have hv3 : u3 = .slice A3 14 c3 := hv3
        subst hv3
        clear I hcell
        go_wp2_with (at_builtin; refine app8 rfl _ _ rfl B _ ([bits, 0] ++ be4 v ++ be4 p ++ be4 0) rfl HI.out.own ⟨w.heap.size, 0, none⟩ 16 16 (adr16 x) rfl rfl (by decide) HC.out ?c3 ?c4 ?_)
        case c3 => show 14 + 16 ≤ 1000000000; omega
        case c4 => omega
        intro v5 w5 ho5 hb5
        replace ho5 : w5.ownsRow B 5 1 v5 30 (row8 (infoB x bits v p 0)) := ho5
        obtain ⟨A5, c5, rfl, hc5⟩ := own_slice2 ho5
        have hb15 : Below w.heap.size w wr := HB.out.trans (HI.out.below.mono hsw)
        have hq : w5.heap[w.heap.size + 1]? = some (.cells #[.int .u8 0, .slice none 0 0] 39 (0, 0)) := by
          have hlt := lt_of_blk H1.out
          exact (hb5.block _ (by omega)).trans ((HI.out.below.block _ hlt).trans H1.out)
        have d0 := cell_blk hq 0
        have d1 := cell_blk hq 1
        have f0 := frozen_blk hq 0
        have f1 := frozen_blk hq 1
        simp only [List.getElem?_toArray, List.getElem?_cons_zero, List.getElem?_cons_succ] at d0 d1
        have HO := Lib.hid (own_mono ho5 (Nat.le_trans hsw hBW))
        have HB5 := Lib.hid (hb15.trans (hb5.mono (Nat.le_trans hsw hBW)))
        have HQ := Lib.hid hq
        clear ho5 hb5 hq hb15 HC
        go_wp2_with fail
        refine (clip56 _ _ _ hc5 _).mono ?_
        rintro e w3 ⟨rfl, rfl⟩
        go_wp2_with fail
        obtain ⟨g0, g1⟩ := end_cells (v0 := .int .u8 (3 : Int)) (v1 := .slice A5 30 30) HQ.out
        refine bodyPost_ret (v := .agg #[.int .u8 (3 : Int), .slice A5 30 30]) ?_ rfl ?_
        · simp [results, Tryd.results8, go_sem, g0, g1]
          try rfl
        · exact made_end HO.out rfl (Nat.le_refl _) hc5 HQ.out (Nat.le_succ _) HB5.out
  · have hF1 : Go.bits BinOp.or IntKind.u8 0 128 = 128 := by decide
    have hF2 : Go.bits BinOp.or IntKind.u8 0 64 = 64 := by decide
    have hF3 : Go.bits BinOp.or IntKind.u8 128 64 = 192 := by decide
    obtain ⟨hb, h0, h1, h2, h3, hs⟩ := four_new w (.cells #[.int .u8 (x 0 : Int), .int .u8 (x 1 : Int), .int .u8 (x 2 : Int), .int .u8 (x 3 : Int), .int .u8 (x 4 : Int), .int .u8 (x 5 : Int), .int .u8 (x 6 : Int), .int .u8 (x 7 : Int), .int .u8 (x 8 : Int), .int .u8 (x 9 : Int), .int .u8 (x 10 : Int), .int .u8 (x 11 : Int), .int .u8 (x 12 : Int), .int .u8 (x 13 : Int), .int .u8 (x 14 : Int), .int .u8 (x 15 : Int), .int .u8 (bits : Int), .bool false, .bool true, .int .u32 (v : Int), .int .u32 (p : Int)] 30) (.cells #[.int .u8 0, .slice none 0 0] 39) (.cells #[.int .u8 (bits : Int), .int .u8 64] 5) (.cells #[.int .u32 (v : Int), .int .u32 (p : Int), .int .u32 0] 28)
    obtain ⟨W, hW⟩ : ∃ W, W = (((w.alloc (.cells #[.int .u8 (x 0 : Int), .int .u8 (x 1 : Int), .int .u8 (x 2 : Int), .int .u8 (x 3 : Int), .int .u8 (x 4 : Int), .int .u8 (x 5 : Int), .int .u8 (x 6 : Int), .int .u8 (x 7 : Int), .int .u8 (x 8 : Int), .int .u8 (x 9 : Int), .int .u8 (x 10 : Int), .int .u8 (x 11 : Int), .int .u8 (x 12 : Int), .int .u8 (x 13 : Int), .int .u8 (x 14 : Int), .int .u8 (x 15 : Int), .int .u8 (bits : Int), .bool false, .bool true, .int .u32 (v : Int), .int .u32 (p : Int)] 30)).alloc (.cells #[.int .u8 0, .slice none 0 0] 39)).alloc (.cells #[.int .u8 (bits : Int), .int .u8 64] 5)).alloc (.cells #[.int .u32 (v : Int), .int .u32 (p : Int), .int .u32 0] 28) := ⟨_, rfl⟩
    rw [← hW] at hb h0 h1 h2 h3 hs
    have H0 := Lib.hid h0
    have H1 := Lib.hid h1
    have H3 := Lib.hid h3
    have HB := Lib.hid hb
    have HI0 : Hid (IB w.heap.size W W (.slice (some ⟨w.heap.size + 1 + 1, 0, none⟩) 2 2) [bits, 64]) := Lib.hid ⟨OwnC.of_own (blk_own (l := [bits, 64]) h2 (base := w.heap.size) (by omega) (by simp)), Below.refl _ _, hb.size⟩
    have hsw : w.heap.size ≤ W.heap.size := hb.size
    clear hb h0 h1 h2 h3 hs
    go_wp2_with fail
    rw [← hW]
    clear hW hF1 hF2 hF3
    go_loopw [3, 30] (fun v3 i wr => ∃ k : Nat, k ≤ 3 ∧ i = .int .i64 k ∧ ∃ B, (k = 0 ∨ W.heap.size ≤ B) ∧ IB B W wr v3 ([bits, 64] ++ (be4 v ++ be4 p ++ be4 0).take (4 * k))) (fun _ i _ => 3 - (intOf i).toNat)
    case atStart => exact ⟨0, by omega, rfl, _, .inl rfl, HI0.out⟩
    case round =>
      clear HI0
      obtain ⟨k, hk, rfl, B, hB, I⟩ := hrel
      match k, hk with
      | 0, _ =>
        have c0 := cell_blk ((I.below.block _ (lt_of_blk H3.out)).trans H3.out) 0
        simp only [List.getElem?_toArray, List.getElem?_cons_zero, List.getElem?_cons_succ] at c0
        have hsz := I.below.size
        have HI : Hid (IB B W wr u3 ([bits, 64])) := Lib.hid I
        obtain ⟨A3, c3, k3, hv3, -, -, -, -⟩ := I.own
        have hv3 : u3 = .slice A3 2 c3 := hv3
        subst hv3
        have HP := Lib.hid (put64 (l := [bits, 64]) v (by omega) wr HI.out.own.bs (by show 2 ≤ 100000000; omega))
        rw [show ([bits, 64]).length = 2 from rfl] at HP
        clear I
        go_wp2_with fail
        refine (HP.out).mono ?_
        rintro e w9 ⟨A9, c9, k9, rfl, h1, h2, h3, h4⟩
        have HR := Lib.hid (HI.out.put h1 h2 h3 h4)
        clear h1 h2 h3 h4 HP
        go_wp2_with fail
        go_roundw
        case rel => exact ⟨1, by omega, by congr 1, _, .inr hsz, HR.out⟩
        case measure => simp [intOf]
      | 1, _ =>
        have c0 := cell_blk ((I.below.block _ (lt_of_blk H3.out)).trans H3.out) 1
        simp only [List.getElem?_toArray, List.getElem?_cons_zero, List.getElem?_cons_succ] at c0
        have hsz := I.below.size
        have HI : Hid (IB B W wr u3 ([bits, 64] ++ be4 v)) := Lib.hid I
        obtain ⟨A3, c3, k3, hv3, -, -, -, -⟩ := I.own
        have hv3 : u3 = .slice A3 6 c3 := hv3
        subst hv3
        have HP := Lib.hid (put64 (l := [bits, 64] ++ be4 v) p (by omega) wr HI.out.own.bs (by show 6 ≤ 100000000; omega))
        rw [show ([bits, 64] ++ be4 v).length = 6 from rfl] at HP
        clear I
        go_wp2_with fail
        refine (HP.out).mono ?_
        rintro e w9 ⟨A9, c9, k9, rfl, h1, h2, h3, h4⟩
        have HR := Lib.hid (HI.out.put h1 h2 h3 h4)
        clear h1 h2 h3 h4 HP
        go_wp2_with fail
        go_roundw
        case rel => exact ⟨2, by omega, by congr 1, _, .inr hsz, HR.out⟩
        case measure => simp [intOf]
      | 2, _ =>
        have c0 := cell_blk ((I.below.block _ (lt_of_blk H3.out)).trans H3.out) 2
        simp only [List.getElem?_toArray, List.getElem?_cons_zero, List.getElem?_cons_succ] at c0
        have hsz := I.below.size
        have HI : Hid (IB B W wr u3 ([bits, 64] ++ be4 v ++ be4 p)) := Lib.hid I
        obtain ⟨A3, c3, k3, hv3, -, -, -, -⟩ := I.own
        have hv3 : u3 = .slice A3 10 c3 := hv3
        subst hv3
        have HP := Lib.hid (put64 (l := [bits, 64] ++ be4 v ++ be4 p) 0 (by omega) wr HI.out.own.bs (by show 10 ≤ 100000000; omega))
        rw [show ([bits, 64] ++ be4 v ++ be4 p).length = 10 from rfl] at HP
        clear I
        go_wp2_with fail
        refine (HP.out).mono ?_
        rintro e w9 ⟨A9, c9, k9, rfl, h1, h2, h3, h4⟩
        have HR := Lib.hid (HI.out.put h1 h2 h3 h4)
        clear h1 h2 h3 h4 HP
        go_wp2_with fail
        go_roundw
        case rel => exact ⟨3, by omega, by congr 1, _, .inr hsz, HR.out⟩
        case measure => simp [intOf]
      | 3, _ =>
        have I : IB B W wr u3 ([bits, 64] ++ be4 v ++ be4 p ++ be4 0) := I
        have hBW : W.heap.size ≤ B := by rcases hB with h | h; cases h; exact h
        have hlow := I.low
        have hsz := I.below.size
        have hcell : ∀ j u, (row8 (adr16 x))[j]? = some u → wr.cell? ((⟨w.heap.size, 0, none⟩ : Addr).add j) = some u := by
          intro j u hu
          have hj := (List.getElem?_eq_some_iff.1 hu).1
          have hh : (row8 (adr16 x) ++ [.int .u8 (bits : Int), .bool false, .bool true, .int .u32 (v : Int), .int .u32 (p : Int)])[j]? = some u := by rw [List.getElem?_append_left hj]; exact hu
          rw [Addr.add_mid, Nat.zero_add, cell_blk ((I.below.block _ (lt_of_blk H0.out)).trans H0.out)]
          show (List.toArray _)[j]? = some u
          rw [List.getElem?_toArray]
          exact hh
        have HC := Lib.hid hcell
        have HI := Lib.hid I
        obtain ⟨A3, c3, k3, hv3, -, -, -, -⟩ := I.own
        have hv3 : u3 = .slice A3 14 c3 := hv3
        subst hv3
        clear I hcell
        go_wp2_with (at_builtin; refine app8 rfl _ _ rfl B _ ([bits, 64] ++ be4 v ++ be4 p ++ be4 0) rfl HI.out.own ⟨w.heap.size, 0, none⟩ 16 16 (adr16 x) rfl rfl (by decide) HC.out ?c3 ?c4 ?_)
        case c3 => show 14 + 16 ≤ 1000000000; omega
        case c4 => omega
        intro v5 w5 ho5 hb5
        replace ho5 : w5.ownsRow B 5 1 v5 30 (row8 (infoB x bits v p 64)) := ho5
        obtain ⟨A5, c5, rfl, hc5⟩ := own_slice2 ho5
        have hb15 : Below w.heap.size w wr := HB.out.trans (HI.out.below.mono hsw)
        have hq : w5.heap[w.heap.size + 1]? = some (.cells #[.int .u8 0, .slice none 0 0] 39 (0, 0)) := by
          have hlt := lt_of_blk H1.out
          exact (hb5.block _ (by omega)).trans ((HI.out.below.block _ hlt).trans H1.out)
        have d0 := cell_blk hq 0
        have d1 := cell_blk hq 1
        have f0 := frozen_blk hq 0
        have f1 := frozen_blk hq 1
        simp only [List.getElem?_toArray, List.getElem?_cons_zero, List.getElem?_cons_succ] at d0 d1
        have HO := Lib.hid (own_mono ho5 (Nat.le_trans hsw hBW))
        have HB5 := Lib.hid (hb15.trans (hb5.mono (Nat.le_trans hsw hBW)))
        have HQ := Lib.hid hq
        clear ho5 hb5 hq hb15 HC
        go_wp2_with fail
        refine (clip56 _ _ _ hc5 _).mono ?_
        rintro e w3 ⟨rfl, rfl⟩
        go_wp2_with fail
        obtain ⟨g0, g1⟩ := end_cells (v0 := .int .u8 (3 : Int)) (v1 := .slice A5 30 30) HQ.out
        refine bodyPost_ret (v := .agg #[.int .u8 (3 : Int), .slice A5 30 30]) ?_ rfl ?_
        · simp [results, Tryd.results8, go_sem, g0, g1]
          try rfl
        · exact made_end HO.out rfl (Nat.le_refl _) hc5 HQ.out (Nat.le_succ _) HB5.out
  · have hF1 : Go.bits BinOp.or IntKind.u8 0 128 = 128 := by decide
    have hF2 : Go.bits BinOp.or IntKind.u8 0 64 = 64 := by decide
    have hF3 : Go.bits BinOp.or IntKind.u8 128 64 = 192 := by decide
    obtain ⟨hb, h0, h1, h2, h3, hs⟩ := four_new w (.cells #[.int .u8 (x 0 : Int), .int .u8 (x 1 : Int), .int .u8 (x 2 : Int), .int .u8 (x 3 : Int), .int .u8 (x 4 : Int), .int .u8 (x 5 : Int), .int .u8 (x 6 : Int), .int .u8 (x 7 : Int), .int .u8 (x 8 : Int), .int .u8 (x 9 : Int), .int .u8 (x 10 : Int), .int .u8 (x 11 : Int), .int .u8 (x 12 : Int), .int .u8 (x 13 : Int), .int .u8 (x 14 : Int), .int .u8 (x 15 : Int), .int .u8 (bits : Int), .bool true, .bool false, .int .u32 (v : Int), .int .u32 (p : Int)] 30) (.cells #[.int .u8 0, .slice none 0 0] 39) (.cells #[.int .u8 (bits : Int), .int .u8 128] 5) (.cells #[.int .u32 (v : Int), .int .u32 (p : Int), .int .u32 0] 28)
    obtain ⟨W, hW⟩ : ∃ W, W = (((w.alloc (.cells #[.int .u8 (x 0 : Int), .int .u8 (x 1 : Int), .int .u8 (x 2 : Int), .int .u8 (x 3 : Int), .int .u8 (x 4 : Int), .int .u8 (x 5 : Int), .int .u8 (x 6 : Int), .int .u8 (x 7 : Int), .int .u8 (x 8 : Int), .int .u8 (x 9 : Int), .int .u8 (x 10 : Int), .int .u8 (x 11 : Int), .int .u8 (x 12 : Int), .int .u8 (x 13 : Int), .int .u8 (x 14 : Int), .int .u8 (x 15 : Int), .int .u8 (bits : Int), .bool true, .bool false, .int .u32 (v : Int), .int .u32 (p : Int)] 30)).alloc (.cells #[.int .u8 0, .slice none 0 0] 39)).alloc (.cells #[.int .u8 (bits : Int), .int .u8 128] 5)).alloc (.cells #[.int .u32 (v : Int), .int .u32 (p : Int), .int .u32 0] 28) := ⟨_, rfl⟩
    rw [← hW] at hb h0 h1 h2 h3 hs
    have H0 := Lib.hid h0
    have H1 := Lib.hid h1
    have H3 := Lib.hid h3
    have HB := Lib.hid hb
    have HI0 : Hid (IB w.heap.size W W (.slice (some ⟨w.heap.size + 1 + 1, 0, none⟩) 2 2) [bits, 128]) := Lib.hid ⟨OwnC.of_own (blk_own (l := [bits, 128]) h2 (base := w.heap.size) (by omega) (by simp)), Below.refl _ _, hb.size⟩
    have hsw : w.heap.size ≤ W.heap.size := hb.size
    clear hb h0 h1 h2 h3 hs
    go_wp2_with fail
    rw [← hW]
    clear hW hF1 hF2 hF3
    go_loopw [3, 30] (fun v3 i wr => ∃ k : Nat, k ≤ 3 ∧ i = .int .i64 k ∧ ∃ B, (k = 0 ∨ W.heap.size ≤ B) ∧ IB B W wr v3 ([bits, 128] ++ (be4 v ++ be4 p ++ be4 0).take (4 * k))) (fun _ i _ => 3 - (intOf i).toNat)
    case atStart => exact ⟨0, by omega, rfl, _, .inl rfl, HI0.out⟩
    case round =>
      clear HI0
      obtain ⟨k, hk, rfl, B, hB, I⟩ := hrel
      match k, hk with
      | 0, _ =>
        have c0 := cell_blk ((I.below.block _ (lt_of_blk H3.out)).trans H3.out) 0
        simp only [List.getElem?_toArray, List.getElem?_cons_zero, List.getElem?_cons_succ] at c0
        have hsz := I.below.size
        have HI : Hid (IB B W wr u3 ([bits, 128])) := Lib.hid I
        obtain ⟨A3, c3, k3, hv3, -, -, -, -⟩ := I.own
        have hv3 : u3 = .slice A3 2 c3 := hv3
        subst hv3
        have HP := Lib.hid (put64 (l := [bits, 128]) v (by omega) wr HI.out.own.bs (by show 2 ≤ 100000000; omega))
        rw [show ([bits, 128]).length = 2 from rfl] at HP
        clear I
        go_wp2_with fail
        refine (HP.out).mono ?_
        rintro e w9 ⟨A9, c9, k9, rfl, h1, h2, h3, h4⟩
        have HR := Lib.hid (HI.out.put h1 h2 h3 h4)
        clear h1 h2 h3 h4 HP
        go_wp2_with fail
        go_roundw
        case rel => exact ⟨1, by omega, by congr 1, _, .inr hsz, HR.out⟩
        case measure => simp [intOf]
      | 1, _ =>
        have c0 := cell_blk ((I.below.block _ (lt_of_blk H3.out)).trans H3.out) 1
        simp only [List.getElem?_toArray, List.getElem?_cons_zero, List.getElem?_cons_succ] at c0
        have hsz := I.below.size
        have HI : Hid (IB B W wr u3 ([bits, 128] ++ be4 v)) := Lib.hid I
        obtain ⟨A3, c3, k3, hv3, -, -, -, -⟩ := I.own
        have hv3 : u3 = .slice A3 6 c3 := hv3
        subst hv3
        have HP := Lib.hid (put64 (l := [bits, 128] ++ be4 v) p (by omega) wr HI.out.own.bs (by show 6 ≤ 100000000; omega))
        rw [show ([bits, 128] ++ be4 v).length = 6 from rfl] at HP
        clear I
        go_wp2_with fail
        refine (HP.out).mono ?_
        rintro e w9 ⟨A9, c9, k9, rfl, h1, h2, h3, h4⟩
        have HR := Lib.hid (HI.out.put h1 h2 h3 h4)
        clear h1 h2 h3 h4 HP
        go_wp2_with fail
        go_roundw
        case rel => exact ⟨2, by omega, by congr 1, _, .inr hsz, HR.out⟩
        case measure => simp [intOf]
      | 2, _ =>
        have c0 := cell_blk ((I.below.block _ (lt_of_blk H3.out)).trans H3.out) 2
        simp only [List.getElem?_toArray, List.getElem?_cons_zero, List.getElem?_cons_succ] at c0
        have hsz := I.below.size
        have HI : Hid (IB B W wr u3 ([bits, 128] ++ be4 v ++ be4 p)) := Lib.hid I
        obtain ⟨A3, c3, k3, hv3, -, -, -, -⟩ := I.own
        have hv3 : u3 = .slice A3 10 c3 := hv3
        subst hv3
        have HP := Lib.hid (put64 (l := [bits, 128] ++ be4 v ++ be4 p) 0 (by omega) wr HI.out.own.bs (by show 10 ≤ 100000000; omega))
        rw [show ([bits, 128] ++ be4 v ++ be4 p).length = 10 from rfl] at HP
        clear I
        go_wp2_with fail
        refine (HP.out).mono ?_
        rintro e w9 ⟨A9, c9, k9, rfl, h1, h2, h3, h4⟩
        have HR := Lib.hid (HI.out.put h1 h2 h3 h4)
        clear h1 h2 h3 h4 HP
        go_wp2_with fail
        go_roundw
        case rel => exact ⟨3, by omega, by congr 1, _, .inr hsz, HR.out⟩
        case measure => simp [intOf]
      | 3, _ =>
        have I : IB B W wr u3 ([bits, 128] ++ be4 v ++ be4 p ++ be4 0) := I
        have hBW : W.heap.size ≤ B := by rcases hB with h | h; cases h; exact h
        have hlow := I.low
        have hsz := I.below.size
        have hcell : ∀ j u, (row8 (adr16 x))[j]? = some u → wr.cell? ((⟨w.heap.size, 0, none⟩ : Addr).add j) = some u := by
          intro j u hu
          have hj := (List.getElem?_eq_some_iff.1 hu).1
          have hh : (row8 (adr16 x) ++ [.int .u8 (bits : Int), .bool true, .bool false, .int .u32 (v : Int), .int .u32 (p : Int)])[j]? = some u := by rw [List.getElem?_append_left hj]; exact hu
          rw [Addr.add_mid, Nat.zero_add, cell_blk ((I.below.block _ (lt_of_blk H0.out)).trans H0.out)]
          show (List.toArray _)[j]? = some u
          rw [List.getElem?_toArray]
          exact hh
        have HC := Lib.hid hcell
        have HI := Lib.hid I
        obtain ⟨A3, c3, k3, hv3, -, -, -, -⟩ := I.own
        have hv3 : u3 = .slice A3 14 c3 := hv3
        subst hv3
        clear I hcell
        go_wp2_with (at_builtin; refine app8 rfl _ _ rfl B _ ([bits, 128] ++ be4 v ++ be4 p ++ be4 0) rfl HI.out.own ⟨w.heap.size, 0, none⟩ 16 16 (adr16 x) rfl rfl (by decide) HC.out ?c3 ?c4 ?_)
        case c3 => show 14 + 16 ≤ 1000000000; omega
        case c4 => omega
        intro v5 w5 ho5 hb5
        replace ho5 : w5.ownsRow B 5 1 v5 30 (row8 (infoB x bits v p 128)) := ho5
        obtain ⟨A5, c5, rfl, hc5⟩ := own_slice2 ho5
        have hb15 : Below w.heap.size w wr := HB.out.trans (HI.out.below.mono hsw)
        have hq : w5.heap[w.heap.size + 1]? = some (.cells #[.int .u8 0, .slice none 0 0] 39 (0, 0)) := by
          have hlt := lt_of_blk H1.out
          exact (hb5.block _ (by omega)).trans ((HI.out.below.block _ hlt).trans H1.out)
        have d0 := cell_blk hq 0
        have d1 := cell_blk hq 1
        have f0 := frozen_blk hq 0
        have f1 := frozen_blk hq 1
        simp only [List.getElem?_toArray, List.getElem?_cons_zero, List.getElem?_cons_succ] at d0 d1
        have HO := Lib.hid (own_mono ho5 (Nat.le_trans hsw hBW))
        have HB5 := Lib.hid (hb15.trans (hb5.mono (Nat.le_trans hsw hBW)))
        have HQ := Lib.hid hq
        clear ho5 hb5 hq hb15 HC
        go_wp2_with fail
        refine (clip56 _ _ _ hc5 _).mono ?_
        rintro e w3 ⟨rfl, rfl⟩
        go_wp2_with fail
        obtain ⟨g0, g1⟩ := end_cells (v0 := .int .u8 (3 : Int)) (v1 := .slice A5 30 30) HQ.out
        refine bodyPost_ret (v := .agg #[.int .u8 (3 : Int), .slice A5 30 30]) ?_ rfl ?_
        · simp [results, Tryd.results8, go_sem, g0, g1]
          try rfl
        · exact made_end HO.out rfl (Nat.le_refl _) hc5 HQ.out (Nat.le_succ _) HB5.out
  · have hF1 : Go.bits BinOp.or IntKind.u8 0 128 = 128 := by decide
    have hF2 : Go.bits BinOp.or IntKind.u8 0 64 = 64 := by decide
    have hF3 : Go.bits BinOp.or IntKind.u8 128 64 = 192 := by decide
    obtain ⟨hb, h0, h1, h2, h3, hs⟩ := four_new w (.cells #[.int .u8 (x 0 : Int), .int .u8 (x 1 : Int), .int .u8 (x 2 : Int), .int .u8 (x 3 : Int), .int .u8 (x 4 : Int), .int .u8 (x 5 : Int), .int .u8 (x 6 : Int), .int .u8 (x 7 : Int), .int .u8 (x 8 : Int), .int .u8 (x 9 : Int), .int .u8 (x 10 : Int), .int .u8 (x 11 : Int), .int .u8 (x 12 : Int), .int .u8 (x 13 : Int), .int .u8 (x 14 : Int), .int .u8 (x 15 : Int), .int .u8 (bits : Int), .bool true, .bool true, .int .u32 (v : Int), .int .u32 (p : Int)] 30) (.cells #[.int .u8 0, .slice none 0 0] 39) (.cells #[.int .u8 (bits : Int), .int .u8 192] 5) (.cells #[.int .u32 (v : Int), .int .u32 (p : Int), .int .u32 0] 28)
    obtain ⟨W, hW⟩ : ∃ W, W = (((w.alloc (.cells #[.int .u8 (x 0 : Int), .int .u8 (x 1 : Int), .int .u8 (x 2 : Int), .int .u8 (x 3 : Int), .int .u8 (x 4 : Int), .int .u8 (x 5 : Int), .int .u8 (x 6 : Int), .int .u8 (x 7 : Int), .int .u8 (x 8 : Int), .int .u8 (x 9 : Int), .int .u8 (x 10 : Int), .int .u8 (x 11 : Int), .int .u8 (x 12 : Int), .int .u8 (x 13 : Int), .int .u8 (x 14 : Int), .int .u8 (x 15 : Int), .int .u8 (bits : Int), .bool true, .bool true, .int .u32 (v : Int), .int .u32 (p : Int)] 30)).alloc (.cells #[.int .u8 0, .slice none 0 0] 39)).alloc (.cells #[.int .u8 (bits : Int), .int .u8 192] 5)).alloc (.cells #[.int .u32 (v : Int), .int .u32 (p : Int), .int .u32 0] 28) := ⟨_, rfl⟩
    rw [← hW] at hb h0 h1 h2 h3 hs
    have H0 := Lib.hid h0
    have H1 := Lib.hid h1
    have H3 := Lib.hid h3
    have HB := Lib.hid hb
    have HI0 : Hid (IB w.heap.size W W (.slice (some ⟨w.heap.size + 1 + 1, 0, none⟩) 2 2) [bits, 192]) := Lib.hid ⟨OwnC.of_own (blk_own (l := [bits, 192]) h2 (base := w.heap.size) (by omega) (by simp)), Below.refl _ _, hb.size⟩
    have hsw : w.heap.size ≤ W.heap.size := hb.size
    clear hb h0 h1 h2 h3 hs
    go_wp2_with fail
    rw [← hW]
    clear hW hF1 hF2 hF3
    go_loopw [3, 30] (fun v3 i wr => ∃ k : Nat, k ≤ 3 ∧ i = .int .i64 k ∧ ∃ B, (k = 0 ∨ W.heap.size ≤ B) ∧ IB B W wr v3 ([bits, 192] ++ (be4 v ++ be4 p ++ be4 0).take (4 * k))) (fun _ i _ => 3 - (intOf i).toNat)
    case atStart => exact ⟨0, by omega, rfl, _, .inl rfl, HI0.out⟩
    case round =>
      clear HI0
      obtain ⟨k, hk, rfl, B, hB, I⟩ := hrel
      match k, hk with
      | 0, _ =>
        have c0 := cell_blk ((I.below.block _ (lt_of_blk H3.out)).trans H3.out) 0
        simp only [List.getElem?_toArray, List.getElem?_cons_zero, List.getElem?_cons_succ] at c0
        have hsz := I.below.size
        have HI : Hid (IB B W wr u3 ([bits, 192])) := Lib.hid I
        obtain ⟨A3, c3, k3, hv3, -, -, -, -⟩ := I.own
        have hv3 : u3 = .slice A3 2 c3 := hv3
        subst hv3
        have HP := Lib.hid (put64 (l := [bits, 192]) v (by omega) wr HI.out.own.bs (by show 2 ≤ 100000000; omega))
        rw [show ([bits, 192]).length = 2 from rfl] at HP
        clear I
        go_wp2_with fail
        refine (HP.out).mono ?_
        rintro e w9 ⟨A9, c9, k9, rfl, h1, h2, h3, h4⟩
        have HR := Lib.hid (HI.out.put h1 h2 h3 h4)
        clear h1 h2 h3 h4 HP
        go_wp2_with fail
        go_roundw
        case rel => exact ⟨1, by omega, by congr 1, _, .inr hsz, HR.out⟩
        case measure => simp [intOf]
      | 1, _ =>
        have c0 := cell_blk ((I.below.block _ (lt_of_blk H3.out)).trans H3.out) 1
        simp only [List.getElem?_toArray, List.getElem?_cons_zero, List.getElem?_cons_succ] at c0
        have hsz := I.below.size
        have HI : Hid (IB B W wr u3 ([bits, 192] ++ be4 v)) := Lib.hid I
        obtain ⟨A3, c3, k3, hv3, -, -, -, -⟩ := I.own
        have hv3 : u3 = .slice A3 6 c3 := hv3
        subst hv3
        have HP := Lib.hid (put64 (l := [bits, 192] ++ be4 v) p (by omega) wr HI.out.own.bs (by show 6 ≤ 100000000; omega))
        rw [show ([bits, 192] ++ be4 v).length = 6 from rfl] at HP
        clear I
        go_wp2_with fail
        refine (HP.out).mono ?_
        rintro e w9 ⟨A9, c9, k9, rfl, h1, h2, h3, h4⟩
        have HR := Lib.hid (HI.out.put h1 h2 h3 h4)
        clear h1 h2 h3 h4 HP
        go_wp2_with fail
        go_roundw
        case rel => exact ⟨2, by omega, by congr 1, _, .inr hsz, HR.out⟩
        case measure => simp [intOf]
      | 2, _ =>
        have c0 := cell_blk ((I.below.block _ (lt_of_blk H3.out)).trans H3.out) 2
        simp only [List.getElem?_toArray, List.getElem?_cons_zero, List.getElem?_cons_succ] at c0
        have hsz := I.below.size
        have HI : Hid (IB B W wr u3 ([bits, 192] ++ be4 v ++ be4 p)) := Lib.hid I
        obtain ⟨A3, c3, k3, hv3, -, -, -, -⟩ := I.own
        have hv3 : u3 = .slice A3 10 c3 := hv3
        subst hv3
        have HP := Lib.hid (put64 (l := [bits, 192] ++ be4 v ++ be4 p) 0 (by omega) wr HI.out.own.bs (by show 10 ≤ 100000000; omega))
        rw [show ([bits, 192] ++ be4 v ++ be4 p).length = 10 from rfl] at HP
        clear I
        go_wp2_with fail
        refine (HP.out).mono ?_
        rintro e w9 ⟨A9, c9, k9, rfl, h1, h2, h3, h4⟩
        have HR := Lib.hid (HI.out.put h1 h2 h3 h4)
        clear h1 h2 h3 h4 HP
        go_wp2_with fail
        go_roundw
        case rel => exact ⟨3, by omega, by congr 1, _, .inr hsz, HR.out⟩
        case measure => simp [intOf]
      | 3, _ =>
        have I : IB B W wr u3 ([bits, 192] ++ be4 v ++ be4 p ++ be4 0) := I
        have hBW : W.heap.size ≤ B := by rcases hB with h | h; cases h; exact h
        have hlow := I.low
        have hsz := I.below.size
        have hcell : ∀ j u, (row8 (adr16 x))[j]? = some u → wr.cell? ((⟨w.heap.size, 0, none⟩ : Addr).add j) = some u := by
          intro j u hu
          have hj := (List.getElem?_eq_some_iff.1 hu).1
          have hh : (row8 (adr16 x) ++ [.int .u8 (bits : Int), .bool true, .bool true, .int .u32 (v : Int), .int .u32 (p : Int)])[j]? = some u := by rw [List.getElem?_append_left hj]; exact hu
          rw [Addr.add_mid, Nat.zero_add, cell_blk ((I.below.block _ (lt_of_blk H0.out)).trans H0.out)]
          show (List.toArray _)[j]? = some u
          rw [List.getElem?_toArray]
          exact hh
        have HC := Lib.hid hcell
        have HI := Lib.hid I
        obtain ⟨A3, c3, k3, hv3, -, -, -, -⟩ := I.own
        have hv3 : u3 = .slice A3 14 c3 := hv3
        subst hv3
        clear I hcell
        go_wp2_with (at_builtin; refine app8 rfl _ _ rfl B _ ([bits, 192] ++ be4 v ++ be4 p ++ be4 0) rfl HI.out.own ⟨w.heap.size, 0, none⟩ 16 16 (adr16 x) rfl rfl (by decide) HC.out ?c3 ?c4 ?_)
        case c3 => show 14 + 16 ≤ 1000000000; omega
        case c4 => omega
        intro v5 w5 ho5 hb5
        replace ho5 : w5.ownsRow B 5 1 v5 30 (row8 (infoB x bits v p 192)) := ho5
        obtain ⟨A5, c5, rfl, hc5⟩ := own_slice2 ho5
        have hb15 : Below w.heap.size w wr := HB.out.trans (HI.out.below.mono hsw)
        have hq : w5.heap[w.heap.size + 1]? = some (.cells #[.int .u8 0, .slice none 0 0] 39 (0, 0)) := by
          have hlt := lt_of_blk H1.out
          exact (hb5.block _ (by omega)).trans ((HI.out.below.block _ hlt).trans H1.out)
        have d0 := cell_blk hq 0
        have d1 := cell_blk hq 1
        have f0 := frozen_blk hq 0
        have f1 := frozen_blk hq 1
        simp only [List.getElem?_toArray, List.getElem?_cons_zero, List.getElem?_cons_succ] at d0 d1
        have HO := Lib.hid (own_mono ho5 (Nat.le_trans hsw hBW))
        have HB5 := Lib.hid (hb15.trans (hb5.mono (Nat.le_trans hsw hBW)))
        have HQ := Lib.hid hq
        clear ho5 hb5 hq hb15 HC
        go_wp2_with fail
        refine (clip56 _ _ _ hc5 _).mono ?_
        rintro e w3 ⟨rfl, rfl⟩
        go_wp2_with fail
        obtain ⟨g0, g1⟩ := end_cells (v0 := .int .u8 (3 : Int)) (v1 := .slice A5 30 30) HQ.out
        refine bodyPost_ret (v := .agg #[.int .u8 (3 : Int), .slice A5 30 30]) ?_ rfl ?_
        · simp [results, Tryd.results8, go_sem, g0, g1]
          try rfl
        · exact made_end HO.out rfl (Nat.le_refl _) hc5 HQ.out (Nat.le_succ _) HB5.out
end Go.Proofs.YtfolamkjlgpgmabDoor
