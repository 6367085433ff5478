/- PrefixesHold, where the first prefix is learnt. No condition. -/
import Derived.Test.YtkhbchgocilclaaHoldRound
import Derived.Test.YtkhbchgocilclaaHoldRest
namespace Go.Proofs.Ytkhbchgocilclaa
open Go.RowKit
set_option linter.unusedVariables false
set_option maxRecDepth 100000 in
set_option maxHeartbeats 20000000 in
theorem hold_yes (i : Info) (p : Option Addr) (len cap : Nat) (o : Nat → Info) (a : Nat → Nat) (w : World) (hA : ActsAt w w.heap.size p len o) (ok : i.Ok) (hlen : len ≤ 100) (hv : i.v ≠ 0) (hn : i.n ≤ 128) (ha : ∀ j, j < 16 → a j < 256) (hl : linkB i.a = false) (hm0 : manyB i.a = false) :
    Calls Try.prog 3 #[.agg i.cells, .slice p len cap, .agg (adrCells a)] w fun e w' => e = .returned (.bool true) ∧ Below w.heap.size w w' := by
  have HB0 := Lib.hid (Boxed.mk' i a w)
  have t1 : decide ((100 : Int) < len) = false := by simp; omega
  have c19 := HB0.out.c19
  have c16 := HB0.out.c16
  have t2 : decide ((i.v : Int) = 0) = false := by simp; omega
  have t3 : decide ((128 : Int) < i.n) = false := by simp; omega
  have hyes : learnOk ({ i with on := true } : Info) (.map []) = true := by
    rw [learnOk_first (i := { i with on := true }) rfl hn hv]
    show (!linkB i.a && !manyB i.a) = true
    rw [hl, hm0]; rfl
  go_enter Try.func3, Try.ntmps3
  go_wp2_with fail
  generalize (w.alloc (.cells i.cells 28)).alloc (.cells (adrCells a) 23) = w1 at *
  refine (new_any w1).mono ?_
  rintro e w2 ⟨b, mb, rfl, hb, hle, hne, hm⟩
  have hB1 := HB0.out
  have hH : Held i a w.heap.size (w.heap.size + 1) b mb (.map []) w w2 :=
    ⟨hB1.step hb.below, hb.get, hm, by have := hb.new; have := hB1.below.size; omega, by have := hB1.below.size; omega⟩
  have HH := Lib.hid hH
  have hO := HH.out.setOn true
  have HO := Lib.hid hO
  have HR := Lib.hid (range_L hO.h1)
  have c17 := hH.c17
  have f17 := frozen_blk hH.h1 17
  clear HB0 c19 c16 t1 t2 t3 hb hB1 hH hO
  go_wp2_with (refine wpList_load_mid rfl 28 _ rfl w.heap.size 0 rfl ({ i with on := true } : Info).L _ HR.out Try.underlying28 rfl (info28 _) ?_)
  have hO := HO.out
  have ok1 : ({ i with on := true } : Info).Ok := ⟨ok.a, ok.n, ok.v⟩
  clear HH HR c17 f17 hm HO
  generalize w2.setCell { block := w.heap.size, off := 17 } (Value.bool true) = w3 at *
  obtain ⟨B1, hB1⟩ : ∃ B, B = w.heap.size := ⟨_, rfl⟩
  obtain ⟨B2, hB2⟩ : ∃ B, B = w.heap.size + 1 := ⟨_, rfl⟩
  have hO : Held { i with on := true } a B1 B2 b mb (.map []) w w3 := by rw [hB1, hB2]; exact hO
  rw [← hB2, ← hB1]
  have N1 := Lib.hid hB1; have N2 := Lib.hid hB2; clear hB1 hB2
  refine (learn_any _ b mb 0 (.map []) w3 ok1 (by decide) hO.hb hO.map (by decide)).mono ?_
  rw [hyes]
  rintro e w4 ⟨rfl, L4⟩
  have H4 := Lib.hid (hO.learnt L4)
  have hk : Maps.has (learnD ({ i with on := true } : Info) 0 (.map [])) ({ i with on := true } : Info).key = true := first_has hyes hv
  have hlok : LOk (learnD ({ i with on := true } : Info) 0 (.map [])) := lok_empty.learn ok1
  generalize learnD ({ i with on := true } : Info) 0 (.map []) = D at *
  have HK := Lib.hid hk; have HLOK := Lib.hid hlok; have HYES := Lib.hid hyes
  have c16 := H4.out.c16
  clear hO L4 hyes hk hlok
  have on1 : ({ i with on := true } : Info).on = true := rfl
  have n1 : ({ i with on := true } : Info).n ≤ 128 := hn
  have v1 : ({ i with on := true } : Info).v ≠ 0 := hv
  have l1 : linkB ({ i with on := true } : Info).a = false := hl
  have m1 : manyB ({ i with on := true } : Info).a = false := hm0
  have k1 : Maps.has D ({ i with on := true } : Info).key = true := HK.out
  have hlen9 := hlen
  clear HK hv hn hl hm0 hlen ok
  generalize ({ i with on := true } : Info) = i1 at *
  have V1 := Lib.hid v1; have L1 := Lib.hid l1; have M1 := Lib.hid m1; have K1 := Lib.hid k1; have O1 := Lib.hid on1
  clear v1 l1 m1 k1 on1
  go_wp2_with fail
  clear c16
  have hx0 : ∀ j, j < 16 → a j < 256 := ha
  go_loopw [9] (fun k wr => ∃ (k' : Nat) (x : Nat → Nat), k' ≤ 16 ∧ k = .int .i64 k' ∧ (∀ j, j < 16 → x j < 256) ∧ agree x i1.a (min (8 * k') i1.n) ∧ Held i1 x B1 B2 b mb D w wr) (fun k _ => 16 - (intOf k).toNat)
  case atStart => exact ⟨0, a, by omega, rfl, ha, by rw [show min (8 * 0) i1.n = 0 from by omega]; exact agree_zero ha ok1.a, H4.out⟩
  case round =>
    clear H4
    obtain ⟨k, x, hk, rfl, hx, hag, I⟩ := hrel
    by_cases hlt : k < 16
    · go_wp2_with fail
      go_loopw [10] (fun j wr => ∃ (j' : Nat) (x : Nat → Nat), j' ≤ 8 ∧ j = .int .i64 j' ∧ (∀ j, j < 16 → x j < 256) ∧ agree x i1.a (min (8 * k + j') i1.n) ∧ Held i1 x B1 B2 b mb D w wr) (fun j _ => 8 - (intOf j).toNat)
      case atStart => exact ⟨0, x, by omega, rfl, hx, by rw [Nat.add_zero]; exact hag, I⟩
      case round =>
        clear I hag hx
        obtain ⟨j, x, hj, rfl, hx, hag, I⟩ := hrel
        by_cases hjlt : j < 8
        · by_cases hin : 8 * k + j < i1.n
          · have hc1 := cell_blk I.h2 k
            rw [adrCells_get _ hlt] at hc1
            have hf := frozen_blk I.h2 k
            have hc2 := range_adrI I.h1 k (.int .u8 (i1.a k : Int)) (by have := adrCells_get i1.a hlt; simpa [adrCells] using this)
            rw [Nat.zero_add] at hc2
            have hxk := hx k hlt
            have hpk := ok1.a k hlt
            have HX := Lib.hid hx; have HAG := Lib.hid hag; have HI := Lib.hid I
            clear hx hag I
            have hinI : (8 * (k : Int) + j < i1.n) := by omega
            go_wp2_with fail
            go_region
            rw [bitOf_bits hxk hpk hjlt]
            have I9 : Held i1 (fun y => if y = k then bitOf (x k) (i1.a k) j else x y) B1 B2 b mb D w ((wr.setCell { block := B2, off := k } (.int .u8 (bitOf (x k) (i1.a k) j : Nat))).drew) := by
              have t := Turned.setCell HI.out.h2 k (.int .u8 (bitOf (x k) (i1.a k) j : Nat))
              rw [adrCells_set _ _ _ hlt] at t
              exact HI.out.turned2 t.drew
            have hx9 := agree_bit_lt HX.out ok1.a hlt hjlt
            have ha9 : agree (fun y => if y = k then bitOf (x k) (i1.a k) j else x y) i1.a (min (8 * k + (j + 1)) i1.n) := by
              rw [Nat.min_eq_left (by omega)]
              have := HAG.out
              rw [Nat.min_eq_left (by omega)] at this
              exact agree_bit HX.out ok1.a hlt hjlt this
            clear HI HAG HX hc1 hc2 hf hinI
            have HA9 := Lib.hid ha9; have HX9 := Lib.hid hx9; clear ha9 hx9
            go_wp2_with fail
            go_roundw
            case rel => exact ⟨j + 1, _, by omega, by go_num, HX9.out, HA9.out, I9⟩
            case measure => simp [intOf]; omega
          · have hinI : ¬ (8 * (k : Int) + j < i1.n) := by omega
            have ha9 : agree x i1.a (min (8 * k + (j + 1)) i1.n) := by
              rw [Nat.min_eq_right (by omega)] at hag ⊢; exact hag
            have HA9 := Lib.hid ha9; have HX9 := Lib.hid hx; clear ha9 hx hag
            go_wp2_with fail
            go_roundw
            case rel => exact ⟨j + 1, _, by omega, by go_num, HX9.out, HA9.out, I⟩
            case measure => simp [intOf]; omega
        · obtain rfl : j = 8 := by omega
          have HA9 := Lib.hid hag; have HX9 := Lib.hid hx; clear hx hag
          go_wp2_with fail
          go_roundw
          case rel => exact ⟨k + 1, x, by omega, by go_num, HX9.out, by have := HA9.out; rwa [show 8 * (k + 1) = 8 * k + 8 from by omega], I⟩
          case measure => simp [intOf]; omega
    · obtain rfl : k = 16 := by omega
      have hag2 : agree x i1.a i1.n := by rw [Nat.min_eq_right (by omega)] at hag; exact hag
      have HA := Lib.hid hag2; have HX := Lib.hid hx; have HI := Lib.hid I
      clear hag hag2 hx I
      go_wp2_with fail
      have hmk := Lib.hid (show Held i1 x B1 B2 b mb D w wr ∧ LOk D ∧ Maps.has D i1.key = true from ⟨HI.out, HLOK.out, K1.out⟩)
      clear HI HLOK K1
      have HEND := Lib.hid (has_of_agree (D := D) HX.out ok1 n1)
      go_loopw [12] (fun k wr => ∃ (k' : Nat) (D : PD), k' ≤ len ∧ k = .int .i64 k' ∧ Held i1 x B1 B2 b mb D w wr ∧ LOk D ∧ Maps.has D i1.key = true) (fun k _ => len - (intOf k).toNat)
      case atStart => exact ⟨0, D, by omega, rfl, hmk.out⟩
      case round =>
        clear hmk HEND
        obtain ⟨k, D, hk, rfl, I, hlok, hkey⟩ := hrel
        have HLOK := Lib.hid hlok; have HKEY := Lib.hid hkey; have HI := Lib.hid I
        clear hlok hkey I
        by_cases hlt : k < len
        · refine hold_round hA HI HLOK HKEY ok1 hlt hlen9 (fun c a a' W h => (by cases (show _ ∧ (_ = _) ∧ _ from h).2.1)) ?_
          clear HI HLOK HKEY
          intros u13 u88 u89 u90 u91 u92 u93 u94 u95 u96 u97 u98 u99 u100 u101 u102 u103 u104 u105 u106 u107 u108 u109 u110 u111 u112 u113 u114 u115 u116 u117 u118 u119 u120 u121 u122 u123 u124 u125 u126 D W hI hL hk
          refine ⟨⟨.int .i64 ((k + 1 : Nat) : Int), u13, u88, u89, u90, u91, u92, u93, u94, u95, u96, u97, u98, u99, u100, u101, u102, u103, u104, u105, u106, u107, u108, u109, u110, u111, u112, u113, u114, u115, u116, u117, u118, u119, u120, u121, u122, u123, u124, u125, u126, ⟨k + 1, D, by omega, rfl, hI, hL, hk⟩, rfl⟩, ?_⟩
          simp [intOf]; omega
        · obtain rfl : k = len := by omega
          rename_i K1 K aR Q2 aL
          have HR := Lib.hid aR; have HL2 := Lib.hid aL
          clear aR aL
          go_wp2_with fail
          refine HR.out _ _ ?_
          exact hold_rest HI.out HLOK.out (has_of_agree HX.out ok1 n1 HLOK.out HKEY.out HA.out) ok1 HX.out n1 O1.out L1.out M1.out HA.out
end Go.Proofs.Ytkhbchgocilclaa
