/- Options put as bytes, the document's way: the walk. No condition but that they are few. -/
import Derived.Test.YtfolamkjlgpgmaaDoorRefP
import Derived.Test.YtfolamkjlgpgmaaDoorPut
namespace Go.Proofs.YtfolamkjlgpgmaaDoor
open Go.RowKit
set_option linter.unusedVariables false
set_option linter.unusedSimpArgs false
/-- a byte of a row of one's own, stored -/
theorem own_store {w : World} {base i x : Nat} {A : Option Addr} {c : Nat} {l : List Nat} (h : w.ownsRow base 5 1 (.slice A l.length c) l.length (row8 l)) (hi : i < l.length) :
    ∃ g y, A = some ⟨g, 0, none⟩ ∧ base ≤ g ∧ w.cell? ⟨g, i, none⟩ = some y ∧ w.frozen? ⟨g, i, none⟩ = false ∧ (w.setCell ⟨g, i, none⟩ (.int .u8 (x : Int))).ownsRow base 5 1 (.slice A l.length c) (l.set i x).length (row8 (l.set i x)) ∧ (∃ o, Turned g o w (w.setCell ⟨g, i, none⟩ (.int .u8 (x : Int)))) := by
  rcases h.2 with ⟨e, h0⟩ | ⟨g, cap, cur, e, hb, hg, hn, hm, hs, ht⟩
  · omega
  · cases e
    rw [Nat.mul_one] at hs ht
    have t := Turned.setCell hg i (.int .u8 (x : Int))
    refine ⟨g, cur[i]'(by omega), rfl, hb, by rw [cell_blk hg, Array.getElem?_eq_getElem (by omega)], frozen_blk hg i, ⟨by rw [row8_length, Nat.mul_one], .inr ⟨g, c, _, by rw [List.length_set], hb, t.get (lt_of_blk hg), by rw [List.length_set]; exact hn, hm, by rw [Array.size_setIfInBounds, Nat.mul_one]; exact hs, ?_⟩⟩, _, t⟩
    rw [Array.toList_setIfInBounds, List.length_set, Nat.mul_one, List.take_set, ht]
    unfold row8
    rw [List.map_set]
/-- the bytes of one option, so far -/
structure RB (wc W : World) (v : Value) (bs : List Nat) : Prop where
  own : W.ownsRow wc.heap.size 5 1 v bs.length (row8 bs)
  below : Below wc.heap.size wc W
def RefPutPost (bs : List Nat) (w : World) (e : Ending) (w' : World) : Prop := ∃ A c, e = .returned (.slice A bs.length c) ∧ w'.ownsRow w.heap.size 5 1 (.slice A bs.length c) bs.length (row8 bs) ∧ Below w.heap.size w w'
set_option maxRecDepth 100000 in
set_option maxHeartbeats 4000000 in
theorem refPut23 {A : Option Addr} {cap : Nat} {L : List Opt} (w : World) (h : OptsAt w w.heap.size A L) (htot : L.length + totD L ≤ 5000) :
    Calls Tryd.prog 23 #[.slice A L.length cap] w (RefPutPost (putB L) w) := by
  obtain ⟨i5, hi, hz0, hz1, hz2⟩ := info_parts info5
  obtain ⟨n, hn⟩ : ∃ n, L.length = n := ⟨_, rfl⟩
  have HN := Lib.hid hn
  have HO := Lib.hid h
  rw [hn] at htot ⊢
  clear h hn
  go_enter Tryd.func23, Tryd.ntmps23
  go_wp2_with fail
  go_loopw [3, 4] (fun v i wr => ∃ k : Nat, k ≤ n ∧ i = .int .i64 k ∧ wr.ownsRow w.heap.size 5 1 v (putB (L.take k)).length (row8 (putB (L.take k))) ∧ Below w.heap.size w wr) (fun _ i _ => n - (intOf i).toNat)
  case atStart => exact ⟨0, Nat.zero_le _, rfl, World.ownsRow_nil _ _ _ _, Below.refl _ _⟩
  case round =>
    obtain ⟨k, hk, rfl, hown, hB⟩ := hrel
    obtain ⟨Y, hY⟩ : ∃ Y, Y = wr := ⟨_, rfl⟩
    subst hY
    by_cases hlt : k < n
    · obtain ⟨x, hx⟩ : ∃ x, L[k]? = some x := ⟨L[k]'(by rw [HN.out]; exact hlt), List.getElem?_eq_getElem _⟩
      have hOB := HO.out.below hB
      obtain ⟨b, o, rfl, hb, hc⟩ := hOB.at_ (by rintro rfl; simp at hx)
      obtain ⟨c0, c1⟩ := hc k x hx
      have hx2 := hOB.each x (List.mem_of_getElem? hx)
      have HX := Lib.hid hx
      have HX2 := Lib.hid hx2
      have HOW := Lib.hid hown
      have HB := Lib.hid hB
      obtain ⟨m, hm⟩ : ∃ m, min x.data.length 2038 = m := ⟨_, rfl⟩
      obtain ⟨E, hE⟩ : ∃ E, eightsO x.data.length = E := ⟨_, rfl⟩
      have hcap := hx2.1.cap
      have hmc : m ≤ x.cap := by omega
      have hbd := eights_bd x.data.length
      rw [hE, hm] at hbd
      have HM := Lib.hid hm
      have HE := Lib.hid hE
      have hm3 : m ≤ 2038 := by omega
      clear hx hc hx2 hOB hown hB hm hE
      go_upto_if 20 with (fail)
      go_cut [5] (fun v wx => v = .slice x.adr m x.cap ∧ wx = Y)
      case first =>
        by_cases hle : x.data.length ≤ 2038
        · have hle2 : ¬ ((2038 : Int) < x.data.length) := by omega
          go_wp2_with fail
          all_goals
            go_meet
            case rel => exact ⟨by have := HM.out; congr 1; omega, rfl⟩
        · have hle2 : 2038 ≤ x.cap := by omega
          go_wp2_with fail
          all_goals
            go_meet
            case rel => exact ⟨by have := HM.out; congr 1; omega, rfl⟩
      case rest =>
        obtain ⟨rfl, hw⟩ := hcut
        replace hw := hw.symm
        subst hw
        go_wp2_with (at_builtin; refine wpList_append_own _ rfl _ _ 22 rfl Y.heap.size 5 i5 (.int .u8 0) 1 1 Tryd.underlying22 hi hz0 hz1 hz2 rfl (by decide) _ 0 [] rfl (World.ownsRow_nil _ _ _ _) ⟨Y.heap.size, 0, none⟩ 2 2 (row8 [x.kind, 0]) rfl rfl ?c2 (row8_one _) ?c3 ?c4 ?c5 ?_)
        case c2 =>
          intro j u hj
          rw [Addr.add_mid, Nat.zero_add]
          have c := cell_blk (heap_alloc_new Y (.cells #[.int .u8 (x.kind : Int), .int .u8 0] 5)) j
          exact c.trans (by simpa [row8] using hj)
        case c3 => unfold maxLen; omega
        case c4 => omega
        case c5 => simp
        intro v1 w1 ho1 hg1 _
        have hb1 : Below Y.heap.size Y w1 := Below.grown' ((Below.refl _ _).alloc (Nat.le_refl _) _) hg1 (by simp) (fun k hk => by cases hk)
        have HR1 : Hid (RB Y w1 v1 [x.kind, 0]) := Lib.hid ⟨ho1, hb1⟩
        obtain ⟨A1, q1, rfl, -⟩ := own_slice2 ho1
        obtain ⟨D, hD⟩ : ∃ D, D = [x.kind, 0] ++ x.data.take 2038 := ⟨_, rfl⟩
        have HDL : Hid (D.length = 2 + m) := Lib.hid (by rw [hD, ← HM.out]; simp; omega)
        have HDD := Lib.hid hD
        clear ho1 hg1 hb1 c0 c1 hD
        obtain ⟨V, hV⟩ : ∃ V, V = Value.slice x.adr m x.cap := ⟨_, rfl⟩
        rw [← hV]
        have HV := Lib.hid hV
        clear hV
        go_upto_region 10 with (fail)
        go_cut [6] (fun v wx => RB Y wx v D)
        case first =>
          have hbx := (HX2.out.1.below (HR1.out.below.mono HB.out.size))
          rcases hax : x.adr with _ | a
          · rw [hax] at hbx
            obtain ⟨hx0, hx00⟩ := hbx.nil rfl
            have hm0 : m = 0 := by have := HM.out; rw [hx0] at this; simp at this; omega
            have HR2 : Hid (RB Y w1 (.slice A1 2 q1) D) := Lib.hid (by have := HR1.out; rw [HDD.out, hx0]; exact this)
            have HV2 : Hid (V = .slice none 0 0) := Lib.hid (by rw [HV.out, hax, hx00, hm0])
            clear hbx hx0 hax hx00 hm0
            go_wp2_with (at_builtin; refine wpList_append_own_none rfl _ _ 22 rfl Y.heap.size 5 i5 1 Tryd.underlying22 hi _ _ _ rfl HR1.out.own HV2.out ?_)
            go_meet
            case rel => exact HR2.out
          · have hd : ∀ j u, (row8 (x.data.take 2038))[j]? = some u → w1.cell? (a.add j) = some u := by
              intro j u hu
              obtain ⟨y, hy, rfl⟩ := row8_inv hu
              have hy2 : x.data[j]? = some y := by
                rw [List.getElem?_take] at hy
                split at hy
                · exact hy
                · cases hy
              obtain ⟨b', o', e, hb, hc⟩ := hbx.rd (by intro e; rw [e] at hy2; simp at hy2)
              rw [hax] at e
              cases e
              have hadd : (⟨b', o', none⟩ : Addr).add j = ⟨b', o' + j, none⟩ := by unfold Addr.add; split <;> simp_all
              rw [hadd]
              exact hc j y hy2
            have HD := Lib.hid hd
            have HL : Hid ((row8 (x.data.take 2038)).length = m * 1) := Lib.hid (by rw [row8_length, List.length_take, ← HM.out]; omega)
            have HV2 : Hid (V = .slice (some a) m x.cap) := Lib.hid (by rw [HV.out, hax])
            clear hd hbx hax
            have hsz := HR1.out.below.size
            go_wp2_with (at_builtin; refine wpList_append_own _ rfl _ _ 22 rfl Y.heap.size 5 i5 (.int .u8 0) 1 1 Tryd.underlying22 hi hz0 hz1 hz2 rfl (by decide) _ 2 (row8 [x.kind, 0]) rfl HR1.out.own a m x.cap (row8 (x.data.take 2038)) HV2.out HL.out HD.out (row8_one _) ?c3 ?c4 ?c5 ?_)
            case c3 => unfold maxLen; omega
            case c4 => omega
            case c5 => exact hsz
            intro v2 w2 ho2 hg2 _
            have HR2 : Hid (RB Y w2 v2 D) := Lib.hid ⟨by rw [HDL.out, HDD.out, row8_append]; exact ho2, Below.grown' HR1.out.below hg2 hsz (fun k hk => (HR1.out.own.lt k hk).1)⟩
            clear ho2 hg2
            go_wp2_with fail
            go_meet
            case rel => exact HR2.out
        case rest =>
          have HP := Lib.hid hcut
          have hszw := HB.out.size
          clear hcut HR1
          go_wp2_with fail
          go_loopw [6] (fun v W => ∃ z, RB Y W v (D ++ List.replicate z 0) ∧ 2 + m + z ≤ 8 * E) (fun v _ => match v with | .slice _ q _ => 8 * E - q | _ => 0)
          case atStart => exact ⟨0, by simpa using HP.out, by omega⟩
          case round =>
            clear HP
            obtain ⟨z, hR, hz⟩ := hrel
            obtain ⟨q, hq⟩ : ∃ q, (D ++ List.replicate z 0).length = q := ⟨_, rfl⟩
            have hq2 : q = 2 + m + z := by rw [← hq, List.length_append, HDL.out, List.length_replicate]
            obtain ⟨A3, c3, rfl, hqc⟩ := own_slice2 hR.own
            have HR := Lib.hid hR
            have hsz3 := hR.below.size
            rw [hq] at hqc ⊢
            have HQ := Lib.hid hq
            have HQ2 := Lib.hid hq2
            have hqE : q ≤ 8 * E := by omega
            have hqL : 8 * E ≤ q + 7 := by omega
            clear hR hq hz hq2
            by_cases hlt2 : q < 8 * E
            · have t1 : ((q : Int).tmod 8 != 0) = true := by rw [Int.tmod_eq_emod_of_nonneg (by omega), bne_iff_ne]; omega
              have t2 : ¬ ((q : Int) % 8 = 0) := by omega
              have HRO : Hid (World.ownsRow wr Y.heap.size 5 1 (.slice A3 q c3) q (row8 (D ++ List.replicate z 0))) := Lib.hid (by have := HR.out.own; rw [HQ.out] at this; exact this)
              go_wp2_with (at_builtin; refine wpList_append_own _ rfl _ _ 22 rfl Y.heap.size 5 i5 (.int .u8 0) 1 1 Tryd.underlying22 hi hz0 hz1 hz2 rfl (by decide) _ q _ rfl (HRO.out.alloc _) ⟨_, 0, none⟩ 1 1 (row8 [0]) rfl rfl ?d2 (row8_one _) ?d3 ?d4 ?d5 ?_)
              case d2 =>
                intro j u hj
                rw [Addr.add_mid, Nat.zero_add]
                have c := cell_blk (heap_alloc_new wr (.cells #[.int .u8 0] 5)) j
                exact c.trans (by simpa [row8] using hj)
              case d3 => unfold maxLen; omega
              case d4 => omega
              case d5 => simp; omega
              intro v4 w4 ho4 hg4 _
              have hal : Below wr.heap.size wr (wr.alloc (.cells #[.int .u8 0] 5)) := (Below.refl _ _).alloc (Nat.le_refl _) _
              have e4 : D ++ List.replicate (z + 1) 0 = (D ++ List.replicate z 0) ++ [0] := by rw [List.replicate_succ', List.append_assoc]
              have HR4 : Hid (RB Y w4 v4 (D ++ List.replicate (z + 1) 0)) := Lib.hid ⟨by rw [e4, row8_append, List.length_append, HQ.out]; exact ho4, Below.grown' (HR.out.below.trans (hal.mono hsz3)) hg4 (by simp; omega) (fun k hk => by have := (HRO.out.alloc (.cells #[.int .u8 0] 5)).lt k hk; omega)⟩
              obtain ⟨A4, c4, rfl, -⟩ := own_slice2 ho4
              clear ho4 hg4 hal e4
              go_wp2_with fail
              go_roundw
              case rel => exact ⟨z + 1, HR4.out, by have := HQ2.out; omega⟩
              case measure => simp; omega
            · have hqe : q = 8 * E := by omega
              have t1 : ((q : Int).tmod 8 != 0) = false := by rw [Int.tmod_eq_emod_of_nonneg (by omega), bne_eq_false_iff_eq]; omega
              have t2 : (q : Int) % 8 = 0 := by omega
              have t3 : (q : Int) / 8 = (E : Int) := by omega
              have t4 : (E : Int) % 256 = (E : Int) := by omega
              obtain ⟨g3, y3, hA3, hg3, k3, f3, ho3, o3, tt3⟩ := own_store (i := 1) (x := E) HR.out.own (by rw [HQ.out]; omega)
              subst hA3
              have hb3 : Below Y.heap.size Y (wr.setCell ⟨g3, 1, none⟩ (.int .u8 (E : Int))) := HR.out.below.trans (tt3.below hg3)
              have HN3 := Lib.hid (ho3.cells (g := g3) rfl)
              have HO3 := Lib.hid (own_below HOW.out hb3)
              have HB3 := Lib.hid hb3
              have HPS : Hid (putB (L.take (k + 1)) = putB (L.take k) ++ (D ++ List.replicate z 0).set 1 E) := Lib.hid (by
                have hz := HQ2.out
                rw [putB_succ HX.out, HDD.out]
                unfold optB
                rw [HE.out, HM.out, show 8 * E - 2 - m = z by omega]
                rfl)
              have HL3 : Hid (((D ++ List.replicate z 0).set 1 E).length = q) := Lib.hid (by rw [List.length_set]; exact HQ.out)
              obtain ⟨A9, c9, hu3, -, -⟩ := Bs.own HOW.out
              subst hu3
              have hfew := putB_few (L := L) (by rw [HN.out]; exact htot) (k + 1)
              rw [HPS.out, List.length_append, HL3.out] at hfew
              have hsz9 := hb3.size
              clear ho3 tt3 hb3 HR hqe
              go_wp2_with (at_builtin; refine wpList_append_own _ rfl _ _ 22 rfl w.heap.size 5 i5 (.int .u8 0) 1 1 Tryd.underlying22 hi hz0 hz1 hz2 rfl (by decide) _ _ _ rfl HO3.out ⟨g3, 0, none⟩ q c3 _ rfl ?f1 HN3.out (row8_one _) ?f3 ?f4 ?f5 ?_)
              case f1 => rw [row8_length, HL3.out]; omega
              case f3 => unfold maxLen; omega
              case f4 => omega
              case f5 => omega
              intro v5 w5 ho5 hg5 _
              have HR5 : Hid (w5.ownsRow w.heap.size 5 1 v5 (putB (L.take (k + 1))).length (row8 (putB (L.take (k + 1))))) := Lib.hid (by rw [HPS.out, List.length_append, HL3.out, row8_append]; exact ho5)
              have HB5 : Hid (Below w.heap.size w w5) := Lib.hid (Below.grown' (HB.out.trans (HB3.out.mono hszw)) hg5 (by omega) (fun k hk => (HO3.out.lt k hk).1))
              clear ho5 hg5
              go_wp2_with fail
              go_roundw
              case rel => exact ⟨k + 1, by omega, by go_num, HR5.out, HB5.out⟩
              case measure => simp [intOf]; omega
    · have e : L.take k = L := List.take_of_length_le (by rw [HN.out]; omega)
      rw [e] at hown
      obtain ⟨A2, c2, hu2, hbs, -⟩ := Bs.own hown
      subst hu2
      have HR := Lib.hid hown
      have HBR := Lib.hid hB
      clear hown hB hbs e HO
      go_wp2_with fail
      go_ret
      exact ⟨A2, c2, rfl, HR.out, HBR.out⟩
end Go.Proofs.YtfolamkjlgpgmaaDoor
