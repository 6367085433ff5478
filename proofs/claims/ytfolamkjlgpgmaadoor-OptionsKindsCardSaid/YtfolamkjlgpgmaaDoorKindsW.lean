/- The walk of OptionsKinds. No condition but that the parts read. (Printed by gKindsW.py.) -/
import Derived.Test.YtfolamkjlgpgmaaDoorRegK3
import Derived.Test.YtfolamkjlgpgmaaDoorRegK9
import Derived.Test.YtfolamkjlgpgmaaDoorRegK12
import Derived.Test.YtfolamkjlgpgmaaDoorLong
import Derived.Test.YtfolamkjlgpgmaaDoorLives
namespace Go.Proofs.YtfolamkjlgpgmaaDoor
open Go.RowKit
set_option linter.unusedVariables false
set_option linter.unusedSimpArgs false
theorem size60 : (Tryd.prog.info? 60).map (·.size) = some 38 := by kernel_rfl
theorem Bs.dropLast {w : World} {B c : Nat} {A : Option Addr} {l : List Nat} (h : Bs w B A c l) : Bs w B A c l.dropLast := by
  refine ⟨fun hl => ?_, by have := h.cap; rw [List.length_dropLast]; omega, fun e => ?_, h.max⟩
  · have hne : l ≠ [] := by rintro rfl; exact hl rfl
    obtain ⟨b, o, e, hb, hr⟩ := h.rd hne
    refine ⟨b, o, e, hb, fun k x hx => hr k x ?_⟩
    rw [List.getElem?_dropLast] at hx
    split at hx
    · exact hx
    · cases hx
  · obtain ⟨h1, h2⟩ := h.nil e
    subst h1
    exact ⟨rfl, h2⟩
/-- the options and their kinds -/
structure KS (w : World) (g kb : Nat) (T : List Opt) (W : World) : Prop where
  rows : OptsRd W W.heap.size (some ⟨g, 0, none⟩) T
  kinds : ∀ i, i < 4 → W.cell? ⟨kb, i, none⟩ = some (.int .u8 (ownK i : Int))
  below : Below w.heap.size w W
theorem KS.step {w W W' : World} {g kb : Nat} {T : List Opt} (h : KS w g kb T W) (hb : Below W.heap.size W W') : KS w g kb T W' :=
  ⟨(h.rows.below hb).mono hb.size, fun i hi => (hb.cell (p := ⟨kb, i, none⟩) (lt_of_cell (h.kinds i hi))).trans (h.kinds i hi), h.below.trans (hb.mono h.below.size)⟩
theorem KS.cells {w W : World} {g kb i : Nat} {T : List Opt} {o : Opt} (h : KS w g kb T W) (ho : T[i]? = some o) : W.cell? ⟨g, i * 2, none⟩ = some (.int .u8 (o.kind : Int)) ∧ W.cell? ⟨g, i * 2 + 1, none⟩ = some (.slice o.adr o.data.length o.cap) := by
  obtain ⟨b, oo, e, hb, hr⟩ := h.rows.at_ (by rintro rfl; simp at ho)
  cases e
  have := hr i o ho
  rw [Nat.zero_add] at this
  exact this
theorem kinds_at {W : World} {b : Nat} (h : W.heap[b]? = some (.cells #[.int .u8 1, .int .u8 3, .int .u8 5, .int .u8 25] 5 (0, 0))) : ∀ i, i < 4 → W.cell? ⟨b, i, none⟩ = some (.int .u8 (ownK i : Int)) := by
  intro i hi
  rw [cell_blk h]
  match i, hi with
  | 0, _ => rfl
  | 1, _ => rfl
  | 2, _ => rfl
  | 3, _ => rfl
set_option maxRecDepth 100000 in
set_option maxHeartbeats 16000000 in
theorem optionsKinds_walk {kd bits v p nn bC sC dC nb ns nd : Nat} {m x q : Nat → Nat} {on auto : Bool} {bA sA dA : Option Addr} {kk : Nat} {S : List (Nat → Nat)} {D : List ByteArray} (w : World) (hv : v < 4294967296) (hp : p < 4294967296) (hn : nn < 4294967296) (hm : ∀ j, j < 6 → m j < 256) (hx : ∀ j, j < 16 → x j < 256) (hbits : bits < 256)
    (hbl : nb ≤ 140737488355328)
    (hSat : S ≠ [] → ∃ b o, sA = some ⟨b, o, none⟩ ∧ b < w.heap.size ∧ ∀ i y, S[i]? = some y → ∀ j, j < 16 → w.cell? ⟨b, o + i * 16 + j, none⟩ = some (.int .u8 (y j : Int))) (hns : S.length = ns) (hsl : ns ≤ 140737488355328) (hS256 : ∀ y ∈ S, ∀ j, j < 16 → y j < 256)
    (hDat : D ≠ [] → ∃ b o, dA = some ⟨b, o, none⟩ ∧ b < w.heap.size ∧ ∀ i s, D[i]? = some s → w.cell? ⟨b, o + i, none⟩ = some (.string s)) (hnd : D.length = nd) (hdl : nd ≤ 140737488355328) (hDz : ∀ s ∈ D, s.size ≤ 140737488355328) :
    Calls Tryd.prog 7 #[.agg #[.int .u8 (kd : Int), .int .u8 (m 0 : Int), .int .u8 (m 1 : Int), .int .u8 (m 2 : Int), .int .u8 (m 3 : Int), .int .u8 (m 4 : Int), .int .u8 (m 5 : Int), .int .u8 (x 0 : Int), .int .u8 (x 1 : Int), .int .u8 (x 2 : Int), .int .u8 (x 3 : Int), .int .u8 (x 4 : Int), .int .u8 (x 5 : Int), .int .u8 (x 6 : Int), .int .u8 (x 7 : Int), .int .u8 (x 8 : Int), .int .u8 (x 9 : Int), .int .u8 (x 10 : Int), .int .u8 (x 11 : Int), .int .u8 (x 12 : Int), .int .u8 (x 13 : Int), .int .u8 (x 14 : Int), .int .u8 (x 15 : Int), .int .u8 (bits : Int), .bool on, .bool auto, .int .u32 (v : Int), .int .u32 (p : Int), .slice bA nb bC, .int .u32 (nn : Int), .int .u8 (q 0 : Int), .int .u8 (q 1 : Int), .int .u8 (q 2 : Int), .int .u8 (q 3 : Int), .int .u8 (q 4 : Int), .int .u8 (q 5 : Int), .slice sA ns sC, .slice dA nd dC], .int .u8 (kk : Int)] w fun e w' => e = .returned (.bool true) ∧ Below w.heap.size w w' := by
  obtain ⟨V, hV⟩ : ∃ V, V = w.alloc (.cells #[.int .u8 (kd : Int), .int .u8 (m 0 : Int), .int .u8 (m 1 : Int), .int .u8 (m 2 : Int), .int .u8 (m 3 : Int), .int .u8 (m 4 : Int), .int .u8 (m 5 : Int), .int .u8 (x 0 : Int), .int .u8 (x 1 : Int), .int .u8 (x 2 : Int), .int .u8 (x 3 : Int), .int .u8 (x 4 : Int), .int .u8 (x 5 : Int), .int .u8 (x 6 : Int), .int .u8 (x 7 : Int), .int .u8 (x 8 : Int), .int .u8 (x 9 : Int), .int .u8 (x 10 : Int), .int .u8 (x 11 : Int), .int .u8 (x 12 : Int), .int .u8 (x 13 : Int), .int .u8 (x 14 : Int), .int .u8 (x 15 : Int), .int .u8 (bits : Int), .bool on, .bool auto, .int .u32 (v : Int), .int .u32 (p : Int), .slice bA nb bC, .int .u32 (nn : Int), .int .u8 (q 0 : Int), .int .u8 (q 1 : Int), .int .u8 (q 2 : Int), .int .u8 (q 3 : Int), .int .u8 (q 4 : Int), .int .u8 (q 5 : Int), .slice sA ns sC, .slice dA nd dC] 60) := ⟨_, rfl⟩
  have hbx : V.heap[w.heap.size]? = some (.cells #[.int .u8 (kd : Int), .int .u8 (m 0 : Int), .int .u8 (m 1 : Int), .int .u8 (m 2 : Int), .int .u8 (m 3 : Int), .int .u8 (m 4 : Int), .int .u8 (m 5 : Int), .int .u8 (x 0 : Int), .int .u8 (x 1 : Int), .int .u8 (x 2 : Int), .int .u8 (x 3 : Int), .int .u8 (x 4 : Int), .int .u8 (x 5 : Int), .int .u8 (x 6 : Int), .int .u8 (x 7 : Int), .int .u8 (x 8 : Int), .int .u8 (x 9 : Int), .int .u8 (x 10 : Int), .int .u8 (x 11 : Int), .int .u8 (x 12 : Int), .int .u8 (x 13 : Int), .int .u8 (x 14 : Int), .int .u8 (x 15 : Int), .int .u8 (bits : Int), .bool on, .bool auto, .int .u32 (v : Int), .int .u32 (p : Int), .slice bA nb bC, .int .u32 (nn : Int), .int .u8 (q 0 : Int), .int .u8 (q 1 : Int), .int .u8 (q 2 : Int), .int .u8 (q 3 : Int), .int .u8 (q 4 : Int), .int .u8 (q 5 : Int), .slice sA ns sC, .slice dA nd dC] 60 (0, 0)) := by rw [hV, heap_alloc_new]
  have hBV : Below w.heap.size w V := by rw [hV]; exact (Below.refl _ _).alloc (Nat.le_refl _) _
  have HL := Lib.hid (long26 (kd := kd) (bits := bits) (v := v) (p := p) (n := nn) (bC := bC) (sC := sC) (dC := dC) (m := m) (x := x) (q := q) (on := on) (auto := auto) (bA := bA) (sA := sA) (dA := dA) V hbl hsl hnd hdl (fun hne => by
    obtain ⟨b, o, e, h1, h2⟩ := hDat hne
    exact ⟨b, o, e, Nat.lt_of_lt_of_le h1 hBV.size, fun i s hs => (hBV.cell (p := ⟨b, o + i, none⟩) h1).trans (h2 i s hs)⟩) hDz)
  have HBX := Lib.hid hbx; have HBV := Lib.hid hBV
  have HBX0 : Hid ((w.alloc (.cells #[.int .u8 (kd : Int), .int .u8 (m 0 : Int), .int .u8 (m 1 : Int), .int .u8 (m 2 : Int), .int .u8 (m 3 : Int), .int .u8 (m 4 : Int), .int .u8 (m 5 : Int), .int .u8 (x 0 : Int), .int .u8 (x 1 : Int), .int .u8 (x 2 : Int), .int .u8 (x 3 : Int), .int .u8 (x 4 : Int), .int .u8 (x 5 : Int), .int .u8 (x 6 : Int), .int .u8 (x 7 : Int), .int .u8 (x 8 : Int), .int .u8 (x 9 : Int), .int .u8 (x 10 : Int), .int .u8 (x 11 : Int), .int .u8 (x 12 : Int), .int .u8 (x 13 : Int), .int .u8 (x 14 : Int), .int .u8 (x 15 : Int), .int .u8 (bits : Int), .bool on, .bool auto, .int .u32 (v : Int), .int .u32 (p : Int), .slice bA nb bC, .int .u32 (nn : Int), .int .u8 (q 0 : Int), .int .u8 (q 1 : Int), .int .u8 (q 2 : Int), .int .u8 (q 3 : Int), .int .u8 (q 4 : Int), .int .u8 (q 5 : Int), .slice sA ns sC, .slice dA nd dC] 60)).heap[w.heap.size]? = some (.cells #[.int .u8 (kd : Int), .int .u8 (m 0 : Int), .int .u8 (m 1 : Int), .int .u8 (m 2 : Int), .int .u8 (m 3 : Int), .int .u8 (m 4 : Int), .int .u8 (m 5 : Int), .int .u8 (x 0 : Int), .int .u8 (x 1 : Int), .int .u8 (x 2 : Int), .int .u8 (x 3 : Int), .int .u8 (x 4 : Int), .int .u8 (x 5 : Int), .int .u8 (x 6 : Int), .int .u8 (x 7 : Int), .int .u8 (x 8 : Int), .int .u8 (x 9 : Int), .int .u8 (x 10 : Int), .int .u8 (x 11 : Int), .int .u8 (x 12 : Int), .int .u8 (x 13 : Int), .int .u8 (x 14 : Int), .int .u8 (x 15 : Int), .int .u8 (bits : Int), .bool on, .bool auto, .int .u32 (v : Int), .int .u32 (p : Int), .slice bA nb bC, .int .u32 (nn : Int), .int .u8 (q 0 : Int), .int .u8 (q 1 : Int), .int .u8 (q 2 : Int), .int .u8 (q 3 : Int), .int .u8 (q 4 : Int), .int .u8 (q 5 : Int), .slice sA ns sC, .slice dA nd dC] 60 (0, 0))) := Lib.hid (by rw [heap_alloc_new])
  have HSZ : Hid ((Tryd.prog.info? 60).map (·.size) = some (#[.int .u8 (kd : Int), .int .u8 (m 0 : Int), .int .u8 (m 1 : Int), .int .u8 (m 2 : Int), .int .u8 (m 3 : Int), .int .u8 (m 4 : Int), .int .u8 (m 5 : Int), .int .u8 (x 0 : Int), .int .u8 (x 1 : Int), .int .u8 (x 2 : Int), .int .u8 (x 3 : Int), .int .u8 (x 4 : Int), .int .u8 (x 5 : Int), .int .u8 (x 6 : Int), .int .u8 (x 7 : Int), .int .u8 (x 8 : Int), .int .u8 (x 9 : Int), .int .u8 (x 10 : Int), .int .u8 (x 11 : Int), .int .u8 (x 12 : Int), .int .u8 (x 13 : Int), .int .u8 (x 14 : Int), .int .u8 (x 15 : Int), .int .u8 (bits : Int), .bool on, .bool auto, .int .u32 (v : Int), .int .u32 (p : Int), .slice bA nb bC, .int .u32 (nn : Int), .int .u8 (q 0 : Int), .int .u8 (q 1 : Int), .int .u8 (q 2 : Int), .int .u8 (q 3 : Int), .int .u8 (q 4 : Int), .int .u8 (q 5 : Int), .slice sA ns sC, .slice dA nd dC] : Array Value).size) := Lib.hid size60
  have HSAT := Lib.hid hSat; have HNS := Lib.hid hns; have HS256 := Lib.hid hS256
  have HV := Lib.hid hv; have HP := Lib.hid hp; have HN := Lib.hid hn; have HMB := Lib.hid hm; have HXB := Lib.hid hx; have HBB := Lib.hid hbits
  clear hbx hBV hv hp hn hbl hSat hns hsl hS256 hDat hnd hdl hDz hm hx hbits
  go_enter Tryd.func7, Tryd.ntmps7
  go_wp2_with (refine wpList_load_row rfl 60 _ rfl w.heap.size rfl 60 _ (0, 0) _ HBX0.out Tryd.underlying60 rfl HSZ.out ?_)
  rw [← hV]
  clear hV HBX0
  refine (HL.out).mono ?_
  rintro e w1 ⟨b, rfl, hb1, hfew⟩
  have HB1 := Lib.hid (HBV.out.trans (hb1.mono HBV.out.size))
  have HBX1 := Lib.hid ((hb1.block _ (lt_of_blk HBX.out)).trans HBX.out)
  have HF := Lib.hid hfew
  clear hb1 hfew HL
  cases b
  · have hfew := HF.out rfl
    have hSl : S.length ≤ 1000000 := by rw [HNS.out]; omega
    have HSL := Lib.hid hSl
    have HSA : Hid (AdrsAt w w.heap.size sA S) := Lib.hid ⟨HSAT.out, hSl⟩
    have f36 : w1.cell? ⟨w.heap.size, 36, none⟩ = some (.slice sA ns sC) := (cell_blk HBX1.out 36).trans rfl
    clear hfew hSl HF
    by_cases h0 : ns = 0
    · have t0 : ((ns : Int) == 0) = true := by simp; omega
      clear h0
      have HVL := Lib.hid (lives8 w1)
      go_wp2_with fail
      refine (HVL.out).mono ?_
      rintro e w2 ⟨rfl, hb⟩
      have HB2 := Lib.hid (HB1.out.trans (hb.mono HB1.out.size))
      clear hb HVL
      go_wp2_with fail
      go_ret
      exact ⟨rfl, HB2.out⟩
    · have t0 : ((ns : Int) == 0) = false := by simp; omega
      have HS0 : Hid (S ≠ []) := Lib.hid (fun e => h0 (by rw [← HNS.out, e]; rfl))
      clear h0
      go_wp2_with fail
      refine regK3 HBX1.out HV.out HP.out HN.out ((HSA.out.below HB1.out).mono HB1.out.size) HNS.out (fun c a d v W h => (by cases (show _ ∧ (_ = _) ∧ _ from h).2.1)) ?_
      intro z5 r22 r23 r24 r25 r26 r27 r28 r29 r30 r31 r32 r33 r34 r35 r36 w5 h5
      obtain ⟨T, g5, rfl, hT4, hk5, ho5, hb5⟩ := h5
      have HT4 := Lib.hid hT4
      have HK5' := Lib.hid hk5
      have HO5 := Lib.hid ho5
      have HB5 := Lib.hid (HB1.out.trans (hb5.mono HB1.out.size))
      clear hT4 hk5 ho5 hb5 f36 t0
      go_upto_region 5 with (fail)
      obtain ⟨w6, hw6⟩ : ∃ w6, w6 = w5.alloc (.cells #[.int .u8 1, .int .u8 3, .int .u8 5, .int .u8 25] 5) := ⟨_, rfl⟩
      obtain ⟨kb, ekb⟩ : ∃ kb, kb = w5.heap.size := ⟨_, rfl⟩
      have hal : Below w5.heap.size w5 (w5.alloc (.cells #[.int .u8 1, .int .u8 3, .int .u8 5, .int .u8 25] 5)) := (Below.refl _ _).alloc (Nat.le_refl _) _
      have hnw := heap_alloc_new w5 (.cells #[.int .u8 1, .int .u8 3, .int .u8 5, .int .u8 25] 5)
      rw [← hw6] at hal hnw
      rw [← ekb] at hnw
      rw [← hw6, ← ekb]
      have HK : Hid (KS w g5 kb T w6) := Lib.hid ⟨(HO5.out.below hal).mono hal.size, kinds_at hnw, HB5.out.trans (hal.mono HB5.out.size)⟩
      clear hal hnw hw6 ekb HO5 HB5 HB1 HBX1 HSA
      go_wp2_with fail
      go_loopw [7] (fun v wr => ∃ i : Nat, i ≤ 4 ∧ v = .int .i64 (i : Int) ∧ KS w g5 kb T wr) (fun v _ => (4 - intOf v).toNat)
      case atStart => exact ⟨0, by decide, rfl, HK.out⟩
      case round =>
        clear HK
        obtain ⟨i, hi4, rfl, hK⟩ := hrel
        by_cases hi : i < 4
        · obtain ⟨o, ho⟩ : ∃ o, T[i]? = some o := ⟨T[i]'(by rw [HT4.out]; exact hi), List.getElem?_eq_getElem _⟩
          have hmk : (madeK bits v p nn m x on auto S)[i]? = some (o.kind, o.data) := by rw [← HK5'.out]; unfold kdO; rw [List.getElem?_map, ho]; rfl
          obtain ⟨hown, hfine⟩ := fine_all (kd := kk) HMB.out HXB.out HBB.out HS256.out HS0.out HSL.out hmk
          obtain ⟨cg, cd⟩ := hK.cells ho
          have ck := hK.kinds i hi
          have hbs := hK.rows.each o (List.mem_of_getElem? ho)
          obtain ⟨kd0, A, c, l⟩ := o
          simp only at hown hfine cg cd hbs
          rw [← hown] at ck
          obtain ⟨n, hn⟩ : ∃ n, l.length = n := ⟨_, rfl⟩
          rw [hn] at cd
          have HN1 := Lib.hid hn
          have hn0 : 0 < n := by rw [← hn]; exact hfine.pos
          have hn8 : n ≤ 100000000 := by rw [← hn]; exact hfine.many
          have hnc : n ≤ c := by rw [← hn]; exact hbs.cap
          have t6 : (i : Int) < 4 := by omega
          have HFI := Lib.hid hfine; have HBS := Lib.hid hbs; have HKK := Lib.hid hK; have CK := Lib.hid ck; have HI := Lib.hid hi; have HI4 := Lib.hid hi4; have HN0 := Lib.hid hn0; have HN8 := Lib.hid hn8; have HNC := Lib.hid hnc
          clear hmk hown hfine ck hbs hn hK hn0 hn8 hnc hi4 ho
          go_wp2_with fail
          obtain ⟨W1, hW1⟩ : ∃ W1, W1 = wr.alloc (.cells #[.int .u8 (kd0 : Int), .slice A n c] 41) := ⟨_, rfl⟩
          have hal : Below wr.heap.size wr (wr.alloc (.cells #[.int .u8 (kd0 : Int), .slice A n c] 41)) := (Below.refl _ _).alloc (Nat.le_refl _) _
          have hnw := heap_alloc_new wr (.cells #[.int .u8 (kd0 : Int), .slice A n c] 41)
          obtain ⟨a, ea⟩ : ∃ a, a = wr.heap.size := ⟨_, rfl⟩
          rw [← hW1] at hal hnw
          rw [← ea] at hnw
          rw [← hW1, ← ea]
          have H1 := Lib.hid hnw
          have HAL := Lib.hid hal
          clear hal hnw hW1 ea cg cd
          refine regK9 H1.out ((HAL.out.cell (p := ⟨kb, i, none⟩) (lt_of_cell CK.out)).trans CK.out) HI.out HN0.out (fun c a d v W h => (by cases (show _ ∧ (_ = _) ∧ _ from h).2.1)) ?_
          intro r48 r49 r50 r51 r52 r53 r54 r55 r56 r57 r58 r59
          have x1 := cell_blk H1.out 1
          simp only [List.getElem?_toArray, List.getElem?_cons_zero, List.getElem?_cons_succ] at x1
          go_wp2_with fail
          clear x1
          obtain ⟨W2, hW2⟩ : ∃ W2, W2 = (W1.alloc (.cells #[.int .u8 (kk : Int), .slice A n c] 41)).drew := ⟨_, rfl⟩
          have hal2 : Below W1.heap.size W1 (W1.alloc (.cells #[.int .u8 (kk : Int), .slice A n c] 41)).drew := ((Below.refl W1.heap.size W1).alloc (Nat.le_refl _) _).drew
          have hnw2 : (W1.alloc (.cells #[.int .u8 (kk : Int), .slice A n c] 41)).drew.heap[W1.heap.size]? = some (.cells #[.int .u8 (kk : Int), .slice A n c] 41 (0, 0)) := heap_alloc_new W1 _
          obtain ⟨a9, ea9⟩ : ∃ a9, a9 = W1.heap.size := ⟨_, rfl⟩
          rw [← hW2] at hal2 hnw2
          rw [← ea9] at hnw2
          rw [← hW2, ← ea9]
          have H9 := Lib.hid hnw2
          have H2 := Lib.hid ((hal2.block a (lt_of_blk H1.out)).trans H1.out)
          have HAL2 := Lib.hid (HAL.out.trans (hal2.mono HAL.out.size))
          clear hal2 hnw2 hW2 ea9
          refine regK12 H2.out ((HBS.out.below HAL2.out).mono HAL2.out.size) HN1.out HN0.out HN8.out (fun c a d v W h => (by cases (show _ ∧ (_ = _) ∧ _ from h).2.1)) ?_
          intro b10 A6 c6 r65 r66 r67 r68 r69 r70 r71 r72 W3 h10 hb10 hb3
          have H10 := Lib.hid h10
          have HB10 := Lib.hid hb10
          have H3 := Lib.hid ((hb3.block a (lt_of_blk H2.out)).trans H2.out)
          have H93 := Lib.hid ((hb3.block a9 (lt_of_blk H9.out)).trans H9.out)
          have HAL3 := Lib.hid (HAL2.out.trans (hb3.mono HAL2.out.size))
          clear h10 hb10 hb3
          go_wp2_with fail
          refine regK13 H3.out HN0.out HNC.out HN8.out (fun c a d v W h => (by cases (show _ ∧ (_ = _) ∧ _ from h).2.1)) ?_
          intro b11 r73 r74 r75 r76 r77 r78 r79 r80 r81 r82 W4 h11 hb4
          have H11 := Lib.hid h11
          have H104 := Lib.hid ((hb4.block b10 (lt_of_blk H10.out)).trans H10.out)
          have HB104 := Lib.hid ((HB10.out.below hb4).mono hb4.size)
          have H4 := Lib.hid ((hb4.block a (lt_of_blk H3.out)).trans H3.out)
          have H94 := Lib.hid ((hb4.block a9 (lt_of_blk H93.out)).trans H93.out)
          have HAL4 := Lib.hid (HAL3.out.trans (hb4.mono HAL3.out.size))
          clear h11 hb4 H10 HB10 H3 H93 HAL3 H2 H9 HAL2 H1 HAL
          have hc := reads45 (kd := kd0) W4 HB104.out (by rw [List.length_append, HN1.out]; have := HN8.out; simp; omega) (fun y hy => by
            rcases List.mem_append.1 hy with hy | hy
            · exact HFI.out.bytes y hy
            · rw [List.mem_singleton] at hy; subst hy; decide)
          rw [HFI.out.more, List.length_append, HN1.out] at hc
          have HC := Lib.hid hc
          have c0 := cell_blk H104.out 0
          have c1 := cell_blk H104.out 1
          simp only [List.getElem?_toArray, List.getElem?_cons_zero, List.getElem?_cons_succ] at c0 c1
          clear hc
          go_wp2_with fail
          refine (HC.out).mono ?_
          rintro e W5 ⟨rfl, hb5⟩
          have H11' := Lib.hid ((hb5.block b11 (lt_of_blk H11.out)).trans H11.out)
          have H5 := Lib.hid ((hb5.block a (lt_of_blk H4.out)).trans H4.out)
          have H95 := Lib.hid ((hb5.block a9 (lt_of_blk H94.out)).trans H94.out)
          have HAL5 := Lib.hid (HAL4.out.trans (hb5.mono HAL4.out.size))
          clear hb5 HC c0 c1 H104 HB104 H4 H94 HAL4 H11
          have hc := reads45 (kd := kd0) W5 (A := A) (c := c) (l := l.dropLast) ((HBS.out.dropLast.below HAL5.out).mono HAL5.out.size) (by rw [List.length_dropLast, HN1.out]; have := HN8.out; omega) (fun y hy => HFI.out.bytes y ((List.dropLast_subset _) hy))
          rw [HFI.out.less, List.length_dropLast, HN1.out] at hc
          have HC := Lib.hid hc
          have c0 := cell_blk H11'.out 0
          have c1 := cell_blk H11'.out 1
          simp only [List.getElem?_toArray, List.getElem?_cons_zero, List.getElem?_cons_succ] at c0 c1
          clear hc
          go_wp2_with fail
          refine (HC.out).mono ?_
          rintro e W6 ⟨rfl, hb5⟩
          have H6 := Lib.hid ((hb5.block a (lt_of_blk H5.out)).trans H5.out)
          have H96 := Lib.hid ((hb5.block a9 (lt_of_blk H95.out)).trans H95.out)
          have HAL6 := Lib.hid (HAL5.out.trans (hb5.mono HAL5.out.size))
          clear hb5 HC c0 c1 H11' H5 H95 HAL5
          have HK6 := Lib.hid (HKK.out.step HAL6.out)
          obtain ⟨cnt, ecnt⟩ : ∃ y, countR kk l = y := ⟨_, rfl⟩
          have HOT : Hid (kk ≠ kd0 → (cnt == 1) = (n == 6 && (kk == 1 || kk == 2 || kk == 5))) := Lib.hid (by have := HFI.out.other; rw [ecnt, HN1.out] at this; exact this)
          have tf : ¬ (1 : Int) < ((cnt : Nat) : Int) := by have := HFI.out.few; rw [ecnt] at this; omega
          have H9at : Hid (∀ (j : Nat) (W : World), Below W6.heap.size W6 W → W.cell? ⟨a9, j, none⟩ = (#[.int .u8 (kk : Int), .slice A n c] : Array Value)[j]?) := Lib.hid (fun j W hW => cell_blk ((hW.block a9 (lt_of_blk H96.out)).trans H96.out) j)
          have HC9 : Hid (∀ W : World, Below W6.heap.size W6 W → Calls Tryd.prog 45 #[.agg #[.int .u8 (kk : Int), .slice A n c]] W fun e w' => e = .returned (.int .i64 (cnt : Nat)) ∧ Below W.heap.size W w') := Lib.hid (fun W hW => by
            have h1 := HAL6.out.trans (hW.mono HAL6.out.size)
            have h2 := reads45 (kd := kk) W (A := A) (c := c) (l := l) ((HBS.out.below h1).mono h1.size) (by rw [HN1.out]; have := HN8.out; omega) HFI.out.bytes
            rw [ecnt, HN1.out] at h2
            exact h2)
          have q0 := H9at.out 0 W6 (Below.refl _ _)
          have q1 := H9at.out 1 W6 (Below.refl _ _)
          have d0 := cell_blk H6.out 0
          have d1 := cell_blk H6.out 1
          simp only [List.getElem?_toArray, List.getElem?_cons_zero, List.getElem?_cons_succ] at q0 q1 d0 d1
          clear ecnt HAL6 HKK HFI HBS H6 H96 HN1
          by_cases hne : kk = kd0
          · have tk : ((kk : Int) != (kd0 : Int)) = false := by simp; omega
            clear hne HOT
            by_cases h6 : n = 6
            · have e6 : ((n : Int) == 6) = true := by simp; omega
              by_cases k1 : kk = 1
              · have e1 : ((kk : Int) == 1) = true := by simp; omega
                clear k1 h6
                have HS0 : Hid (Below W6.heap.size W6 W6) := Lib.hid (Below.refl _ _)
                go_wp2_with fail
                refine (HC9.out _ HS0.out).mono ?_
                rintro e W7 ⟨rfl, hb⟩
                have HS1 : Hid (Below W6.heap.size W6 W7) := Lib.hid (HS0.out.trans (hb.mono HS0.out.size))
                have q00 := H9at.out 0 W7 HS1.out
                have q10 := H9at.out 1 W7 HS1.out
                simp only [List.getElem?_toArray, List.getElem?_cons_zero, List.getElem?_cons_succ] at q00 q10
                clear hb
                clear HC9
                go_wp2_with fail
                go_roundw
                case rel => exact ⟨i + 1, by have := HI.out; omega, by go_num, HK6.out.step HS1.out⟩
                case measure => have := HI.out; simp [intOf]; omega
              · have e1 : ((kk : Int) == 1) = false := by simp; omega
                by_cases k2 : kk = 2
                · have e2 : ((kk : Int) == 2) = true := by simp; omega
                  clear k1 k2 h6
                  have HS0 : Hid (Below W6.heap.size W6 W6) := Lib.hid (Below.refl _ _)
                  go_wp2_with fail
                  refine (HC9.out _ HS0.out).mono ?_
                  rintro e W7 ⟨rfl, hb⟩
                  have HS1 : Hid (Below W6.heap.size W6 W7) := Lib.hid (HS0.out.trans (hb.mono HS0.out.size))
                  have q00 := H9at.out 0 W7 HS1.out
                  have q10 := H9at.out 1 W7 HS1.out
                  simp only [List.getElem?_toArray, List.getElem?_cons_zero, List.getElem?_cons_succ] at q00 q10
                  clear hb
                  clear HC9
                  go_wp2_with fail
                  go_roundw
                  case rel => exact ⟨i + 1, by have := HI.out; omega, by go_num, HK6.out.step HS1.out⟩
                  case measure => have := HI.out; simp [intOf]; omega
                · have e2 : ((kk : Int) == 2) = false := by simp; omega
                  by_cases k5 : kk = 5
                  · have e5 : ((kk : Int) == 5) = true := by simp; omega
                    clear k1 k2 k5 h6
                    have HS0 : Hid (Below W6.heap.size W6 W6) := Lib.hid (Below.refl _ _)
                    go_wp2_with fail
                    refine (HC9.out _ HS0.out).mono ?_
                    rintro e W7 ⟨rfl, hb⟩
                    have HS1 : Hid (Below W6.heap.size W6 W7) := Lib.hid (HS0.out.trans (hb.mono HS0.out.size))
                    have q00 := H9at.out 0 W7 HS1.out
                    have q10 := H9at.out 1 W7 HS1.out
                    simp only [List.getElem?_toArray, List.getElem?_cons_zero, List.getElem?_cons_succ] at q00 q10
                    clear hb
                    clear HC9
                    go_wp2_with fail
                    go_roundw
                    case rel => exact ⟨i + 1, by have := HI.out; omega, by go_num, HK6.out.step HS1.out⟩
                    case measure => have := HI.out; simp [intOf]; omega
                  · have e5 : ((kk : Int) == 5) = false := by simp; omega
                    clear k1 k2 k5 h6
                    have HS0 : Hid (Below W6.heap.size W6 W6) := Lib.hid (Below.refl _ _)
                    go_wp2_with fail
                    refine (HC9.out _ HS0.out).mono ?_
                    rintro e W7 ⟨rfl, hb⟩
                    have HS1 : Hid (Below W6.heap.size W6 W7) := Lib.hid (HS0.out.trans (hb.mono HS0.out.size))
                    have q00 := H9at.out 0 W7 HS1.out
                    have q10 := H9at.out 1 W7 HS1.out
                    simp only [List.getElem?_toArray, List.getElem?_cons_zero, List.getElem?_cons_succ] at q00 q10
                    clear hb
                    clear HC9
                    go_wp2_with fail
                    go_roundw
                    case rel => exact ⟨i + 1, by have := HI.out; omega, by go_num, HK6.out.step HS1.out⟩
                    case measure => have := HI.out; simp [intOf]; omega
            · have e6 : ((n : Int) == 6) = false := by simp; omega
              clear h6
              have HS0 : Hid (Below W6.heap.size W6 W6) := Lib.hid (Below.refl _ _)
              go_wp2_with fail
              refine (HC9.out _ HS0.out).mono ?_
              rintro e W7 ⟨rfl, hb⟩
              have HS1 : Hid (Below W6.heap.size W6 W7) := Lib.hid (HS0.out.trans (hb.mono HS0.out.size))
              have q00 := H9at.out 0 W7 HS1.out
              have q10 := H9at.out 1 W7 HS1.out
              simp only [List.getElem?_toArray, List.getElem?_cons_zero, List.getElem?_cons_succ] at q00 q10
              clear hb
              clear HC9
              go_wp2_with fail
              go_roundw
              case rel => exact ⟨i + 1, by have := HI.out; omega, by go_num, HK6.out.step HS1.out⟩
              case measure => have := HI.out; simp [intOf]; omega
          · have tk : ((kk : Int) != (kd0 : Int)) = true := by simp; omega
            have HNE := Lib.hid hne
            clear hne
            by_cases h6 : n = 6
            · have e6 : ((n : Int) == 6) = true := by simp; omega
              by_cases k1 : kk = 1
              · have e1 : ((kk : Int) == 1) = true := by simp; omega
                have HO : Hid (kk ≠ kd0 → (cnt == 1) = true) := Lib.hid (fun h => (HOT.out h).trans (by simp [h6, k1]))
                clear k1 h6
                have HS0 : Hid (Below W6.heap.size W6 W6) := Lib.hid (Below.refl _ _)
                have tc : (((cnt : Nat) : Int) == 1) = true := by have := HO.out HNE.out; rw [← this]; cases hc : (cnt == 1) <;> simp at hc ⊢ <;> omega
                go_wp2_with fail
                refine (HC9.out _ HS0.out).mono ?_
                rintro e W7 ⟨rfl, hb⟩
                have HS1 : Hid (Below W6.heap.size W6 W7) := Lib.hid (HS0.out.trans (hb.mono HS0.out.size))
                have q00 := H9at.out 0 W7 HS1.out
                have q10 := H9at.out 1 W7 HS1.out
                simp only [List.getElem?_toArray, List.getElem?_cons_zero, List.getElem?_cons_succ] at q00 q10
                clear hb
                go_wp2_with fail
                refine (HC9.out _ HS1.out).mono ?_
                rintro e W8 ⟨rfl, hb⟩
                have HS2 : Hid (Below W6.heap.size W6 W8) := Lib.hid (HS1.out.trans (hb.mono HS1.out.size))
                have q01 := H9at.out 0 W8 HS2.out
                have q11 := H9at.out 1 W8 HS2.out
                simp only [List.getElem?_toArray, List.getElem?_cons_zero, List.getElem?_cons_succ] at q01 q11
                clear hb
                clear HC9
                go_wp2_with fail
                go_roundw
                case rel => exact ⟨i + 1, by have := HI.out; omega, by go_num, HK6.out.step HS2.out⟩
                case measure => have := HI.out; simp [intOf]; omega
              · have e1 : ((kk : Int) == 1) = false := by simp; omega
                by_cases k2 : kk = 2
                · have e2 : ((kk : Int) == 2) = true := by simp; omega
                  have HO : Hid (kk ≠ kd0 → (cnt == 1) = true) := Lib.hid (fun h => (HOT.out h).trans (by simp [h6, k2]))
                  clear k1 k2 h6
                  have HS0 : Hid (Below W6.heap.size W6 W6) := Lib.hid (Below.refl _ _)
                  have tc : (((cnt : Nat) : Int) == 1) = true := by have := HO.out HNE.out; rw [← this]; cases hc : (cnt == 1) <;> simp at hc ⊢ <;> omega
                  go_wp2_with fail
                  refine (HC9.out _ HS0.out).mono ?_
                  rintro e W7 ⟨rfl, hb⟩
                  have HS1 : Hid (Below W6.heap.size W6 W7) := Lib.hid (HS0.out.trans (hb.mono HS0.out.size))
                  have q00 := H9at.out 0 W7 HS1.out
                  have q10 := H9at.out 1 W7 HS1.out
                  simp only [List.getElem?_toArray, List.getElem?_cons_zero, List.getElem?_cons_succ] at q00 q10
                  clear hb
                  go_wp2_with fail
                  refine (HC9.out _ HS1.out).mono ?_
                  rintro e W8 ⟨rfl, hb⟩
                  have HS2 : Hid (Below W6.heap.size W6 W8) := Lib.hid (HS1.out.trans (hb.mono HS1.out.size))
                  have q01 := H9at.out 0 W8 HS2.out
                  have q11 := H9at.out 1 W8 HS2.out
                  simp only [List.getElem?_toArray, List.getElem?_cons_zero, List.getElem?_cons_succ] at q01 q11
                  clear hb
                  clear HC9
                  go_wp2_with fail
                  go_roundw
                  case rel => exact ⟨i + 1, by have := HI.out; omega, by go_num, HK6.out.step HS2.out⟩
                  case measure => have := HI.out; simp [intOf]; omega
                · have e2 : ((kk : Int) == 2) = false := by simp; omega
                  by_cases k5 : kk = 5
                  · have e5 : ((kk : Int) == 5) = true := by simp; omega
                    have HO : Hid (kk ≠ kd0 → (cnt == 1) = true) := Lib.hid (fun h => (HOT.out h).trans (by simp [h6, k5]))
                    clear k1 k2 k5 h6
                    have HS0 : Hid (Below W6.heap.size W6 W6) := Lib.hid (Below.refl _ _)
                    have tc : (((cnt : Nat) : Int) == 1) = true := by have := HO.out HNE.out; rw [← this]; cases hc : (cnt == 1) <;> simp at hc ⊢ <;> omega
                    go_wp2_with fail
                    refine (HC9.out _ HS0.out).mono ?_
                    rintro e W7 ⟨rfl, hb⟩
                    have HS1 : Hid (Below W6.heap.size W6 W7) := Lib.hid (HS0.out.trans (hb.mono HS0.out.size))
                    have q00 := H9at.out 0 W7 HS1.out
                    have q10 := H9at.out 1 W7 HS1.out
                    simp only [List.getElem?_toArray, List.getElem?_cons_zero, List.getElem?_cons_succ] at q00 q10
                    clear hb
                    go_wp2_with fail
                    refine (HC9.out _ HS1.out).mono ?_
                    rintro e W8 ⟨rfl, hb⟩
                    have HS2 : Hid (Below W6.heap.size W6 W8) := Lib.hid (HS1.out.trans (hb.mono HS1.out.size))
                    have q01 := H9at.out 0 W8 HS2.out
                    have q11 := H9at.out 1 W8 HS2.out
                    simp only [List.getElem?_toArray, List.getElem?_cons_zero, List.getElem?_cons_succ] at q01 q11
                    clear hb
                    clear HC9
                    go_wp2_with fail
                    go_roundw
                    case rel => exact ⟨i + 1, by have := HI.out; omega, by go_num, HK6.out.step HS2.out⟩
                    case measure => have := HI.out; simp [intOf]; omega
                  · have e5 : ((kk : Int) == 5) = false := by simp; omega
                    have HO : Hid (kk ≠ kd0 → (cnt == 1) = false) := Lib.hid (fun h => (HOT.out h).trans (by simp [k1, k2, k5]))
                    clear k1 k2 k5 h6
                    have HS0 : Hid (Below W6.heap.size W6 W6) := Lib.hid (Below.refl _ _)
                    have tc : (((cnt : Nat) : Int) == 1) = false := by have := HO.out HNE.out; rw [← this]; cases hc : (cnt == 1) <;> simp at hc ⊢ <;> omega
                    go_wp2_with fail
                    refine (HC9.out _ HS0.out).mono ?_
                    rintro e W7 ⟨rfl, hb⟩
                    have HS1 : Hid (Below W6.heap.size W6 W7) := Lib.hid (HS0.out.trans (hb.mono HS0.out.size))
                    have q00 := H9at.out 0 W7 HS1.out
                    have q10 := H9at.out 1 W7 HS1.out
                    simp only [List.getElem?_toArray, List.getElem?_cons_zero, List.getElem?_cons_succ] at q00 q10
                    clear hb
                    go_wp2_with fail
                    refine (HC9.out _ HS1.out).mono ?_
                    rintro e W8 ⟨rfl, hb⟩
                    have HS2 : Hid (Below W6.heap.size W6 W8) := Lib.hid (HS1.out.trans (hb.mono HS1.out.size))
                    have q01 := H9at.out 0 W8 HS2.out
                    have q11 := H9at.out 1 W8 HS2.out
                    simp only [List.getElem?_toArray, List.getElem?_cons_zero, List.getElem?_cons_succ] at q01 q11
                    clear hb
                    clear HC9
                    go_wp2_with fail
                    go_roundw
                    case rel => exact ⟨i + 1, by have := HI.out; omega, by go_num, HK6.out.step HS2.out⟩
                    case measure => have := HI.out; simp [intOf]; omega
            · have e6 : ((n : Int) == 6) = false := by simp; omega
              have HO : Hid (kk ≠ kd0 → (cnt == 1) = false) := Lib.hid (fun h => (HOT.out h).trans (by simp [h6]))
              clear h6
              have HS0 : Hid (Below W6.heap.size W6 W6) := Lib.hid (Below.refl _ _)
              have tc : (((cnt : Nat) : Int) == 1) = false := by have := HO.out HNE.out; rw [← this]; cases hc : (cnt == 1) <;> simp at hc ⊢ <;> omega
              go_wp2_with fail
              refine (HC9.out _ HS0.out).mono ?_
              rintro e W7 ⟨rfl, hb⟩
              have HS1 : Hid (Below W6.heap.size W6 W7) := Lib.hid (HS0.out.trans (hb.mono HS0.out.size))
              have q00 := H9at.out 0 W7 HS1.out
              have q10 := H9at.out 1 W7 HS1.out
              simp only [List.getElem?_toArray, List.getElem?_cons_zero, List.getElem?_cons_succ] at q00 q10
              clear hb
              go_wp2_with fail
              refine (HC9.out _ HS1.out).mono ?_
              rintro e W8 ⟨rfl, hb⟩
              have HS2 : Hid (Below W6.heap.size W6 W8) := Lib.hid (HS1.out.trans (hb.mono HS1.out.size))
              have q01 := H9at.out 0 W8 HS2.out
              have q11 := H9at.out 1 W8 HS2.out
              simp only [List.getElem?_toArray, List.getElem?_cons_zero, List.getElem?_cons_succ] at q01 q11
              clear hb
              clear HC9
              go_wp2_with fail
              go_roundw
              case rel => exact ⟨i + 1, by have := HI.out; omega, by go_num, HK6.out.step HS2.out⟩
              case measure => have := HI.out; simp [intOf]; omega
        · have e4 : i = 4 := by omega
          subst e4
          have HKW := Lib.hid hK.below
          clear hK
          have HVL := Lib.hid (lives8 wr)
          go_wp2_with fail
          refine (HVL.out).mono ?_
          rintro e w9 ⟨rfl, hb⟩
          have HB9 := Lib.hid (HKW.out.trans (hb.mono HKW.out.size))
          clear hb HVL
          go_wp2_with fail
          go_ret
          exact ⟨rfl, HB9.out⟩
  · have HVL := Lib.hid (lives8 w1)
    clear HF
    go_wp2_with fail
    refine (HVL.out).mono ?_
    rintro e w2 ⟨rfl, hb⟩
    have HB2 := Lib.hid (HB1.out.trans (hb.mono HB1.out.size))
    clear hb HVL
    go_wp2_with fail
    go_ret
    exact ⟨rfl, HB2.out⟩
end Go.Proofs.YtfolamkjlgpgmaaDoor
