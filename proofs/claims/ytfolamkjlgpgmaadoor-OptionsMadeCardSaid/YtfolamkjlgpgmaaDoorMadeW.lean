/- The walk of OptionsMade. No condition but that the parts read. (Printed by gMadeW.py.) -/
import Derived.Test.YtfolamkjlgpgmaaDoorReg6
import Derived.Test.YtfolamkjlgpgmaaDoorReg7
import Derived.Test.YtfolamkjlgpgmaaDoorLives
namespace Go.Proofs.YtfolamkjlgpgmaaDoor
open Go.RowKit
set_option linter.unusedVariables false
set_option linter.unusedSimpArgs false
/-- the box, and the twins -/
structure MS (w : World) (gb gs gd : Nat) (c : Array Value) (B : List Nat) (S : List (Nat → Nat)) (D : List ByteArray) (W : World) : Prop where
  box : W.heap[w.heap.size]? = some (.cells c 60 (0, 0))
  tb : W.heap[gb]? = some (.cells (row8 (twinL B 199)).toArray 5 (0, 0))
  ts : W.heap[gs]? = some (.cells (rowA (twinA S)) 51 (0, 0))
  td : W.heap[gd]? = some (.cells (rowT (twinT D)) 9 (0, 0))
  below : Below w.heap.size w W
theorem MS.step {w W W' : World} {gb gs gd : Nat} {c : Array Value} {B : List Nat} {S : List (Nat → Nat)} {D : List ByteArray} (h : MS w gb gs gd c B S D W) (hb : Below W.heap.size W W') : MS w gb gs gd c B S D W' :=
  ⟨(hb.block _ (lt_of_blk h.box)).trans h.box, (hb.block _ (lt_of_blk h.tb)).trans h.tb, (hb.block _ (lt_of_blk h.ts)).trans h.ts, (hb.block _ (lt_of_blk h.td)).trans h.td, h.below.trans (hb.mono h.below.size)⟩
theorem size60 : (Tryd.prog.info? 60).map (·.size) = some 38 := by kernel_rfl
theorem kd_few {kd bits v p n : Nat} {m x q : Nat → Nat} {on auto : Bool} {B : List Nat} {S : List (Nat → Nat)} {D : List ByteArray} {T : List Opt} {w w2 : World} {b c : Nat} {A A2 : Option Addr} (h : kdO T = madeD kd bits v p n m x q on auto B S D) (hB : B.length ≤ 4000) (hS : AdrsAt w b A S) (hD : DomsAt w2 c A2 D) : ∀ y ∈ T, y.data.length ≤ 1000000000 := by
  intro y hy
  have h1 : (y.kind, y.data) ∈ kdO T := List.mem_map.2 ⟨y, hy, rfl⟩
  rw [h] at h1
  have hs := hS.many
  have hd := hD.many
  have hz := domsB_le (n := n) (L := D) hD.size
  have h25 := servB_length n S
  simp only [madeD, List.mem_cons, List.not_mem_nil, or_false, Prod.mk.injEq] at h1
  rcases h1 with ⟨-, e⟩ | ⟨-, e⟩ | ⟨-, e⟩ | ⟨-, e⟩ | ⟨-, e⟩ | ⟨-, e⟩ | ⟨-, e⟩ <;> rw [e]
  · show 6 ≤ _; decide
  · show 30 ≤ _; decide
  · rw [List.length_append, List.length_replicate]; omega
  · show 6 ≤ _; decide
  · show 6 ≤ _; decide
  · omega
  · omega
set_option maxRecDepth 100000 in
set_option maxHeartbeats 8000000 in
theorem optionsMade_walk {kd bits v p n bC sC dC nb ns nd : Nat} {m x q : Nat → Nat} {on auto : Bool} {bA sA dA : Option Addr} {B : List Nat} {S : List (Nat → Nat)} {D : List ByteArray} (w : World) (hv : v < 4294967296) (hp : p < 4294967296) (hn : n < 4294967296)
    (hB : Bs w w.heap.size bA bC B) (hnb : B.length = nb) (hbl : nb ≤ 140737488355328)
    (hSat : S ≠ [] → ∃ b o, sA = some ⟨b, o, none⟩ ∧ b < w.heap.size ∧ ∀ i y, S[i]? = some y → ∀ j, j < 16 → w.cell? ⟨b, o + i * 16 + j, none⟩ = some (.int .u8 (y j : Int))) (hns : S.length = ns) (hsl : ns ≤ 140737488355328) (hS256 : ∀ y ∈ S, ∀ j, j < 16 → y j < 256)
    (hDat : D ≠ [] → ∃ b o, dA = some ⟨b, o, none⟩ ∧ b < w.heap.size ∧ ∀ i s, D[i]? = some s → w.cell? ⟨b, o + i, none⟩ = some (.string s)) (hnd : D.length = nd) (hdl : nd ≤ 140737488355328) (hDz : ∀ s ∈ D, s.size ≤ 140737488355328)
    (hmx : ∃ m : Int, w.cell? ⟨0, 0, none⟩ = some (.int .i64 m)) :
    Calls Tryd.prog 6 #[.agg #[.int .u8 (kd : Int), .int .u8 (m 0 : Int), .int .u8 (m 1 : Int), .int .u8 (m 2 : Int), .int .u8 (m 3 : Int), .int .u8 (m 4 : Int), .int .u8 (m 5 : Int), .int .u8 (x 0 : Int), .int .u8 (x 1 : Int), .int .u8 (x 2 : Int), .int .u8 (x 3 : Int), .int .u8 (x 4 : Int), .int .u8 (x 5 : Int), .int .u8 (x 6 : Int), .int .u8 (x 7 : Int), .int .u8 (x 8 : Int), .int .u8 (x 9 : Int), .int .u8 (x 10 : Int), .int .u8 (x 11 : Int), .int .u8 (x 12 : Int), .int .u8 (x 13 : Int), .int .u8 (x 14 : Int), .int .u8 (x 15 : Int), .int .u8 (bits : Int), .bool on, .bool auto, .int .u32 (v : Int), .int .u32 (p : Int), .slice bA nb bC, .int .u32 (n : Int), .int .u8 (q 0 : Int), .int .u8 (q 1 : Int), .int .u8 (q 2 : Int), .int .u8 (q 3 : Int), .int .u8 (q 4 : Int), .int .u8 (q 5 : Int), .slice sA ns sC, .slice dA nd dC]] w fun e w' => e = .returned (.bool true) ∧ Below w.heap.size w w' := by
  obtain ⟨V, hV⟩ : ∃ V, V = w.alloc (.cells #[.int .u8 (kd : Int), .int .u8 (m 0 : Int), .int .u8 (m 1 : Int), .int .u8 (m 2 : Int), .int .u8 (m 3 : Int), .int .u8 (m 4 : Int), .int .u8 (m 5 : Int), .int .u8 (x 0 : Int), .int .u8 (x 1 : Int), .int .u8 (x 2 : Int), .int .u8 (x 3 : Int), .int .u8 (x 4 : Int), .int .u8 (x 5 : Int), .int .u8 (x 6 : Int), .int .u8 (x 7 : Int), .int .u8 (x 8 : Int), .int .u8 (x 9 : Int), .int .u8 (x 10 : Int), .int .u8 (x 11 : Int), .int .u8 (x 12 : Int), .int .u8 (x 13 : Int), .int .u8 (x 14 : Int), .int .u8 (x 15 : Int), .int .u8 (bits : Int), .bool on, .bool auto, .int .u32 (v : Int), .int .u32 (p : Int), .slice bA nb bC, .int .u32 (n : Int), .int .u8 (q 0 : Int), .int .u8 (q 1 : Int), .int .u8 (q 2 : Int), .int .u8 (q 3 : Int), .int .u8 (q 4 : Int), .int .u8 (q 5 : Int), .slice sA ns sC, .slice dA nd dC] 60) := ⟨_, rfl⟩
  have hbx : V.heap[w.heap.size]? = some (.cells #[.int .u8 (kd : Int), .int .u8 (m 0 : Int), .int .u8 (m 1 : Int), .int .u8 (m 2 : Int), .int .u8 (m 3 : Int), .int .u8 (m 4 : Int), .int .u8 (m 5 : Int), .int .u8 (x 0 : Int), .int .u8 (x 1 : Int), .int .u8 (x 2 : Int), .int .u8 (x 3 : Int), .int .u8 (x 4 : Int), .int .u8 (x 5 : Int), .int .u8 (x 6 : Int), .int .u8 (x 7 : Int), .int .u8 (x 8 : Int), .int .u8 (x 9 : Int), .int .u8 (x 10 : Int), .int .u8 (x 11 : Int), .int .u8 (x 12 : Int), .int .u8 (x 13 : Int), .int .u8 (x 14 : Int), .int .u8 (x 15 : Int), .int .u8 (bits : Int), .bool on, .bool auto, .int .u32 (v : Int), .int .u32 (p : Int), .slice bA nb bC, .int .u32 (n : Int), .int .u8 (q 0 : Int), .int .u8 (q 1 : Int), .int .u8 (q 2 : Int), .int .u8 (q 3 : Int), .int .u8 (q 4 : Int), .int .u8 (q 5 : Int), .slice sA ns sC, .slice dA nd dC] 60 (0, 0)) := by rw [hV, heap_alloc_new]
  have hBV : Below w.heap.size w V := by rw [hV]; exact (Below.refl _ _).alloc (Nat.le_refl _) _
  have HL := Lib.hid (long26 (kd := kd) (bits := bits) (v := v) (p := p) (n := n) (bC := bC) (sC := sC) (dC := dC) (m := m) (x := x) (q := q) (on := on) (auto := auto) (bA := bA) (sA := sA) (dA := dA) V hbl hsl hnd hdl (fun hne => by
    obtain ⟨b, o, e, h1, h2⟩ := hDat hne
    exact ⟨b, o, e, Nat.lt_of_lt_of_le h1 hBV.size, fun i s hs => (hBV.cell (p := ⟨b, o + i, none⟩) h1).trans (h2 i s hs)⟩) hDz)
  have HBX := Lib.hid hbx; have HBV := Lib.hid hBV
  have HBX0 : Hid ((w.alloc (.cells #[.int .u8 (kd : Int), .int .u8 (m 0 : Int), .int .u8 (m 1 : Int), .int .u8 (m 2 : Int), .int .u8 (m 3 : Int), .int .u8 (m 4 : Int), .int .u8 (m 5 : Int), .int .u8 (x 0 : Int), .int .u8 (x 1 : Int), .int .u8 (x 2 : Int), .int .u8 (x 3 : Int), .int .u8 (x 4 : Int), .int .u8 (x 5 : Int), .int .u8 (x 6 : Int), .int .u8 (x 7 : Int), .int .u8 (x 8 : Int), .int .u8 (x 9 : Int), .int .u8 (x 10 : Int), .int .u8 (x 11 : Int), .int .u8 (x 12 : Int), .int .u8 (x 13 : Int), .int .u8 (x 14 : Int), .int .u8 (x 15 : Int), .int .u8 (bits : Int), .bool on, .bool auto, .int .u32 (v : Int), .int .u32 (p : Int), .slice bA nb bC, .int .u32 (n : Int), .int .u8 (q 0 : Int), .int .u8 (q 1 : Int), .int .u8 (q 2 : Int), .int .u8 (q 3 : Int), .int .u8 (q 4 : Int), .int .u8 (q 5 : Int), .slice sA ns sC, .slice dA nd dC] 60)).heap[w.heap.size]? = some (.cells #[.int .u8 (kd : Int), .int .u8 (m 0 : Int), .int .u8 (m 1 : Int), .int .u8 (m 2 : Int), .int .u8 (m 3 : Int), .int .u8 (m 4 : Int), .int .u8 (m 5 : Int), .int .u8 (x 0 : Int), .int .u8 (x 1 : Int), .int .u8 (x 2 : Int), .int .u8 (x 3 : Int), .int .u8 (x 4 : Int), .int .u8 (x 5 : Int), .int .u8 (x 6 : Int), .int .u8 (x 7 : Int), .int .u8 (x 8 : Int), .int .u8 (x 9 : Int), .int .u8 (x 10 : Int), .int .u8 (x 11 : Int), .int .u8 (x 12 : Int), .int .u8 (x 13 : Int), .int .u8 (x 14 : Int), .int .u8 (x 15 : Int), .int .u8 (bits : Int), .bool on, .bool auto, .int .u32 (v : Int), .int .u32 (p : Int), .slice bA nb bC, .int .u32 (n : Int), .int .u8 (q 0 : Int), .int .u8 (q 1 : Int), .int .u8 (q 2 : Int), .int .u8 (q 3 : Int), .int .u8 (q 4 : Int), .int .u8 (q 5 : Int), .slice sA ns sC, .slice dA nd dC] 60 (0, 0))) := Lib.hid (by rw [heap_alloc_new])
  have HSZ : Hid ((Tryd.prog.info? 60).map (·.size) = some (#[.int .u8 (kd : Int), .int .u8 (m 0 : Int), .int .u8 (m 1 : Int), .int .u8 (m 2 : Int), .int .u8 (m 3 : Int), .int .u8 (m 4 : Int), .int .u8 (m 5 : Int), .int .u8 (x 0 : Int), .int .u8 (x 1 : Int), .int .u8 (x 2 : Int), .int .u8 (x 3 : Int), .int .u8 (x 4 : Int), .int .u8 (x 5 : Int), .int .u8 (x 6 : Int), .int .u8 (x 7 : Int), .int .u8 (x 8 : Int), .int .u8 (x 9 : Int), .int .u8 (x 10 : Int), .int .u8 (x 11 : Int), .int .u8 (x 12 : Int), .int .u8 (x 13 : Int), .int .u8 (x 14 : Int), .int .u8 (x 15 : Int), .int .u8 (bits : Int), .bool on, .bool auto, .int .u32 (v : Int), .int .u32 (p : Int), .slice bA nb bC, .int .u32 (n : Int), .int .u8 (q 0 : Int), .int .u8 (q 1 : Int), .int .u8 (q 2 : Int), .int .u8 (q 3 : Int), .int .u8 (q 4 : Int), .int .u8 (q 5 : Int), .slice sA ns sC, .slice dA nd dC] : Array Value).size) := Lib.hid size60
  have HB := Lib.hid hB; have HNB := Lib.hid hnb; have HSAT := Lib.hid hSat; have HNS := Lib.hid hns; have HS256 := Lib.hid hS256; have HDAT := Lib.hid hDat; have HND := Lib.hid hnd; have HMX := Lib.hid hmx
  have HV := Lib.hid hv; have HP := Lib.hid hp; have HN := Lib.hid hn
  clear hbx hBV hv hp hn hB hnb hbl hSat hns hsl hS256 hDat hnd hdl hDz hmx
  go_enter Tryd.func6, Tryd.ntmps6
  go_wp2_with (refine wpList_load_row rfl 60 _ rfl w.heap.size rfl 60 _ (0, 0) _ HBX0.out Tryd.underlying60 rfl HSZ.out ?_)
  rw [← hV]
  clear hV HBX0
  refine (HL.out).mono ?_
  rintro e w1 ⟨b, rfl, hb1, hfew⟩
  have HB1 := Lib.hid (HBV.out.trans (hb1.mono HBV.out.size))
  have HBX1 := Lib.hid ((hb1.block _ (lt_of_blk HBX.out)).trans HBX.out)
  have HF := Lib.hid hfew
  clear hb1 hfew HL
  cases b
  · have hfew := HF.out rfl
    have hBl : B.length ≤ 4000 := by rw [HNB.out]; omega
    have hSl : S.length ≤ 1000000 := by rw [HNS.out]; omega
    have hDl : D.length ≤ 4000 := by have := lenD_many D; omega
    have hDz : ∀ s ∈ D, s.size ≤ 4000 := fun s hs => by have := lenD_one hs; omega
    have HBL := Lib.hid hBl
    have HSA : Hid (AdrsAt w w.heap.size sA S) := Lib.hid ⟨HSAT.out, hSl⟩
    have HDA : Hid (DomsAt w w.heap.size dA D) := Lib.hid ⟨HDAT.out, hDz, hDl⟩
    have f28 : w1.cell? ⟨w.heap.size, 28, none⟩ = some (.slice bA nb bC) := (cell_blk HBX1.out 28).trans rfl
    have hT := twin9 (c := bC) w1 ((HB.out.below HB1.out).mono HB1.out.size) (by omega)
    rw [HNB.out] at hT
    have HT := Lib.hid hT
    clear hfew hBl hSl hDl hDz hT HF
    go_wp2_with fail
    refine (HT.out).mono ?_
    rintro e w2 ⟨rfl, ht2, hb2⟩
    rw [HNB.out]
    obtain ⟨gb, hgb⟩ : ∃ gb, gb = w1.heap.size := ⟨_, rfl⟩
    rw [← hgb] at ht2 ⊢
    have hgw : w.heap.size ≤ gb := by rw [hgb]; exact HB1.out.size
    have HBX2 := Lib.hid ((hb2.block _ (lt_of_blk HBX1.out)).trans HBX1.out)
    have HB2 := Lib.hid (HB1.out.trans (hb2.mono HB1.out.size))
    have HTB2 := Lib.hid ht2
    have f36 : w2.cell? ⟨w.heap.size, 36, none⟩ = some (.slice sA ns sC) := (cell_blk HBX2.out 36).trans rfl
    clear ht2 hb2 hgb HT f28
    have HT := Lib.hid (twin27 (c := sC) w2 ((HSA.out.below HB2.out).mono HB2.out.size))
    rw [HNS.out] at HT
    go_wp2_with fail
    refine (HT.out).mono ?_
    rintro e w3 ⟨gs, hgs, rfl, ht3, hb3⟩
    rw [HNS.out]
    have HBX3 := Lib.hid ((hb3.block _ (lt_of_blk HBX2.out)).trans HBX2.out)
    have HTB3 := Lib.hid ((hb3.block _ (lt_of_blk HTB2.out)).trans HTB2.out)
    have HB3 := Lib.hid (HB2.out.trans (hb3.mono HB2.out.size))
    have HTS3 := Lib.hid ht3
    have f37 : w3.cell? ⟨w.heap.size, 37, none⟩ = some (.slice dA nd dC) := (cell_blk HBX3.out 37).trans rfl
    clear ht3 hb3 hgs HT f36
    have HT := Lib.hid (twin28 (c := dC) w3 ((HDA.out.below HB3.out).mono HB3.out.size))
    rw [HND.out] at HT
    go_wp2_with fail
    refine (HT.out).mono ?_
    rintro e w4 ⟨rfl, ht4, hb4⟩
    rw [HND.out]
    obtain ⟨gd, hgd⟩ : ∃ gd, gd = w3.heap.size := ⟨_, rfl⟩
    rw [← hgd] at ht4 ⊢
    have HM4 : Hid (MS w gb gs gd #[.int .u8 (kd : Int), .int .u8 (m 0 : Int), .int .u8 (m 1 : Int), .int .u8 (m 2 : Int), .int .u8 (m 3 : Int), .int .u8 (m 4 : Int), .int .u8 (m 5 : Int), .int .u8 (x 0 : Int), .int .u8 (x 1 : Int), .int .u8 (x 2 : Int), .int .u8 (x 3 : Int), .int .u8 (x 4 : Int), .int .u8 (x 5 : Int), .int .u8 (x 6 : Int), .int .u8 (x 7 : Int), .int .u8 (x 8 : Int), .int .u8 (x 9 : Int), .int .u8 (x 10 : Int), .int .u8 (x 11 : Int), .int .u8 (x 12 : Int), .int .u8 (x 13 : Int), .int .u8 (x 14 : Int), .int .u8 (x 15 : Int), .int .u8 (bits : Int), .bool on, .bool auto, .int .u32 (v : Int), .int .u32 (p : Int), .slice bA nb bC, .int .u32 (n : Int), .int .u8 (q 0 : Int), .int .u8 (q 1 : Int), .int .u8 (q 2 : Int), .int .u8 (q 3 : Int), .int .u8 (q 4 : Int), .int .u8 (q 5 : Int), .slice sA ns sC, .slice dA nd dC] B S D w4) := Lib.hid ⟨(hb4.block _ (lt_of_blk HBX3.out)).trans HBX3.out, (hb4.block _ (lt_of_blk HTB3.out)).trans HTB3.out, (hb4.block _ (lt_of_blk HTS3.out)).trans HTS3.out, ht4, HB3.out.trans (hb4.mono HB3.out.size)⟩
    clear ht4 hb4 hgd HT f37 HTB2 HTB3 HTS3 HBX1 HBX2 HBX3 HB1 HB2 HB3
    go_wp2_with fail
    have h4 := HM4.out.below
    refine reg6 HM4.out.box HV.out HP.out HN.out (by have := twin_bs HM4.out.tb (by have := HBL.out; omega); rw [HNB.out] at this; exact this) HBL.out HNB.out (twinA_at HM4.out.ts HSA.out.many (lt_of_blk HM4.out.ts)) HNS.out (twinT_at HM4.out.td HDA.out.size HDA.out.many (lt_of_blk HM4.out.td)) HND.out (by obtain ⟨mx, hmx⟩ := HMX.out; exact ⟨mx, (h4.cell (p := ⟨0, 0, none⟩) (lt_of_cell hmx)).trans hmx⟩) (fun c a d v W h => (by cases (show _ ∧ (_ = _) ∧ _ from h).2.1)) ?_
    intro z6 r21 r22 r23 r24 r25 r26 r27 r28 r29 r30 r31 r32 r33 r34 r35 r36 r37 r38 r39 r40 r41 r42 r43 r44 r45 w5 h5
    obtain ⟨T, g5, rfl, hT7, hk5, ho5, hs5, hp5, hb5⟩ := h5
    have HM5 := Lib.hid (HM4.out.step hb5)
    have HO5 := Lib.hid ho5
    have HT7 := Lib.hid hT7
    have HK5 := Lib.hid hk5
    have HS5 := Lib.hid hs5
    have HP5 := Lib.hid hp5
    have H45' := Lib.hid hb5
    clear h4 hT7 hk5 ho5 hs5 hp5 hb5
    go_wp2_with fail
    have h5 := HM5.out.below
    refine reg7 HM5.out.box HV.out HP.out HN.out ((HB.out.below h5).mono h5.size) HBL.out HNB.out ((HSA.out.below h5).mono h5.size) HNS.out ((HDA.out.below h5).mono h5.size) HND.out (fun c a d v W h => (by cases (show _ ∧ (_ = _) ∧ _ from h).2.1)) ?_
    intro z7 s46 s47 s48 s49 s50 s51 s52 s53 s54 s55 s56 s57 s58 s59 s60 s61 s62 s63 s64 s65 s66 s67 s68 s69 s70 s71 s72 s73 w6 h6
    obtain ⟨M, g6, rfl, hM7, hk6, ho6, hs6, hp6, hb6⟩ := h6
    have HM6 := Lib.hid (HM5.out.step hb6)
    have h12 := same12 (c := 7) (c2 := 7) w6 ((HO5.out.below hb6).mono hb6.size) ho6 (HK5.out.trans hk6.symm) (Nat.le_refl _) (fun x hx => by
      have h1 := (kd_few HK5.out HBL.out HSA.out HDA.out) x hx
      exact h1)
    rw [HT7.out, hM7] at h12
    have H12 := Lib.hid h12
    have H56 := Lib.hid hb6
    clear h5 hM7 hk6 ho6 hs6 hp6 hb6 h12
    go_wp2_with fail
    refine (H12.out).mono ?_
    rintro e w7 ⟨rfl, hb7⟩
    have HM7 := Lib.hid (HM6.out.step hb7)
    have H57 := Lib.hid (H56.out.trans (hb7.mono H56.out.size))
    clear hb7 H12 H56
    have g28 : w7.cell? ⟨w.heap.size, 28, none⟩ = some (.slice bA nb bC) := (cell_blk HM7.out.box 28).trans rfl
    have h7 := HM7.out.below
    have hT := left13 (c := bC) w7 ((HB.out.below h7).mono h7.size) HM7.out.tb (by have := HBL.out; omega)
    rw [HNB.out] at hT
    have HT := Lib.hid hT
    clear h7 hT
    go_wp2_with fail
    refine (HT.out).mono ?_
    rintro e w8 ⟨rfl, j, hj⟩
    have hb8 : Below w7.heap.size w7 w8 := by rw [hj]; exact Below.drewN' _ _ _
    have HM8 := Lib.hid (HM7.out.step hb8)
    have H58 := Lib.hid (H57.out.trans (hb8.mono H57.out.size))
    clear hb8 hj HT g28 H57
    have g36 : w8.cell? ⟨w.heap.size, 36, none⟩ = some (.slice sA ns sC) := (cell_blk HM8.out.box 36).trans rfl
    have h8 := HM8.out.below
    have hT := left43 (c := sC) w8 ((HSA.out.below h8).mono h8.size) HS256.out HM8.out.ts
    rw [HNS.out] at hT
    have HT := Lib.hid hT
    clear h8 hT
    go_wp2_with fail
    refine (HT.out).mono ?_
    rintro e w9 ⟨rfl, hb9⟩
    have HM9 := Lib.hid (HM8.out.step hb9)
    have H59 := Lib.hid (H58.out.trans (hb9.mono H58.out.size))
    clear hb9 HT g36 H58
    have g37 : w9.cell? ⟨w.heap.size, 37, none⟩ = some (.slice dA nd dC) := (cell_blk HM9.out.box 37).trans rfl
    have h9 := HM9.out.below
    have hT := left44 (c := dC) w9 ((HDA.out.below h9).mono h9.size) HM9.out.td
    rw [HND.out] at hT
    have HT := Lib.hid hT
    clear h9 hT
    go_wp2_with fail
    refine (HT.out).mono ?_
    rintro e w10 ⟨rfl, j, hj⟩
    have hb10 : Below w9.heap.size w9 w10 := by rw [hj]; exact Below.drewN' _ _ _
    have HM10 := Lib.hid (HM9.out.step hb10)
    have h510 := H59.out.trans (hb10.mono H59.out.size)
    have hkb := heap_alloc_new w10 (.cells #[.slice none 0 0] 33)
    have hbk : BookAt (w10.alloc (.cells #[.slice none 0 0] 33)) w10.heap.size [] := ⟨.slice none 0 0, hkb, World.ownsRow_nil _ _ _ _⟩
    have hb11 : Below w10.heap.size w10 (w10.alloc (.cells #[.slice none 0 0] 33)) := (Below.refl _ _).alloc (Nat.le_refl _) _
    have h15 := options15 (c := 7) (S := []) (M := T) _ hbk (((HO5.out.below h510).mono h510.size).below hb11) (by rw [HT7.out]; simp)
    rw [HT7.out] at h15
    have H15 := Lib.hid h15
    have HB11 := Lib.hid hb11
    have H510 := Lib.hid h510
    clear hb10 hj HT g37 H59 hkb hbk hb11 h510 h15
    go_wp2_with fail
    refine (H15.out).mono ?_
    rintro e w11 ⟨rfl, hbk, hb⟩
    have hb11 := HB11.out.trans hb
    rw [List.nil_append] at hbk
    have H14 := Lib.hid (bytes14 (n := nb) (c := nb + 4) (A := some ⟨gb, 0, none⟩) w11 hbk (by rw [List.length_map, HT7.out]; decide))
    have HB11' := Lib.hid hb11
    clear hbk hb hb11 H15 HB11
    go_wp2_with fail
    refine (H14.out).mono ?_
    rintro e w12 ⟨rfl, hbk, hb⟩
    have hb12 := HB11'.out.trans hb
    have ht : SpanIn gb w4.heap.size w4 ⟨some ⟨gb, 0, none⟩, nb, nb + 4⟩ := by
      have := twin_span (kb := w4.heap.size) HM4.out.tb (by have := HBL.out; omega) (Nat.le_refl _)
      rw [HNB.out] at this
      exact this
    have h410 : Below w4.heap.size w4 w10 := H45'.out.trans (H510.out.mono H45'.out.size)
    have hgb4 : gb ≤ w4.heap.size := Nat.le_of_lt (lt_of_blk HM4.out.tb)
    have hgb10 : gb ≤ w10.heap.size := by have := h410.size; omega
    have h16 := apart16 (lo := gb) w12 hbk (fun x hx => by
      rcases List.mem_append.1 hx with hx | hx
      · obtain ⟨y, hy, rfl⟩ := List.mem_map.1 hx
        exact ((((HS5.out y hy).low hgb4).below H510.out (Nat.le_refl _)).mono H510.out.size).below hb12 (Nat.le_refl _)
      · rw [List.mem_singleton] at hx; subst hx
        exact ((ht.below h410 (Nat.le_refl _)).mono h410.size).below hb12 (Nat.le_refl _)) (by
      rw [List.pairwise_append]
      refine ⟨HP5.out, by simp, fun x hx y hy => ?_⟩
      rw [List.mem_singleton] at hy; subst hy
      obtain ⟨u, hu, rfl⟩ := List.mem_map.1 hx
      exact (apart_hi ht (HS5.out u hu) (Nat.le_refl _)).symm) hgb10 (by rw [List.length_append, List.length_map, HT7.out]; show 8 ≤ _; decide)
    have H16 := Lib.hid h16
    have HB012 := Lib.hid (HM10.out.below.trans (hb12.mono HM10.out.below.size))
    clear hbk hb hb12 ht h410 hgb4 hgb10 h16 H14
    go_wp2_with fail
    refine (H16.out).mono ?_
    rintro e w13 ⟨rfl, hb13⟩
    have HB013 := Lib.hid (HB012.out.trans (hb13.mono hgw))
    have HVL := Lib.hid (lives8 w13)
    clear hb13 H16
    go_wp2_with fail
    refine (HVL.out).mono ?_
    rintro e w14 ⟨rfl, hb14⟩
    have HB014 := Lib.hid (HB013.out.trans (hb14.mono HB013.out.size))
    clear hb14 HVL
    go_wp2_with fail
    go_ret
    exact ⟨rfl, HB014.out⟩
  · have HVL := Lib.hid (lives8 w1)
    go_wp2_with fail
    refine (HVL.out).mono ?_
    rintro e w2 ⟨rfl, hb⟩
    have HB2 := Lib.hid (HB1.out.trans (hb.mono HB1.out.size))
    clear hb HVL
    go_wp2_with fail
    go_ret
    exact ⟨rfl, HB2.out⟩
end Go.Proofs.YtfolamkjlgpgmaaDoor
