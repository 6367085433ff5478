/- The walk of OptionsPut. No condition but that the options read. -/
import Derived.Test.YtfolamkjlgpgmaaDoorFoundU
import Derived.Test.YtfolamkjlgpgmaaDoorLives
namespace Go.Proofs.YtfolamkjlgpgmaaDoor
open Go.RowKit
set_option linter.unusedVariables false
set_option linter.unusedSimpArgs false
/-- a world behind four others -/
structure Ch (w w1 w2 w3 W : World) : Prop where
  b0 : Below w.heap.size w W
  b1 : Below w1.heap.size w1 W
  b2 : Below w2.heap.size w2 W
  b3 : Below w3.heap.size w3 W
theorem Ch.step {w w1 w2 w3 W W' : World} (h : Ch w w1 w2 w3 W) (hb : Below W.heap.size W W') : Ch w w1 w2 w3 W' :=
  ⟨h.b0.trans (hb.mono h.b0.size), h.b1.trans (hb.mono h.b1.size), h.b2.trans (hb.mono h.b2.size), h.b3.trans (hb.mono h.b3.size)⟩
theorem OptsAt.mono {w : World} {B C : Nat} {A : Option Addr} {L : List Opt} (h : OptsAt w B A L) (hB : B ≤ C) : OptsAt w C A L := by
  refine ⟨fun hl => ?_, fun x hx => ⟨(h.each x hx).1.mono hB, (h.each x hx).2⟩, h.many⟩
  obtain ⟨b, o, e, hlt, hc⟩ := h.at_ hl
  exact ⟨b, o, e, by omega, hc⟩
theorem data_few {L : List Opt} {x : Opt} (hx : x ∈ L) : x.data.length ≤ totD L := by
  induction L with
  | nil => cases hx
  | cons y L ih =>
    have e : totD (y :: L) = y.data.length + totD L := by simp [totD]
    rw [e]
    rcases List.mem_cons.1 hx with rfl | h
    · omega
    · have := ih h; omega
theorem Bs.clip {w : World} {B c : Nat} {A : Option Addr} {l : List Nat} (h : Bs w B A c l) : Bs w B A l.length l := ⟨h.rd, Nat.le_refl _, fun e => ⟨(h.nil e).1, by rw [(h.nil e).1]; rfl⟩, by have := h.cap; have := h.max; omega⟩
theorem own_bs {w : World} {base n c : Nat} {A : Option Addr} {l : List Nat} (h : w.ownsRow base 5 1 (.slice A n c) n (row8 l)) (hn : l.length = n) : Bs w w.heap.size A c l := by
  subst hn
  obtain ⟨A2, c2, e, h2, _⟩ := Bs.own h
  cases e
  exact h2
set_option maxRecDepth 100000 in
set_option maxHeartbeats 4000000 in
theorem optionsPut_walk {A : Option Addr} {cap kd : Nat} {L : List Opt} (w : World) (h : OptsAt w w.heap.size A L) :
    Calls Tryd.prog 5 #[.slice A L.length cap, .int .u8 (kd : Int)] w fun e w' => e = .returned (.bool true) ∧ Below w.heap.size w w' := by
  obtain ⟨n, hn⟩ : ∃ n, L.length = n := ⟨_, rfl⟩
  have HN := Lib.hid hn
  have HO := Lib.hid h
  have HG := Lib.hid (great17 (cap := cap) w h)
  rw [hn] at HG ⊢
  clear h hn
  go_enter Tryd.func5, Tryd.ntmps5
  go_wp2_with fail
  refine (HG.out).mono ?_
  rintro e w0 ⟨b, rfl, rfl, hfew⟩
  have HF := Lib.hid hfew
  clear hfew HG
  cases b
  · have hfew := HF.out rfl
    have HL5 : Hid (L.length ≤ 5000) := Lib.hid (by omega)
    have HD : Hid (∀ x ∈ L, x.data.length ≤ 5000 ∧ x.kind < 256 ∧ ∀ y ∈ x.data, y < 256) := Lib.hid fun x hx => ⟨by have := data_few hx; omega, (HO.out.each x hx).2.1, (HO.out.each x hx).2.2.1⟩
    have HF2 := Lib.hid hfew
    have HT := Lib.hid (twin20 (c := cap) w HO.out.rd HL5.out (fun x hx => (HD.out x hx).1))
    rw [HN.out] at HT
    clear hfew HF
    go_wp2_with fail
    refine (HT.out).mono ?_
    rintro e w1 ⟨T, rfl, hT⟩
    rw [HN.out]
    obtain ⟨gt, hgt0⟩ : ∃ gt, gt = w.heap.size := ⟨_, rfl⟩
    rw [← hgt0] at hT ⊢
    have NG := Lib.hid hgt0
    obtain ⟨hpb, htd, htl⟩ := kd_lists hT.kd
    have HP := Lib.hid (put18 (cap := n + 4) w1 (hT.opts HL5.out HD.out) (by rw [htl, htd]; exact HF2.out))
    rw [hpb, htl, HN.out] at HP
    obtain ⟨pb, hpb0⟩ : ∃ pb, pb = putB L := ⟨_, rfl⟩
    rw [← hpb0] at HP
    have HPB := Lib.hid hpb0
    have hpl : pb.length ≤ 1000000000 := by have := putB_few (L := L) HF2.out n; rw [List.take_of_length_le (by rw [HN.out]; exact Nat.le_refl _)] at this; rw [hpb0]; exact this
    have HT1 := Lib.hid hT
    have HTL : Hid (T.length = n) := Lib.hid (by rw [htl]; exact HN.out)
    clear hT hpb htd htl hpb0 HT hgt0
    go_wp2_with fail
    refine (HP.out).mono ?_
    rintro e w2 ⟨Ab, kb, rfl, hob, hb2⟩
    obtain ⟨np, hnp⟩ : ∃ np, pb.length = np := ⟨_, rfl⟩
    rw [hnp] at hob hpl ⊢
    have HNP := Lib.hid hnp
    have HT2 := Lib.hid (HT1.out.step hb2)
    have HFI := Lib.hid (find21 (c := n + 4) (kd := kd) w2 (HT2.out.rd HL5.out (fun x hx => (HD.out x hx).1)) (Nat.le_refl _) (fun x hx => by
      obtain ⟨y, hy⟩ := List.getElem?_of_mem hx
      obtain ⟨z, g, h1, h2, h3, -⟩ := HT2.out.at_ hy
      rw [h3]; have := (HD.out z (List.mem_of_getElem? h1)).1; omega))
    rw [HTL.out] at HFI
    have HOB := Lib.hid hob
    have HB2 := Lib.hid hb2
    clear hob hb2 hnp HP
    go_wp2_with fail
    refine (HFI.out).mono ?_
    intro e w3 hfi
    obtain ⟨a, d, A3, b3, c3, rfl, hb3, ho3, hfk⟩ := foundU hfi
    have hc3 : Ch w w1 w2 w3 w3 := ⟨by rw [← NG.out]; exact (HT2.out.below).trans (hb3.mono (by have := lt_of_blk HT2.out.row; omega)), HB2.out.trans (hb3.mono HB2.out.size), hb3, Below.refl _ _⟩
    obtain ⟨dn, hdn⟩ : ∃ dn, d.length = dn := ⟨_, rfl⟩
    rw [hdn] at ho3 ⊢
    have HDN := Lib.hid hdn
    have HFK := Lib.hid hfk
    have HO3 := Lib.hid ho3
    have hq4 := heap_alloc_new w3 (.cells #[.int .u8 (a : Int), .slice A3 dn dn] 41)
    have hc4 := hc3.step ((Below.refl w3.heap.size w3).alloc (Nat.le_refl _) (.cells #[.int .u8 (a : Int), .slice A3 dn dn] 41))
    have HS22 := Lib.hid (find22 (c := cap) (kd := kd) _ (HO.out.rd.below hc4.b0) hc4.b0.size)
    rw [HN.out] at HS22
    have HC4 := Lib.hid hc4
    have HQ4 := Lib.hid hq4
    clear hfi hdn hfk ho3 hb3 hc3 hc4 hq4 HFI
    go_wp2_with fail
    refine (HS22.out).mono ?_
    intro e w5 hse
    have hb5 := hse.1
    have hc5 := HC4.out.step hb5
    have hq5 := (hb5.block _ (lt_of_blk HQ4.out)).trans HQ4.out
    obtain ⟨a2, d2, A5, b5, c5, rfl, -, hbs5, hfk2⟩ := selfU hse (HO.out.rd.below hc5.b0)
    obtain ⟨rfl, rfl, rfl⟩ := FK.same HT2.out.kd HFK.out hfk2
    rw [HDN.out]
    have hq96 := heap_alloc_new w5 (.cells #[.int .u8 (a2 : Int), .slice A5 dn c5] 41)
    have hb6 : Below w5.heap.size w5 (w5.alloc (.cells #[.int .u8 (a2 : Int), .slice A5 dn c5] 41)) := (Below.refl _ _).alloc (Nat.le_refl _) _
    have hc6 := hc5.step hb6
    have hq76 := (hb6.block _ (lt_of_blk hq5)).trans hq5
    have HRP := Lib.hid (refPut23 (cap := cap) _ ((HO.out.below hc6.b0).mono hc6.b0.size) HF2.out)
    rw [HN.out] at HRP
    have HC6 := Lib.hid hc6
    have HQ7 := Lib.hid hq76
    have HQ9 := Lib.hid hq96
    have HBS := Lib.hid (hbs5.below (hb6.mono (by have := hc5.b0.size; omega)))
    clear hse hb5 hc5 hq5 hbs5 hfk2 hb6 hc6 hq96 hq76 HS22 HC4 HQ4
    go_wp2_with fail
    refine (HRP.out).mono ?_
    rintro e w7 ⟨Ar, cr, rfl, hor, hb7⟩
    rw [← HPB.out, HNP.out] at hor ⊢
    have hc7 := HC6.out.step hb7
    have hq77 := (hb7.block _ (lt_of_blk HQ7.out)).trans HQ7.out
    have hq97 := (hb7.block _ (lt_of_blk HQ9.out)).trans HQ9.out
    have hbs7 := (HBS.out.below (hb7.mono (by have := HC6.out.b0.size; omega))).mono hc7.b0.size
    have HS19 := Lib.hid (same19 w7 (own_bs (own_below HOB.out hc7.b2) HNP.out).clip (own_bs hor HNP.out) (by rw [HNP.out]; exact hpl))
    rw [show (pb == pb) = true from beq_self_eq_true _, HNP.out] at HS19
    have hba : Bs w7 w7.heap.size A3 d2.length d2 := (own_bs (own_below HO3.out hc7.b3) HDN.out).clip
    have k0 := cell_blk hq77 0
    have k1 := cell_blk hq77 1
    have m0 := cell_blk hq97 0
    have m1 := cell_blk hq97 1
    simp only [List.getElem?_toArray, List.getElem?_cons_zero, List.getElem?_cons_succ] at k0 k1 m0 m1
    have tb : (b5 != b5) = false := by cases b5 <;> rfl
    have hdl : d2.length ≤ 1000000000 := by
      rcases HFK.out with ⟨_, _, h1, _⟩ | ⟨_, _, k, x, h1, _, _, h2⟩
      · rw [h1]; simp
      · rw [h2]
        obtain ⟨y, g, h3, h4, h5, -⟩ := HT1.out.at_ h1
        rw [h5]; have := (HD.out y (List.mem_of_getElem? h3)).1; omega
    have HS24 := Lib.hid (fun j => same24 (kd := a2) (w7.drewN j) (hba.below (Below.drewN' _ _ j)) (hbs7.below (Below.drewN' _ _ j)) hdl (Nat.le_refl _))
    rw [HDN.out] at HS24
    have HC7 := Lib.hid hc7
    have HQ77 := Lib.hid hq77
    clear hor hb7 hc7 hq77 hq97 hbs7 hba HRP HC6 HQ7 HQ9 HBS hdl
    go_wp2_with fail
    refine (HS19.out).mono ?_
    rintro e w8 ⟨rfl, j, rfl⟩
    clear HS19
    go_wp2_with fail
    refine (HS24.out j).mono ?_
    rintro e w9 ⟨rfl, hb9⟩
    have hb79 : Below w7.heap.size w7 w9 := (Below.drewN' _ _ j).trans hb9
    have hc9 := HC7.out.step hb79
    have HLF := Lib.hid (left25 (c := cap) w9 (HT1.out.step hc9.b1) ((HO.out.rd.below hc9.b0).mono hc9.b0.size) HL5.out (fun x hx => (HD.out x hx).1))
    rw [HN.out] at HLF
    have HC9 := Lib.hid hc9
    have HQ97 := Lib.hid ((hb79.block _ (lt_of_blk HQ77.out)).trans HQ77.out)
    clear hb9 hb79 hc9 HS24 k0 k1 m0 m1
    go_wp2_with fail
    refine (HLF.out).mono ?_
    rintro e w10 ⟨rfl, hb10⟩
    have hc10 := HC9.out.step hb10
    have hq10 := (hb10.block _ (lt_of_blk HQ97.out)).trans HQ97.out
    have hkb := heap_alloc_new w10 (.cells #[.slice none 0 0] 33)
    have hbk : BookAt (w10.alloc (.cells #[.slice none 0 0] 33)) w10.heap.size [] := ⟨.slice none 0 0, hkb, World.ownsRow_nil _ _ _ _⟩
    have hb11 : Below w10.heap.size w10 (w10.alloc (.cells #[.slice none 0 0] 33)) := (Below.refl _ _).alloc (Nat.le_refl _) _
    have hrd := HT1.out.step hc10.b1
    have H15 := Lib.hid (options15 (c := n + 4) (S := []) (M := T) _ hbk ((hrd.rd HL5.out (fun x hx => (HD.out x hx).1)).below hb11) (by rw [HTL.out]; have := HN.out; have := HL5.out; simp; omega))
    rw [HTL.out] at H15
    have HC10 := Lib.hid hc10
    have HQ10 := Lib.hid hq10
    have HB11 := Lib.hid hb11
    clear hb10 hc10 hq10 hkb hbk hb11 hrd HLF
    go_wp2_with fail
    refine (H15.out).mono ?_
    rintro e w11 ⟨rfl, hbk, hb⟩
    have hb11 := HB11.out.trans hb
    have hTn : (T.map spanOf).length ≤ 5000 := by rw [List.length_map, HTL.out]; have := HN.out; have := HL5.out; omega
    rw [List.nil_append] at hbk
    have H14 := Lib.hid (bytes14 (n := np) (c := np) (A := Ab) w11 hbk (by omega))
    have HB11' := Lib.hid hb11
    have HTn := Lib.hid hTn
    clear hbk hb hb11 hTn H15 HB11
    go_wp2_with fail
    refine (H14.out).mono ?_
    rintro e w12 ⟨rfl, hbk, hb⟩
    have hb12 := HB11'.out.trans hb
    have H14b := Lib.hid (bytes14 (n := dn) (c := dn) (A := A3) w12 hbk (by have := HTn.out; simp only [List.length_append, List.length_singleton]; omega))
    have hq12 := (hb12.block _ (lt_of_blk HQ10.out)).trans HQ10.out
    have k1 := cell_blk hq12 1
    simp only [List.getElem?_toArray, List.getElem?_cons_zero, List.getElem?_cons_succ] at k1
    have HB12 := Lib.hid hb12
    clear hbk hb hb12 hq12 H14
    go_wp2_with fail
    refine (H14b.out).mono ?_
    rintro e w13 ⟨rfl, hbk, hb⟩
    have hb13 := HB12.out.trans hb
    have c10 := HC10.out
    have hdl : dn ≤ 1000000000 := by
      rw [← HDN.out]
      rcases HFK.out with ⟨_, _, h1, _⟩ | ⟨_, _, k, x, h1, _, _, h2⟩
      · rw [h1]; simp
      · rw [h2]
        obtain ⟨y, g, h3, h4, h5, -⟩ := HT1.out.at_ h1
        rw [h5]; have := (HD.out y (List.mem_of_getElem? h3)).1; omega
    obtain ⟨s1, s2⟩ := HT1.out.spans (hi := w1.heap.size) (fun x hx => (HD.out x hx).1) (Nat.le_refl _)
    have sb : SpanIn w1.heap.size w2.heap.size w2 ⟨Ab, np, np⟩ := own_span HOB.out hpl (Nat.le_refl _)
    have so : SpanIn w2.heap.size w3.heap.size w3 ⟨A3, dn, dn⟩ := own_span HO3.out hdl (Nat.le_refl _)
    have hsz1 : w1.heap.size ≤ w10.heap.size := c10.b1.size
    have hsz2 : w2.heap.size ≤ w10.heap.size := c10.b2.size
    have hsz3 : w3.heap.size ≤ w10.heap.size := c10.b3.size
    have hgt1 : gt < w1.heap.size := lt_of_blk HT1.out.row
    have hgt2 : gt < w2.heap.size := lt_of_blk HT2.out.row
    have H16 := Lib.hid (apart16 (lo := gt) w13 hbk (fun x hx => by
      rcases List.mem_append.1 hx with hx | hx
      · rcases List.mem_append.1 hx with hx | hx
        · exact (((s1 x hx).below c10.b1 (Nat.le_refl _)).mono hsz1).below hb13 (Nat.le_refl _)
        · rw [List.mem_singleton] at hx; subst hx
          exact (((sb.low (by omega)).below c10.b2 (Nat.le_refl _)).mono hsz2).below hb13 (Nat.le_refl _)
      · rw [List.mem_singleton] at hx; subst hx
        exact (((so.low (by omega)).below c10.b3 (Nat.le_refl _)).mono hsz3).below hb13 (Nat.le_refl _)) (by
      rw [List.pairwise_append, List.pairwise_append]
      refine ⟨⟨s2, by simp, fun x hx y hy => ?_⟩, by simp, fun x hx y hy => ?_⟩
      · rw [List.mem_singleton] at hy; subst hy
        exact apart_hi (s1 x hx) sb (Nat.le_refl _)
      · rw [List.mem_singleton] at hy; subst hy
        rcases List.mem_append.1 hx with hx | hx
        · exact apart_hi (s1 x hx) so HB2.out.size
        · rw [List.mem_singleton] at hx; subst hx
          exact apart_hi sb so (Nat.le_refl _)) (by omega) (by have := HTn.out; simp only [List.length_append, List.length_singleton]; omega))
    have HB013 := Lib.hid (c10.b0.trans (hb13.mono c10.b0.size))
    clear hbk hb hb13 c10 hdl s1 s2 sb so H14b
    go_wp2_with fail
    refine (H16.out).mono ?_
    rintro e w14 ⟨rfl, hb14⟩
    rw [NG.out] at hb14
    have HB014 := Lib.hid (HB013.out.trans hb14)
    have HV := Lib.hid (lives8 w14)
    clear hb14 H16
    go_wp2_with fail
    refine (HV.out).mono ?_
    rintro e w15 ⟨rfl, hb15⟩
    have HB015 := Lib.hid (HB014.out.trans (hb15.mono HB014.out.size))
    clear hb15 HV
    go_wp2_with fail
    go_ret
    exact ⟨rfl, HB015.out⟩
  · have HV := Lib.hid (lives8 w)
    go_wp2_with fail
    refine (HV.out).mono ?_
    rintro e w1 ⟨rfl, hb⟩
    have HB := Lib.hid hb
    clear hb HV
    go_wp2_with fail
    go_ret
    exact ⟨rfl, HB.out⟩
end Go.Proofs.YtfolamkjlgpgmaaDoor
