/- PrefixesPlay's great tests. No condition but that the numbers fit. -/
import Derived.Test.YtkhbchgocilclaaPlayS
namespace Go.Proofs.Ytkhbchgocilclaa
open Go.RowKit
set_option linter.unusedVariables false
set_option linter.unusedSimpArgs false
/-- the list, and the document's -/
structure PH (b mb mk : Nat) (D : PD) (L : List Ent) (w wr : World) : Prop where
  B : BHeld b mb D w wr
  R : ∃ p cap, RefV w.heap.size mk p cap L wr
  rel : Rel D L
  ok : LOk D
theorem PH.step {b mb mk : Nat} {D : PD} {L : List Ent} {w wr w2 : World} (h : PH b mb mk D L w wr) (hb : Below wr.heap.size wr w2) : PH b mb mk D L w w2 :=
  ⟨h.B.step hb, by obtain ⟨p, cap, h1⟩ := h.R; exact ⟨p, cap, h1.step hb⟩, h.rel, h.ok⟩
theorem PH.len {b mb mk : Nat} {D : PD} {L : List Ent} {w wr : World} (h : PH b mb mk D L w wr) : L.length ≤ 8 := by
  have := h.rel.size (h.B.map.canon keyed); have := h.ok.size; omega
theorem RowE.grownBy {L : List Ent} {g mb : Nat} {D : PD} {w w' : World} (h : RowE L g w) (hp : 0 < L.length) (hm : MapIs w mb D) (hg : w.grownBy w' (some mb)) : RowE L g w' := by
  have c0 := h.at_ 0 17 _ _ (List.getElem?_eq_getElem hp) (by
    rw [encE_pre, List.getElem?_append_right (by rw [preL_length]; omega), preL_length]; rfl)
  obtain ⟨c, t, z, h1, _, _⟩ := cell_of c0
  have hne : g ≠ mb := fun e => by
    obtain ⟨es, clock, hh, _⟩ := hm
    have h1 : w.heap[g]? = _ := h1
    rw [e, hh] at h1; injection h1 with x; cases x
  have hb : w'.heap[g]? = w.heap[g]? := hg.block g h.lt (fun e => hne (by injection e))
  exact ⟨Nat.lt_of_lt_of_le h.lt hg.size, fun i c k x q1 q2 => by rw [← h.at_ i c k x q1 q2]; simp only [World.cell?, hb]⟩
theorem RefV.grownMap {base mk mb cap : Nat} {p : Option Addr} {D : PD} {L : List Ent} {w w' : World} (h : RefV base mk p cap L w) (hm : MapIs w mb D) (hg : w.grownBy w' (some mb)) : RefV base mk p cap L w' := by
  have hne : mk ≠ mb := hm.ne h.h
  refine ⟨(hg.block mk (lt_of_blk h.h) (fun e => hne (by injection e))).trans h.h, ⟨fun hp => ?_⟩, h.ge⟩
  obtain ⟨g, e, h1, h2⟩ := h.row.row hp
  exact ⟨g, e, h1, h2.grownBy hp hm hg⟩
theorem BHeld.grownRef {b mb mk base cap : Nat} {p : Option Addr} {D : PD} {L : List Ent} {w w1 w2 : World} (h : BHeld b mb D w w1) (hV : RefV base mk p cap L w1) (hb : w.heap.size ≤ base) (hg : w1.grownBy w2 (some mk)) : BHeld b mb D w w2 := by
  have n1 : b ≠ mk := fun e => by
    have q1 := h.hb
    rw [e, hV.h] at q1; injection q1 with x; injection x with _ x; cases x
  have n2 : mk ≠ mb := h.map.ne hV.h
  refine ⟨(hg.block b (lt_of_blk h.hb) (fun e => n1 (by injection e))).trans h.hb, ?_, h.gb, h.gm, h.below.grown hg h.below.size (fun k hk => by injection hk with e; rw [← e]; have := hV.ge; omega)⟩
  obtain ⟨es, clock, hm, rest⟩ := h.map
  exact ⟨es, clock, (hg.block mb (lt_of_blk hm) (fun e => n2 (by injection e with e; exact e.symm))).trans hm, rest⟩
/-- behind a call on the list and one on the document's -/
theorem PH.both {b mb mk : Nat} {D D' : PD} {L L' : List Ent} {w w1 w2 w3 : World} (h : PH b mb mk D L w w1) (l : Learnt b mb D' w1 w2) (r : ∀ p cap, RefV w.heap.size mk p cap L w2 → RefTurned w.heap.size mk L' w2 w3) (hrel : Rel D' L') (hok : LOk D') : PH b mb mk D' L' w w3 := by
  obtain ⟨p, cap, hV⟩ := h.R
  have hV2 := hV.grownMap h.B.map l.grown
  have hr := r p cap hV2
  exact ⟨(h.B.learnt l).grownRef hV2 (Nat.le_refl _) hr.grown, hr.v, hrel, hok⟩
set_option maxRecDepth 100000 in
set_option maxHeartbeats 20000000 in
theorem reg10_tick {b mb mk : Nat} {D : PD} {L : List Ent} {w w1 : World} {lb off len cap i now : Nat} {oi : Info} (H : PH b mb mk D L w w1) (ok : oi.Ok) (hnow : now < 18446744073709551616) (hi : i < len) (hl : len ≤ 150) (hlb : lb < w.heap.size) (hr : w.rangeAt lb (off + i * 23 + 1) oi.L) (hc : w.cell? ⟨lb, off + i * 23, none⟩ = some (.bool true))
    {u1 u2 u3 u4 u5 u6 u11 u12 u13 u14 u15 u16 u17 u18 u19 u20 u21 u22 u23 u24 u25 u26 u27 u28 u29 u30 u31 u32 u33 u34 u35 u36 u37 u38 u39 u40 u41 u42 u43 u44 u45 u46 u47 u48 u49 u50 u51 u52 u53 u54 u55 u56 u57 u58 u59 u60 u61 u62 u63 u64 u65 u66 u67 u68 u69 u70 u71 u72 u73 u74 u75 u76 u77 u78 u79 u80 u81 u82 u83 u84 u85 u86 u87 u88 u89 u90 u91 u92 u93 u94 u95 u96 u97 u98 u99 u100 u101 u102 u103 u104 u105 u106 u107 u108 u109 u110 u111 u112 u113 u114 u115 u116 u117 u118 u119 u120 u121 u122 u123 u124 u125 u126 u127 u128 u129 u130 u131 u132 u133 u134 u135 u136 u137 u138 u139 u140 u141 u142 u143 : Value} {Q : Exit → Act → World → Prop} (hQ : ∀ c (a : Act) d v W, Q (.panic c) (a.put d v) W → Q (.panic c) a W)
    (h : ∀ (W : World), PH b mb mk (tickD now D) (tickL now L) w W → Q .normal ⟨(List.toArray (.slice (some ⟨lb, off, none⟩) len cap :: u1 :: u2 :: u3 :: u4 :: u5 :: u6 :: .pointer (some ⟨b, 0, none⟩) :: .pointer (some ⟨mk, 0, none⟩) :: .int .u64 (now : Int) :: .int .i64 (i : Int) :: u11 :: u12 :: u13 :: u14 :: u15 :: u16 :: u17 :: u18 :: u19 :: u20 :: u21 :: u22 :: u23 :: u24 :: u25 :: u26 :: u27 :: u28 :: u29 :: u30 :: u31 :: u32 :: u33 :: u34 :: u35 :: u36 :: u37 :: u38 :: u39 :: u40 :: .slice (some ⟨lb, off, none⟩) len cap :: .int .i64 (i : Int) :: .pointer (some ⟨lb, off + i * 23, none⟩) :: .pointer (some ⟨lb, off + i * 23, none⟩) :: .bool true :: .bool true :: .pointer (some ⟨b, 0, none⟩) :: .int .u64 (now : Int) :: .int .i64 ((L.length - (tickL now L).length : Nat) : Int) :: .pointer (some ⟨mk, 0, none⟩) :: .int .u64 (now : Int) :: .int .i64 ((L.length - (tickL now L).length : Nat) : Int) :: .bool false :: .bool false :: .bool false :: .slice (some ⟨lb, off, none⟩) len cap :: .int .i64 (i : Int) :: .pointer (some ⟨lb, off + i * 23, none⟩) :: .pointer (some ⟨lb, off + i * 23, none⟩) :: .bool true :: .bool false :: .bool false :: undef :: undef :: undef :: undef :: undef :: undef :: undef :: undef :: undef :: undef :: undef :: undef :: undef :: undef :: undef :: undef :: undef :: .bool false :: .bool false :: .bool false :: .pointer (some ⟨b, 0, none⟩) :: .pointer (some ⟨mk, 0, none⟩) :: .bool true :: .bool false :: .bool false :: u88 :: u89 :: u90 :: u91 :: u92 :: u93 :: u94 :: u95 :: u96 :: u97 :: u98 :: u99 :: u100 :: u101 :: u102 :: u103 :: u104 :: u105 :: u106 :: u107 :: u108 :: u109 :: u110 :: u111 :: u112 :: u113 :: u114 :: u115 :: u116 :: u117 :: u118 :: u119 :: u120 :: u121 :: u122 :: u123 :: u124 :: u125 :: u126 :: u127 :: u128 :: u129 :: u130 :: u131 :: u132 :: u133 :: u134 :: u135 :: u136 :: u137 :: u138 :: u139 :: u140 :: u141 :: u142 :: u143 :: [])), []⟩ W) : (codeAt [1,1,1,1,1,0,1,0,0,1,0,0,1,0,0] (Try.f5.body.getD .skip)).wp Try.prog Q ⟨(List.toArray (.slice (some ⟨lb, off, none⟩) len cap :: u1 :: u2 :: u3 :: u4 :: u5 :: u6 :: .pointer (some ⟨b, 0, none⟩) :: .pointer (some ⟨mk, 0, none⟩) :: .int .u64 (now : Int) :: .int .i64 (i : Int) :: u11 :: u12 :: u13 :: u14 :: u15 :: u16 :: u17 :: u18 :: u19 :: u20 :: u21 :: u22 :: u23 :: u24 :: u25 :: u26 :: u27 :: u28 :: u29 :: u30 :: u31 :: u32 :: u33 :: u34 :: u35 :: u36 :: u37 :: u38 :: u39 :: u40 :: u41 :: u42 :: u43 :: u44 :: u45 :: u46 :: u47 :: u48 :: u49 :: u50 :: u51 :: u52 :: u53 :: u54 :: u55 :: u56 :: u57 :: u58 :: u59 :: u60 :: u61 :: u62 :: u63 :: u64 :: u65 :: u66 :: u67 :: u68 :: u69 :: u70 :: u71 :: u72 :: u73 :: u74 :: u75 :: u76 :: u77 :: u78 :: u79 :: u80 :: u81 :: u82 :: u83 :: u84 :: u85 :: u86 :: u87 :: u88 :: u89 :: u90 :: u91 :: u92 :: u93 :: u94 :: u95 :: u96 :: u97 :: u98 :: u99 :: u100 :: u101 :: u102 :: u103 :: u104 :: u105 :: u106 :: u107 :: u108 :: u109 :: u110 :: u111 :: u112 :: u113 :: u114 :: u115 :: u116 :: u117 :: u118 :: u119 :: u120 :: u121 :: u122 :: u123 :: u124 :: u125 :: u126 :: u127 :: u128 :: u129 :: u130 :: u131 :: u132 :: u133 :: u134 :: u135 :: u136 :: u137 :: u138 :: u139 :: u140 :: u141 :: u142 :: u143 :: [])), []⟩ w1 := by
    have hL : ∀ W, Below w.heap.size w W → W.rangeAt lb (off + i * 23 + 1) oi.L := fun W hW => range_below hr hW hlb
    have hct : ∀ W, Below w.heap.size w W → W.cell? ⟨lb, off + i * 23, none⟩ = some (.bool true) := fun W hW => (hW.cell (p := ⟨lb, off + i * 23, none⟩) hlb).trans hc
    have hi1 : ¬ ((len : Int) ≤ i) := by omega
    have hi2 : (i : Int) < len := by omega
    have HNW := Lib.hid hnow
    clear hr hc hl hnow
    have H0 := Lib.hid (H.step (Below.refl _ _).drew)
    conv in codeAt _ _ => whnf
    refine wp_region_held_drew (S := fun W => Below w.heap.size w W) (by kernel_rfl) H0.out.B.below ?_
    clear H
    intro HS
    refine wpAnyH_take (i := 0) (v := .slice (some ⟨lb, off, none⟩) len cap) rfl (by kernel_rfl) (by kernel_rfl) (by kernel_rfl) (fun c x W h => hQ c _ _ _ W h) (Or.inl ⟨by rfl, fun W hW => by go_simp⟩) HS ?_
    try simp only [List.getElem_toArray, List.getElem_cons_zero, List.getElem_cons_succ, Act.put, List.setIfInBounds_toArray, List.set_cons_zero, List.set_cons_succ]
    refine wpAnyH_take (i := 1) (v := .int .i64 (i : Int)) rfl (by kernel_rfl) (by kernel_rfl) (by kernel_rfl) (fun c x W h => hQ c _ _ _ W h) (Or.inl ⟨by rfl, fun W hW => by go_simp⟩) HS ?_
    try simp only [List.getElem_toArray, List.getElem_cons_zero, List.getElem_cons_succ, Act.put, List.setIfInBounds_toArray, List.set_cons_zero, List.set_cons_succ]
    refine wpAnyH_take (i := 2) (v := .pointer (some ⟨lb, off + i * 23, none⟩)) rfl (by kernel_rfl) (by kernel_rfl) (by kernel_rfl) (fun c x W h => hQ c _ _ _ W h) (Or.inl ⟨by rfl, fun W hW => by go_simp⟩) HS ?_
    try simp only [List.getElem_toArray, List.getElem_cons_zero, List.getElem_cons_succ, Act.put, List.setIfInBounds_toArray, List.set_cons_zero, List.set_cons_succ]
    refine wpAnyH_take (i := 3) (v := .pointer (some ⟨lb, off + i * 23, none⟩)) rfl (by kernel_rfl) (by kernel_rfl) (by kernel_rfl) (fun c x W h => hQ c _ _ _ W h) (Or.inl ⟨by rfl, fun W hW => by go_simp⟩) HS ?_
    try simp only [List.getElem_toArray, List.getElem_cons_zero, List.getElem_cons_succ, Act.put, List.setIfInBounds_toArray, List.set_cons_zero, List.set_cons_succ]
    refine wpAnyH_take (i := 4) (v := .bool true) rfl (by kernel_rfl) (by kernel_rfl) (by kernel_rfl) (fun c x W h => hQ c _ _ _ W h) (Or.inl ⟨by rfl, fun W hW => by have := hct W hW; go_simp⟩) HS ?_
    try simp only [List.getElem_toArray, List.getElem_cons_zero, List.getElem_cons_succ, Act.put, List.setIfInBounds_toArray, List.set_cons_zero, List.set_cons_succ]
    refine wpAnyH_take (i := 5) (v := .bool true) rfl (by kernel_rfl) (by kernel_rfl) (by kernel_rfl) (fun c x W h => hQ c _ _ _ W h) (Or.inl ⟨by rfl, fun W hW => by go_simp⟩) HS ?_
    try simp only [List.getElem_toArray, List.getElem_cons_zero, List.getElem_cons_succ, Act.put, List.setIfInBounds_toArray, List.set_cons_zero, List.set_cons_succ]
    refine wpAnyH_take (i := 6) (v := .pointer (some ⟨b, 0, none⟩)) rfl (by kernel_rfl) (by kernel_rfl) (by kernel_rfl) (fun c x W h => hQ c _ _ _ W h) (Or.inl ⟨by kernel_rfl, fun W hW => by go_simp⟩) HS ?_
    try simp only [List.getElem_toArray, List.getElem_cons_zero, List.getElem_cons_succ, Act.put, List.setIfInBounds_toArray, List.set_cons_zero, List.set_cons_succ]
    refine wpAnyH_take (i := 7) (v := .int .u64 (now : Int)) rfl (by kernel_rfl) (by kernel_rfl) (by kernel_rfl) (fun c x W h => hQ c _ _ _ W h) (Or.inl ⟨by kernel_rfl, fun W hW => by go_simp⟩) HS ?_
    try simp only [List.getElem_toArray, List.getElem_cons_zero, List.getElem_cons_succ, Act.put, List.setIfInBounds_toArray, List.set_cons_zero, List.set_cons_succ]
    refine wpAnyH_take (i := 9) (v := .pointer (some ⟨mk, 0, none⟩)) rfl (by kernel_rfl) (by kernel_rfl) (by kernel_rfl) (fun c x W h => hQ c _ _ _ W h) (Or.inl ⟨by kernel_rfl, fun W hW => by go_simp⟩) HS ?_
    try simp only [List.getElem_toArray, List.getElem_cons_zero, List.getElem_cons_succ, Act.put, List.setIfInBounds_toArray, List.set_cons_zero, List.set_cons_succ]
    refine wpAnyH_take (i := 10) (v := .int .u64 (now : Int)) rfl (by kernel_rfl) (by kernel_rfl) (by kernel_rfl) (fun c x W h => hQ c _ _ _ W h) (Or.inl ⟨by kernel_rfl, fun W hW => by go_simp⟩) HS ?_
    try simp only [List.getElem_toArray, List.getElem_cons_zero, List.getElem_cons_succ, Act.put, List.setIfInBounds_toArray, List.set_cons_zero, List.set_cons_succ]
    refine wpAnyH_ready (rs := [8]) (by kernel_rfl) (by simp) ?_
    refine AllReadyH.cons rfl (fun K hK => ?_) AllReadyH.nil
    rw [if_pos (by kernel_rfl)]
    simp only [List.getElem_toArray, List.getElem_cons_zero, List.getElem_cons_succ]
    go_simp
    have hsz : Maps.size D - Maps.size (tickD now D) = L.length - (tickL now L).length := by
      have hC := H0.out.B.map.canon keyed
      rw [H0.out.rel.size hC, (rel_tick H0.out.rel hC now).size (tick_canon hC now)]
    refine (tick_any b mb now D _ HNW.out H0.out.B.hb H0.out.B.map H0.out.ok).mono ?_
    rw [hsz]
    rintro e7 w7 ⟨rfl, l7⟩
    have HL7 := Lib.hid l7
    refine hK.out _ _ (H0.out.B.learnt HL7.out).below (fun HS => ?_)
    clear hK l7
    try simp only [List.getElem_toArray, List.getElem_cons_zero, List.getElem_cons_succ, Act.put, List.setIfInBounds_toArray, List.set_cons_zero, List.set_cons_succ]
    refine wpAnyH_ready (rs := [11]) (by kernel_rfl) (by simp) ?_
    refine AllReadyH.cons rfl (fun K hK => ?_) AllReadyH.nil
    rw [if_pos (by kernel_rfl)]
    simp only [List.getElem_toArray, List.getElem_cons_zero, List.getElem_cons_succ]
    go_simp
    obtain ⟨p8, cap8, hV8⟩ := H0.out.R
    have hV9 := hV8.grownMap H0.out.B.map HL7.out.grown
    refine (tick15 hV9 (H0.out.len) (Nat.le_trans H0.out.B.below.size HL7.out.grown.size)).mono ?_
    rintro e8 w8 ⟨rfl, t8⟩
    have hP8 : PH b mb mk (tickD now D) (tickL now L) w w8 :=
      ⟨(H0.out.B.learnt HL7.out).grownRef hV9 (Nat.le_refl _) t8.grown, t8.v, rel_tick H0.out.rel (H0.out.B.map.canon keyed) now, H0.out.ok.tick (H0.out.B.map.canon keyed) now⟩
    have H8 := Lib.hid hP8
    refine hK.out _ _ hP8.B.below (fun HS => ?_)
    clear hK hP8 t8 hV8 hV9
    try simp only [List.getElem_toArray, List.getElem_cons_zero, List.getElem_cons_succ, Act.put, List.setIfInBounds_toArray, List.set_cons_zero, List.set_cons_succ]
    refine wpAnyH_take (i := 12) (v := .bool false) rfl (by kernel_rfl) (by kernel_rfl) (by kernel_rfl) (fun c x W h => hQ c _ _ _ W h) (Or.inl ⟨by kernel_rfl, fun W hW => by go_simp⟩) HS ?_
    try simp only [List.getElem_toArray, List.getElem_cons_zero, List.getElem_cons_succ, Act.put, List.setIfInBounds_toArray, List.set_cons_zero, List.set_cons_succ]
    refine wpAnyH_take (i := 13) (v := .bool false) rfl (by kernel_rfl) (by kernel_rfl) (by kernel_rfl) (fun c x W h => hQ c _ _ _ W h) (Or.inl ⟨by rfl, fun W hW => by go_simp⟩) HS ?_
    try simp only [List.getElem_toArray, List.getElem_cons_zero, List.getElem_cons_succ, Act.put, List.setIfInBounds_toArray, List.set_cons_zero, List.set_cons_succ]
    refine wpAnyH_take (i := 14) (v := .bool false) rfl (by kernel_rfl) (by kernel_rfl) (by kernel_rfl) (fun c x W h => hQ c _ _ _ W h) (Or.inl ⟨by rfl, fun W hW => by go_simp⟩) HS ?_
    try simp only [List.getElem_toArray, List.getElem_cons_zero, List.getElem_cons_succ, Act.put, List.setIfInBounds_toArray, List.set_cons_zero, List.set_cons_succ]
    refine wpAnyH_take (i := 15) (v := .slice (some ⟨lb, off, none⟩) len cap) rfl (by kernel_rfl) (by kernel_rfl) (by kernel_rfl) (fun c x W h => hQ c _ _ _ W h) (Or.inl ⟨by kernel_rfl, fun W hW => by go_simp⟩) HS ?_
    try simp only [List.getElem_toArray, List.getElem_cons_zero, List.getElem_cons_succ, Act.put, List.setIfInBounds_toArray, List.set_cons_zero, List.set_cons_succ]
    refine wpAnyH_take (i := 16) (v := .int .i64 (i : Int)) rfl (by kernel_rfl) (by kernel_rfl) (by kernel_rfl) (fun c x W h => hQ c _ _ _ W h) (Or.inl ⟨by kernel_rfl, fun W hW => by go_simp⟩) HS ?_
    try simp only [List.getElem_toArray, List.getElem_cons_zero, List.getElem_cons_succ, Act.put, List.setIfInBounds_toArray, List.set_cons_zero, List.set_cons_succ]
    refine wpAnyH_take (i := 17) (v := .pointer (some ⟨lb, off + i * 23, none⟩)) rfl (by kernel_rfl) (by kernel_rfl) (by kernel_rfl) (fun c x W h => hQ c _ _ _ W h) (Or.inl ⟨by kernel_rfl, fun W hW => by go_simp⟩) HS ?_
    try simp only [List.getElem_toArray, List.getElem_cons_zero, List.getElem_cons_succ, Act.put, List.setIfInBounds_toArray, List.set_cons_zero, List.set_cons_succ]
    refine wpAnyH_take (i := 18) (v := .pointer (some ⟨lb, off + i * 23, none⟩)) rfl (by kernel_rfl) (by kernel_rfl) (by kernel_rfl) (fun c x W h => hQ c _ _ _ W h) (Or.inl ⟨by kernel_rfl, fun W hW => by go_simp⟩) HS ?_
    try simp only [List.getElem_toArray, List.getElem_cons_zero, List.getElem_cons_succ, Act.put, List.setIfInBounds_toArray, List.set_cons_zero, List.set_cons_succ]
    refine wpAnyH_take (i := 19) (v := .bool true) rfl (by kernel_rfl) (by kernel_rfl) (by kernel_rfl) (fun c x W h => hQ c _ _ _ W h) (Or.inl ⟨by kernel_rfl, fun W hW => by have := hct W hW; go_simp⟩) HS ?_
    try simp only [List.getElem_toArray, List.getElem_cons_zero, List.getElem_cons_succ, Act.put, List.setIfInBounds_toArray, List.set_cons_zero, List.set_cons_succ]
    refine wpAnyH_take (i := 20) (v := .bool false) rfl (by kernel_rfl) (by kernel_rfl) (by kernel_rfl) (fun c x W h => hQ c _ _ _ W h) (Or.inl ⟨by kernel_rfl, fun W hW => by go_simp⟩) HS ?_
    try simp only [List.getElem_toArray, List.getElem_cons_zero, List.getElem_cons_succ, Act.put, List.setIfInBounds_toArray, List.set_cons_zero, List.set_cons_succ]
    refine wpAnyH_take (i := 21) (v := .bool false) rfl (by kernel_rfl) (by kernel_rfl) (by kernel_rfl) (fun c x W h => hQ c _ _ _ W h) (Or.inl ⟨by kernel_rfl, fun W hW => by go_simp⟩) HS ?_
    try simp only [List.getElem_toArray, List.getElem_cons_zero, List.getElem_cons_succ, Act.put, List.setIfInBounds_toArray, List.set_cons_zero, List.set_cons_succ]
    refine wpAnyH_take (i := 22) (v := undef) rfl (by kernel_rfl) (by kernel_rfl) (by kernel_rfl) (fun c x W h => hQ c _ _ _ W h) (Or.inr ⟨by kernel_rfl, rfl⟩) HS ?_
    try simp only [List.getElem_toArray, List.getElem_cons_zero, List.getElem_cons_succ, Act.put, List.setIfInBounds_toArray, List.set_cons_zero, List.set_cons_succ]
    refine wpAnyH_take (i := 23) (v := undef) rfl (by kernel_rfl) (by kernel_rfl) (by kernel_rfl) (fun c x W h => hQ c _ _ _ W h) (Or.inr ⟨by kernel_rfl, rfl⟩) HS ?_
    try simp only [List.getElem_toArray, List.getElem_cons_zero, List.getElem_cons_succ, Act.put, List.setIfInBounds_toArray, List.set_cons_zero, List.set_cons_succ]
    refine wpAnyH_take (i := 24) (v := undef) rfl (by kernel_rfl) (by kernel_rfl) (by kernel_rfl) (fun c x W h => hQ c _ _ _ W h) (Or.inr ⟨by kernel_rfl, rfl⟩) HS ?_
    try simp only [List.getElem_toArray, List.getElem_cons_zero, List.getElem_cons_succ, Act.put, List.setIfInBounds_toArray, List.set_cons_zero, List.set_cons_succ]
    refine wpAnyH_take (i := 25) (v := undef) rfl (by kernel_rfl) (by kernel_rfl) (by kernel_rfl) (fun c x W h => hQ c _ _ _ W h) (Or.inr ⟨by kernel_rfl, rfl⟩) HS ?_
    try simp only [List.getElem_toArray, List.getElem_cons_zero, List.getElem_cons_succ, Act.put, List.setIfInBounds_toArray, List.set_cons_zero, List.set_cons_succ]
    refine wpAnyH_take (i := 26) (v := undef) rfl (by kernel_rfl) (by kernel_rfl) (by kernel_rfl) (fun c x W h => hQ c _ _ _ W h) (Or.inr ⟨by kernel_rfl, rfl⟩) HS ?_
    try simp only [List.getElem_toArray, List.getElem_cons_zero, List.getElem_cons_succ, Act.put, List.setIfInBounds_toArray, List.set_cons_zero, List.set_cons_succ]
    refine wpAnyH_take (i := 27) (v := undef) rfl (by kernel_rfl) (by kernel_rfl) (by kernel_rfl) (fun c x W h => hQ c _ _ _ W h) (Or.inr ⟨by kernel_rfl, rfl⟩) HS ?_
    try simp only [List.getElem_toArray, List.getElem_cons_zero, List.getElem_cons_succ, Act.put, List.setIfInBounds_toArray, List.set_cons_zero, List.set_cons_succ]
    refine wpAnyH_take (i := 28) (v := undef) rfl (by kernel_rfl) (by kernel_rfl) (by kernel_rfl) (fun c x W h => hQ c _ _ _ W h) (Or.inr ⟨by kernel_rfl, rfl⟩) HS ?_
    try simp only [List.getElem_toArray, List.getElem_cons_zero, List.getElem_cons_succ, Act.put, List.setIfInBounds_toArray, List.set_cons_zero, List.set_cons_succ]
    refine wpAnyH_take (i := 29) (v := undef) rfl (by kernel_rfl) (by kernel_rfl) (by kernel_rfl) (fun c x W h => hQ c _ _ _ W h) (Or.inr ⟨by kernel_rfl, rfl⟩) HS ?_
    try simp only [List.getElem_toArray, List.getElem_cons_zero, List.getElem_cons_succ, Act.put, List.setIfInBounds_toArray, List.set_cons_zero, List.set_cons_succ]
    refine wpAnyH_take (i := 30) (v := undef) rfl (by kernel_rfl) (by kernel_rfl) (by kernel_rfl) (fun c x W h => hQ c _ _ _ W h) (Or.inr ⟨by kernel_rfl, rfl⟩) HS ?_
    try simp only [List.getElem_toArray, List.getElem_cons_zero, List.getElem_cons_succ, Act.put, List.setIfInBounds_toArray, List.set_cons_zero, List.set_cons_succ]
    refine wpAnyH_take (i := 31) (v := undef) rfl (by kernel_rfl) (by kernel_rfl) (by kernel_rfl) (fun c x W h => hQ c _ _ _ W h) (Or.inr ⟨by kernel_rfl, rfl⟩) HS ?_
    try simp only [List.getElem_toArray, List.getElem_cons_zero, List.getElem_cons_succ, Act.put, List.setIfInBounds_toArray, List.set_cons_zero, List.set_cons_succ]
    refine wpAnyH_take (i := 32) (v := undef) rfl (by kernel_rfl) (by kernel_rfl) (by kernel_rfl) (fun c x W h => hQ c _ _ _ W h) (Or.inr ⟨by kernel_rfl, rfl⟩) HS ?_
    try simp only [List.getElem_toArray, List.getElem_cons_zero, List.getElem_cons_succ, Act.put, List.setIfInBounds_toArray, List.set_cons_zero, List.set_cons_succ]
    refine wpAnyH_take (i := 33) (v := undef) rfl (by kernel_rfl) (by kernel_rfl) (by kernel_rfl) (fun c x W h => hQ c _ _ _ W h) (Or.inr ⟨by kernel_rfl, rfl⟩) HS ?_
    try simp only [List.getElem_toArray, List.getElem_cons_zero, List.getElem_cons_succ, Act.put, List.setIfInBounds_toArray, List.set_cons_zero, List.set_cons_succ]
    refine wpAnyH_take (i := 34) (v := undef) rfl (by kernel_rfl) (by kernel_rfl) (by kernel_rfl) (fun c x W h => hQ c _ _ _ W h) (Or.inr ⟨by kernel_rfl, rfl⟩) HS ?_
    try simp only [List.getElem_toArray, List.getElem_cons_zero, List.getElem_cons_succ, Act.put, List.setIfInBounds_toArray, List.set_cons_zero, List.set_cons_succ]
    refine wpAnyH_take (i := 35) (v := undef) rfl (by kernel_rfl) (by kernel_rfl) (by kernel_rfl) (fun c x W h => hQ c _ _ _ W h) (Or.inr ⟨by kernel_rfl, rfl⟩) HS ?_
    try simp only [List.getElem_toArray, List.getElem_cons_zero, List.getElem_cons_succ, Act.put, List.setIfInBounds_toArray, List.set_cons_zero, List.set_cons_succ]
    refine wpAnyH_take (i := 36) (v := undef) rfl (by kernel_rfl) (by kernel_rfl) (by kernel_rfl) (fun c x W h => hQ c _ _ _ W h) (Or.inr ⟨by kernel_rfl, rfl⟩) HS ?_
    try simp only [List.getElem_toArray, List.getElem_cons_zero, List.getElem_cons_succ, Act.put, List.setIfInBounds_toArray, List.set_cons_zero, List.set_cons_succ]
    refine wpAnyH_take (i := 37) (v := undef) rfl (by kernel_rfl) (by kernel_rfl) (by kernel_rfl) (fun c x W h => hQ c _ _ _ W h) (Or.inr ⟨by kernel_rfl, rfl⟩) HS ?_
    try simp only [List.getElem_toArray, List.getElem_cons_zero, List.getElem_cons_succ, Act.put, List.setIfInBounds_toArray, List.set_cons_zero, List.set_cons_succ]
    refine wpAnyH_take (i := 38) (v := undef) rfl (by kernel_rfl) (by kernel_rfl) (by kernel_rfl) (fun c x W h => hQ c _ _ _ W h) (Or.inr ⟨by kernel_rfl, rfl⟩) HS ?_
    try simp only [List.getElem_toArray, List.getElem_cons_zero, List.getElem_cons_succ, Act.put, List.setIfInBounds_toArray, List.set_cons_zero, List.set_cons_succ]
    refine wpAnyH_take (i := 39) (v := .bool false) rfl (by kernel_rfl) (by kernel_rfl) (by kernel_rfl) (fun c x W h => hQ c _ _ _ W h) (Or.inl ⟨by kernel_rfl, fun W hW => by go_simp⟩) HS ?_
    try simp only [List.getElem_toArray, List.getElem_cons_zero, List.getElem_cons_succ, Act.put, List.setIfInBounds_toArray, List.set_cons_zero, List.set_cons_succ]
    refine wpAnyH_take (i := 40) (v := .bool false) rfl (by kernel_rfl) (by kernel_rfl) (by kernel_rfl) (fun c x W h => hQ c _ _ _ W h) (Or.inl ⟨by rfl, fun W hW => by go_simp⟩) HS ?_
    try simp only [List.getElem_toArray, List.getElem_cons_zero, List.getElem_cons_succ, Act.put, List.setIfInBounds_toArray, List.set_cons_zero, List.set_cons_succ]
    refine wpAnyH_take (i := 41) (v := .bool false) rfl (by kernel_rfl) (by kernel_rfl) (by kernel_rfl) (fun c x W h => hQ c _ _ _ W h) (Or.inl ⟨by rfl, fun W hW => by go_simp⟩) HS ?_
    try simp only [List.getElem_toArray, List.getElem_cons_zero, List.getElem_cons_succ, Act.put, List.setIfInBounds_toArray, List.set_cons_zero, List.set_cons_succ]
    refine wpAnyH_take (i := 42) (v := .pointer (some ⟨b, 0, none⟩)) rfl (by kernel_rfl) (by kernel_rfl) (by kernel_rfl) (fun c x W h => hQ c _ _ _ W h) (Or.inl ⟨by kernel_rfl, fun W hW => by go_simp⟩) HS ?_
    try simp only [List.getElem_toArray, List.getElem_cons_zero, List.getElem_cons_succ, Act.put, List.setIfInBounds_toArray, List.set_cons_zero, List.set_cons_succ]
    refine wpAnyH_take (i := 43) (v := .pointer (some ⟨mk, 0, none⟩)) rfl (by kernel_rfl) (by kernel_rfl) (by kernel_rfl) (fun c x W h => hQ c _ _ _ W h) (Or.inl ⟨by kernel_rfl, fun W hW => by go_simp⟩) HS ?_
    try simp only [List.getElem_toArray, List.getElem_cons_zero, List.getElem_cons_succ, Act.put, List.setIfInBounds_toArray, List.set_cons_zero, List.set_cons_succ]
    refine wpAnyH_ready (rs := [44]) (by kernel_rfl) (by simp) ?_
    refine AllReadyH.cons rfl (fun K hK => ?_) AllReadyH.nil
    rw [if_pos (by kernel_rfl)]
    simp only [List.getElem_toArray, List.getElem_cons_zero, List.getElem_cons_succ]
    go_simp
    obtain ⟨p9, cap9, hV9⟩ := H8.out.R
    refine (same17 H8.out.B.hb H8.out.B.map H8.out.ok H8.out.rel hV9).mono ?_
    rintro e9 w9 ⟨rfl, b9⟩
    have H9 := Lib.hid (H8.out.step b9)
    refine hK.out _ _ H9.out.B.below (fun HS => ?_)
    clear hK b9 hV9
    try simp only [List.getElem_toArray, List.getElem_cons_zero, List.getElem_cons_succ, Act.put, List.setIfInBounds_toArray, List.set_cons_zero, List.set_cons_succ]
    refine wpAnyH_take (i := 45) (v := .bool false) rfl (by kernel_rfl) (by kernel_rfl) (by kernel_rfl) (fun c x W h => hQ c _ _ _ W h) (Or.inl ⟨by kernel_rfl, fun W hW => by go_simp⟩) HS ?_
    try simp only [List.getElem_toArray, List.getElem_cons_zero, List.getElem_cons_succ, Act.put, List.setIfInBounds_toArray, List.set_cons_zero, List.set_cons_succ]
    refine wpAnyH_take (i := 46) (v := .bool false) rfl (by kernel_rfl) (by kernel_rfl) (by kernel_rfl) (fun c x W h => hQ c _ _ _ W h) (Or.inl ⟨by rfl, fun W hW => by go_simp⟩) HS ?_
    try simp only [List.getElem_toArray, List.getElem_cons_zero, List.getElem_cons_succ, Act.put, List.setIfInBounds_toArray, List.set_cons_zero, List.set_cons_succ]
    refine wpAnyH_done (by kernel_rfl) ?_ _
    exact act_eq (by kernel_rfl) (h _ H9.out)
set_option maxRecDepth 100000 in
set_option maxHeartbeats 20000000 in
theorem reg10_learn {b mb mk : Nat} {D : PD} {L : List Ent} {w w1 : World} {lb off len cap i now : Nat} {oi : Info} (H : PH b mb mk D L w w1) (ok : oi.Ok) (hnow : now < 18446744073709551616) (hi : i < len) (hl : len ≤ 150) (hlb : lb < w.heap.size) (hr : w.rangeAt lb (off + i * 23 + 1) oi.L) (hc : w.cell? ⟨lb, off + i * 23, none⟩ = some (.bool false))
    {u1 u2 u3 u4 u5 u6 u11 u12 u13 u14 u15 u16 u17 u18 u19 u20 u21 u22 u23 u24 u25 u26 u27 u28 u29 u30 u31 u32 u33 u34 u35 u36 u37 u38 u39 u40 u41 u42 u43 u44 u45 u46 u47 u48 u49 u50 u51 u52 u53 u54 u55 u56 u57 u58 u59 u60 u61 u62 u63 u64 u65 u66 u67 u68 u69 u70 u71 u72 u73 u74 u75 u76 u77 u78 u79 u80 u81 u82 u83 u84 u85 u86 u87 u88 u89 u90 u91 u92 u93 u94 u95 u96 u97 u98 u99 u100 u101 u102 u103 u104 u105 u106 u107 u108 u109 u110 u111 u112 u113 u114 u115 u116 u117 u118 u119 u120 u121 u122 u123 u124 u125 u126 u127 u128 u129 u130 u131 u132 u133 u134 u135 u136 u137 u138 u139 u140 u141 u142 u143 : Value} {Q : Exit → Act → World → Prop} (hQ : ∀ c (a : Act) d v W, Q (.panic c) (a.put d v) W → Q (.panic c) a W)
    (h : ∀ (W : World), PH b mb mk (learnD oi now D) (refLearn now oi L).1 w W → Q .normal ⟨(List.toArray (.slice (some ⟨lb, off, none⟩) len cap :: u1 :: u2 :: u3 :: u4 :: u5 :: u6 :: .pointer (some ⟨b, 0, none⟩) :: .pointer (some ⟨mk, 0, none⟩) :: .int .u64 (now : Int) :: .int .i64 (i : Int) :: u11 :: u12 :: u13 :: u14 :: u15 :: u16 :: u17 :: u18 :: u19 :: u20 :: u21 :: u22 :: u23 :: u24 :: u25 :: u26 :: u27 :: u28 :: u29 :: u30 :: u31 :: u32 :: u33 :: u34 :: u35 :: u36 :: u37 :: u38 :: u39 :: u40 :: .slice (some ⟨lb, off, none⟩) len cap :: .int .i64 (i : Int) :: .pointer (some ⟨lb, off + i * 23, none⟩) :: .pointer (some ⟨lb, off + i * 23, none⟩) :: .bool false :: .bool false :: undef :: undef :: undef :: undef :: undef :: undef :: undef :: .bool false :: .bool false :: .slice (some ⟨lb, off, none⟩) len cap :: .int .i64 (i : Int) :: .pointer (some ⟨lb, off + i * 23, none⟩) :: .pointer (some ⟨lb, off + i * 23, none⟩) :: .bool false :: .bool true :: .bool true :: .pointer (some ⟨b, 0, none⟩) :: .int .u64 (now : Int) :: .slice (some ⟨lb, off, none⟩) len cap :: .int .i64 (i : Int) :: .pointer (some ⟨lb, off + i * 23, none⟩) :: .pointer (some ⟨lb, off + i * 23 + 1, none⟩) :: .agg oi.L.toArray :: .bool (refLearn now oi L).2 :: .pointer (some ⟨mk, 0, none⟩) :: .int .u64 (now : Int) :: .slice (some ⟨lb, off, none⟩) len cap :: .int .i64 (i : Int) :: .pointer (some ⟨lb, off + i * 23, none⟩) :: .pointer (some ⟨lb, off + i * 23 + 1, none⟩) :: .agg oi.L.toArray :: .bool (refLearn now oi L).2 :: .bool false :: .bool false :: .bool false :: .bool false :: .pointer (some ⟨b, 0, none⟩) :: .pointer (some ⟨mk, 0, none⟩) :: .bool true :: .bool false :: .bool false :: u88 :: u89 :: u90 :: u91 :: u92 :: u93 :: u94 :: u95 :: u96 :: u97 :: u98 :: u99 :: u100 :: u101 :: u102 :: u103 :: u104 :: u105 :: u106 :: u107 :: u108 :: u109 :: u110 :: u111 :: u112 :: u113 :: u114 :: u115 :: u116 :: u117 :: u118 :: u119 :: u120 :: u121 :: u122 :: u123 :: u124 :: u125 :: u126 :: u127 :: u128 :: u129 :: u130 :: u131 :: u132 :: u133 :: u134 :: u135 :: u136 :: u137 :: u138 :: u139 :: u140 :: u141 :: u142 :: u143 :: [])), []⟩ W) : (codeAt [1,1,1,1,1,0,1,0,0,1,0,0,1,0,0] (Try.f5.body.getD .skip)).wp Try.prog Q ⟨(List.toArray (.slice (some ⟨lb, off, none⟩) len cap :: u1 :: u2 :: u3 :: u4 :: u5 :: u6 :: .pointer (some ⟨b, 0, none⟩) :: .pointer (some ⟨mk, 0, none⟩) :: .int .u64 (now : Int) :: .int .i64 (i : Int) :: u11 :: u12 :: u13 :: u14 :: u15 :: u16 :: u17 :: u18 :: u19 :: u20 :: u21 :: u22 :: u23 :: u24 :: u25 :: u26 :: u27 :: u28 :: u29 :: u30 :: u31 :: u32 :: u33 :: u34 :: u35 :: u36 :: u37 :: u38 :: u39 :: u40 :: u41 :: u42 :: u43 :: u44 :: u45 :: u46 :: u47 :: u48 :: u49 :: u50 :: u51 :: u52 :: u53 :: u54 :: u55 :: u56 :: u57 :: u58 :: u59 :: u60 :: u61 :: u62 :: u63 :: u64 :: u65 :: u66 :: u67 :: u68 :: u69 :: u70 :: u71 :: u72 :: u73 :: u74 :: u75 :: u76 :: u77 :: u78 :: u79 :: u80 :: u81 :: u82 :: u83 :: u84 :: u85 :: u86 :: u87 :: u88 :: u89 :: u90 :: u91 :: u92 :: u93 :: u94 :: u95 :: u96 :: u97 :: u98 :: u99 :: u100 :: u101 :: u102 :: u103 :: u104 :: u105 :: u106 :: u107 :: u108 :: u109 :: u110 :: u111 :: u112 :: u113 :: u114 :: u115 :: u116 :: u117 :: u118 :: u119 :: u120 :: u121 :: u122 :: u123 :: u124 :: u125 :: u126 :: u127 :: u128 :: u129 :: u130 :: u131 :: u132 :: u133 :: u134 :: u135 :: u136 :: u137 :: u138 :: u139 :: u140 :: u141 :: u142 :: u143 :: [])), []⟩ w1 := by
    have hL : ∀ W, Below w.heap.size w W → W.rangeAt lb (off + i * 23 + 1) oi.L := fun W hW => range_below hr hW hlb
    have hct : ∀ W, Below w.heap.size w W → W.cell? ⟨lb, off + i * 23, none⟩ = some (.bool false) := fun W hW => (hW.cell (p := ⟨lb, off + i * 23, none⟩) hlb).trans hc
    have hi1 : ¬ ((len : Int) ≤ i) := by omega
    have hi2 : (i : Int) < len := by omega
    have HNW := Lib.hid hnow
    clear hr hc hl hnow
    have H0 := Lib.hid (H.step (Below.refl _ _).drew)
    conv in codeAt _ _ => whnf
    refine wp_region_held_drew (S := fun W => Below w.heap.size w W) (by kernel_rfl) H0.out.B.below ?_
    clear H
    intro HS
    refine wpAnyH_take (i := 0) (v := .slice (some ⟨lb, off, none⟩) len cap) rfl (by kernel_rfl) (by kernel_rfl) (by kernel_rfl) (fun c x W h => hQ c _ _ _ W h) (Or.inl ⟨by rfl, fun W hW => by go_simp⟩) HS ?_
    try simp only [List.getElem_toArray, List.getElem_cons_zero, List.getElem_cons_succ, Act.put, List.setIfInBounds_toArray, List.set_cons_zero, List.set_cons_succ]
    refine wpAnyH_take (i := 1) (v := .int .i64 (i : Int)) rfl (by kernel_rfl) (by kernel_rfl) (by kernel_rfl) (fun c x W h => hQ c _ _ _ W h) (Or.inl ⟨by rfl, fun W hW => by go_simp⟩) HS ?_
    try simp only [List.getElem_toArray, List.getElem_cons_zero, List.getElem_cons_succ, Act.put, List.setIfInBounds_toArray, List.set_cons_zero, List.set_cons_succ]
    refine wpAnyH_take (i := 2) (v := .pointer (some ⟨lb, off + i * 23, none⟩)) rfl (by kernel_rfl) (by kernel_rfl) (by kernel_rfl) (fun c x W h => hQ c _ _ _ W h) (Or.inl ⟨by rfl, fun W hW => by go_simp⟩) HS ?_
    try simp only [List.getElem_toArray, List.getElem_cons_zero, List.getElem_cons_succ, Act.put, List.setIfInBounds_toArray, List.set_cons_zero, List.set_cons_succ]
    refine wpAnyH_take (i := 3) (v := .pointer (some ⟨lb, off + i * 23, none⟩)) rfl (by kernel_rfl) (by kernel_rfl) (by kernel_rfl) (fun c x W h => hQ c _ _ _ W h) (Or.inl ⟨by rfl, fun W hW => by go_simp⟩) HS ?_
    try simp only [List.getElem_toArray, List.getElem_cons_zero, List.getElem_cons_succ, Act.put, List.setIfInBounds_toArray, List.set_cons_zero, List.set_cons_succ]
    refine wpAnyH_take (i := 4) (v := .bool false) rfl (by kernel_rfl) (by kernel_rfl) (by kernel_rfl) (fun c x W h => hQ c _ _ _ W h) (Or.inl ⟨by rfl, fun W hW => by have := hct W hW; go_simp⟩) HS ?_
    try simp only [List.getElem_toArray, List.getElem_cons_zero, List.getElem_cons_succ, Act.put, List.setIfInBounds_toArray, List.set_cons_zero, List.set_cons_succ]
    refine wpAnyH_take (i := 5) (v := .bool false) rfl (by kernel_rfl) (by kernel_rfl) (by kernel_rfl) (fun c x W h => hQ c _ _ _ W h) (Or.inl ⟨by rfl, fun W hW => by go_simp⟩) HS ?_
    try simp only [List.getElem_toArray, List.getElem_cons_zero, List.getElem_cons_succ, Act.put, List.setIfInBounds_toArray, List.set_cons_zero, List.set_cons_succ]
    refine wpAnyH_take (i := 6) (v := undef) rfl (by kernel_rfl) (by kernel_rfl) (by kernel_rfl) (fun c x W h => hQ c _ _ _ W h) (Or.inr ⟨by kernel_rfl, rfl⟩) HS ?_
    try simp only [List.getElem_toArray, List.getElem_cons_zero, List.getElem_cons_succ, Act.put, List.setIfInBounds_toArray, List.set_cons_zero, List.set_cons_succ]
    refine wpAnyH_take (i := 7) (v := undef) rfl (by kernel_rfl) (by kernel_rfl) (by kernel_rfl) (fun c x W h => hQ c _ _ _ W h) (Or.inr ⟨by kernel_rfl, rfl⟩) HS ?_
    try simp only [List.getElem_toArray, List.getElem_cons_zero, List.getElem_cons_succ, Act.put, List.setIfInBounds_toArray, List.set_cons_zero, List.set_cons_succ]
    refine wpAnyH_take (i := 8) (v := undef) rfl (by kernel_rfl) (by kernel_rfl) (by kernel_rfl) (fun c x W h => hQ c _ _ _ W h) (Or.inr ⟨by kernel_rfl, rfl⟩) HS ?_
    try simp only [List.getElem_toArray, List.getElem_cons_zero, List.getElem_cons_succ, Act.put, List.setIfInBounds_toArray, List.set_cons_zero, List.set_cons_succ]
    refine wpAnyH_take (i := 9) (v := undef) rfl (by kernel_rfl) (by kernel_rfl) (by kernel_rfl) (fun c x W h => hQ c _ _ _ W h) (Or.inr ⟨by kernel_rfl, rfl⟩) HS ?_
    try simp only [List.getElem_toArray, List.getElem_cons_zero, List.getElem_cons_succ, Act.put, List.setIfInBounds_toArray, List.set_cons_zero, List.set_cons_succ]
    refine wpAnyH_take (i := 10) (v := undef) rfl (by kernel_rfl) (by kernel_rfl) (by kernel_rfl) (fun c x W h => hQ c _ _ _ W h) (Or.inr ⟨by kernel_rfl, rfl⟩) HS ?_
    try simp only [List.getElem_toArray, List.getElem_cons_zero, List.getElem_cons_succ, Act.put, List.setIfInBounds_toArray, List.set_cons_zero, List.set_cons_succ]
    refine wpAnyH_take (i := 11) (v := undef) rfl (by kernel_rfl) (by kernel_rfl) (by kernel_rfl) (fun c x W h => hQ c _ _ _ W h) (Or.inr ⟨by kernel_rfl, rfl⟩) HS ?_
    try simp only [List.getElem_toArray, List.getElem_cons_zero, List.getElem_cons_succ, Act.put, List.setIfInBounds_toArray, List.set_cons_zero, List.set_cons_succ]
    refine wpAnyH_take (i := 12) (v := undef) rfl (by kernel_rfl) (by kernel_rfl) (by kernel_rfl) (fun c x W h => hQ c _ _ _ W h) (Or.inr ⟨by kernel_rfl, rfl⟩) HS ?_
    try simp only [List.getElem_toArray, List.getElem_cons_zero, List.getElem_cons_succ, Act.put, List.setIfInBounds_toArray, List.set_cons_zero, List.set_cons_succ]
    refine wpAnyH_take (i := 13) (v := .bool false) rfl (by kernel_rfl) (by kernel_rfl) (by kernel_rfl) (fun c x W h => hQ c _ _ _ W h) (Or.inl ⟨by rfl, fun W hW => by go_simp⟩) HS ?_
    try simp only [List.getElem_toArray, List.getElem_cons_zero, List.getElem_cons_succ, Act.put, List.setIfInBounds_toArray, List.set_cons_zero, List.set_cons_succ]
    refine wpAnyH_take (i := 14) (v := .bool false) rfl (by kernel_rfl) (by kernel_rfl) (by kernel_rfl) (fun c x W h => hQ c _ _ _ W h) (Or.inl ⟨by rfl, fun W hW => by go_simp⟩) HS ?_
    try simp only [List.getElem_toArray, List.getElem_cons_zero, List.getElem_cons_succ, Act.put, List.setIfInBounds_toArray, List.set_cons_zero, List.set_cons_succ]
    refine wpAnyH_take (i := 15) (v := .slice (some ⟨lb, off, none⟩) len cap) rfl (by kernel_rfl) (by kernel_rfl) (by kernel_rfl) (fun c x W h => hQ c _ _ _ W h) (Or.inl ⟨by kernel_rfl, fun W hW => by go_simp⟩) HS ?_
    try simp only [List.getElem_toArray, List.getElem_cons_zero, List.getElem_cons_succ, Act.put, List.setIfInBounds_toArray, List.set_cons_zero, List.set_cons_succ]
    refine wpAnyH_take (i := 16) (v := .int .i64 (i : Int)) rfl (by kernel_rfl) (by kernel_rfl) (by kernel_rfl) (fun c x W h => hQ c _ _ _ W h) (Or.inl ⟨by kernel_rfl, fun W hW => by go_simp⟩) HS ?_
    try simp only [List.getElem_toArray, List.getElem_cons_zero, List.getElem_cons_succ, Act.put, List.setIfInBounds_toArray, List.set_cons_zero, List.set_cons_succ]
    refine wpAnyH_take (i := 17) (v := .pointer (some ⟨lb, off + i * 23, none⟩)) rfl (by kernel_rfl) (by kernel_rfl) (by kernel_rfl) (fun c x W h => hQ c _ _ _ W h) (Or.inl ⟨by kernel_rfl, fun W hW => by go_simp⟩) HS ?_
    try simp only [List.getElem_toArray, List.getElem_cons_zero, List.getElem_cons_succ, Act.put, List.setIfInBounds_toArray, List.set_cons_zero, List.set_cons_succ]
    refine wpAnyH_take (i := 18) (v := .pointer (some ⟨lb, off + i * 23, none⟩)) rfl (by kernel_rfl) (by kernel_rfl) (by kernel_rfl) (fun c x W h => hQ c _ _ _ W h) (Or.inl ⟨by kernel_rfl, fun W hW => by go_simp⟩) HS ?_
    try simp only [List.getElem_toArray, List.getElem_cons_zero, List.getElem_cons_succ, Act.put, List.setIfInBounds_toArray, List.set_cons_zero, List.set_cons_succ]
    refine wpAnyH_take (i := 19) (v := .bool false) rfl (by kernel_rfl) (by kernel_rfl) (by kernel_rfl) (fun c x W h => hQ c _ _ _ W h) (Or.inl ⟨by kernel_rfl, fun W hW => by have := hct W hW; go_simp⟩) HS ?_
    try simp only [List.getElem_toArray, List.getElem_cons_zero, List.getElem_cons_succ, Act.put, List.setIfInBounds_toArray, List.set_cons_zero, List.set_cons_succ]
    refine wpAnyH_take (i := 20) (v := .bool true) rfl (by kernel_rfl) (by kernel_rfl) (by kernel_rfl) (fun c x W h => hQ c _ _ _ W h) (Or.inl ⟨by kernel_rfl, fun W hW => by go_simp⟩) HS ?_
    try simp only [List.getElem_toArray, List.getElem_cons_zero, List.getElem_cons_succ, Act.put, List.setIfInBounds_toArray, List.set_cons_zero, List.set_cons_succ]
    refine wpAnyH_take (i := 21) (v := .bool true) rfl (by kernel_rfl) (by kernel_rfl) (by kernel_rfl) (fun c x W h => hQ c _ _ _ W h) (Or.inl ⟨by kernel_rfl, fun W hW => by go_simp⟩) HS ?_
    try simp only [List.getElem_toArray, List.getElem_cons_zero, List.getElem_cons_succ, Act.put, List.setIfInBounds_toArray, List.set_cons_zero, List.set_cons_succ]
    refine wpAnyH_take (i := 22) (v := .pointer (some ⟨b, 0, none⟩)) rfl (by kernel_rfl) (by kernel_rfl) (by kernel_rfl) (fun c x W h => hQ c _ _ _ W h) (Or.inl ⟨by kernel_rfl, fun W hW => by go_simp⟩) HS ?_
    try simp only [List.getElem_toArray, List.getElem_cons_zero, List.getElem_cons_succ, Act.put, List.setIfInBounds_toArray, List.set_cons_zero, List.set_cons_succ]
    refine wpAnyH_take (i := 23) (v := .int .u64 (now : Int)) rfl (by kernel_rfl) (by kernel_rfl) (by kernel_rfl) (fun c x W h => hQ c _ _ _ W h) (Or.inl ⟨by kernel_rfl, fun W hW => by go_simp⟩) HS ?_
    try simp only [List.getElem_toArray, List.getElem_cons_zero, List.getElem_cons_succ, Act.put, List.setIfInBounds_toArray, List.set_cons_zero, List.set_cons_succ]
    refine wpAnyH_take (i := 24) (v := .slice (some ⟨lb, off, none⟩) len cap) rfl (by kernel_rfl) (by kernel_rfl) (by kernel_rfl) (fun c x W h => hQ c _ _ _ W h) (Or.inl ⟨by kernel_rfl, fun W hW => by go_simp⟩) HS ?_
    try simp only [List.getElem_toArray, List.getElem_cons_zero, List.getElem_cons_succ, Act.put, List.setIfInBounds_toArray, List.set_cons_zero, List.set_cons_succ]
    refine wpAnyH_take (i := 25) (v := .int .i64 (i : Int)) rfl (by kernel_rfl) (by kernel_rfl) (by kernel_rfl) (fun c x W h => hQ c _ _ _ W h) (Or.inl ⟨by kernel_rfl, fun W hW => by go_simp⟩) HS ?_
    try simp only [List.getElem_toArray, List.getElem_cons_zero, List.getElem_cons_succ, Act.put, List.setIfInBounds_toArray, List.set_cons_zero, List.set_cons_succ]
    refine wpAnyH_take (i := 26) (v := .pointer (some ⟨lb, off + i * 23, none⟩)) rfl (by kernel_rfl) (by kernel_rfl) (by kernel_rfl) (fun c x W h => hQ c _ _ _ W h) (Or.inl ⟨by kernel_rfl, fun W hW => by go_simp⟩) HS ?_
    try simp only [List.getElem_toArray, List.getElem_cons_zero, List.getElem_cons_succ, Act.put, List.setIfInBounds_toArray, List.set_cons_zero, List.set_cons_succ]
    refine wpAnyH_take (i := 27) (v := .pointer (some ⟨lb, off + i * 23 + 1, none⟩)) rfl (by kernel_rfl) (by kernel_rfl) (by kernel_rfl) (fun c x W h => hQ c _ _ _ W h) (Or.inl ⟨by kernel_rfl, fun W hW => by go_simp⟩) HS ?_
    try simp only [List.getElem_toArray, List.getElem_cons_zero, List.getElem_cons_succ, Act.put, List.setIfInBounds_toArray, List.set_cons_zero, List.set_cons_succ]
    refine wpAnyH_take (i := 28) (v := .agg oi.L.toArray) rfl (by kernel_rfl) (by kernel_rfl) (by kernel_rfl) (fun c x W h => hQ c _ _ _ W h) (by refine yieldsIf_load_mid ?_ 28 (.tmp 68) rfl lb (off + i * 23 + 1) ?_ oi.L _ (fun W hW => hL W hW) Try.underlying28 rfl (info28 _); (kernel_rfl); (go_simp)) HS ?_
    try simp only [List.getElem_toArray, List.getElem_cons_zero, List.getElem_cons_succ, Act.put, List.setIfInBounds_toArray, List.set_cons_zero, List.set_cons_succ]
    refine wpAnyH_take (i := 30) (v := .pointer (some ⟨mk, 0, none⟩)) rfl (by kernel_rfl) (by kernel_rfl) (by kernel_rfl) (fun c x W h => hQ c _ _ _ W h) (Or.inl ⟨by kernel_rfl, fun W hW => by go_simp⟩) HS ?_
    try simp only [List.getElem_toArray, List.getElem_cons_zero, List.getElem_cons_succ, Act.put, List.setIfInBounds_toArray, List.set_cons_zero, List.set_cons_succ]
    refine wpAnyH_take (i := 31) (v := .int .u64 (now : Int)) rfl (by kernel_rfl) (by kernel_rfl) (by kernel_rfl) (fun c x W h => hQ c _ _ _ W h) (Or.inl ⟨by kernel_rfl, fun W hW => by go_simp⟩) HS ?_
    try simp only [List.getElem_toArray, List.getElem_cons_zero, List.getElem_cons_succ, Act.put, List.setIfInBounds_toArray, List.set_cons_zero, List.set_cons_succ]
    refine wpAnyH_take (i := 32) (v := .slice (some ⟨lb, off, none⟩) len cap) rfl (by kernel_rfl) (by kernel_rfl) (by kernel_rfl) (fun c x W h => hQ c _ _ _ W h) (Or.inl ⟨by kernel_rfl, fun W hW => by go_simp⟩) HS ?_
    try simp only [List.getElem_toArray, List.getElem_cons_zero, List.getElem_cons_succ, Act.put, List.setIfInBounds_toArray, List.set_cons_zero, List.set_cons_succ]
    refine wpAnyH_take (i := 33) (v := .int .i64 (i : Int)) rfl (by kernel_rfl) (by kernel_rfl) (by kernel_rfl) (fun c x W h => hQ c _ _ _ W h) (Or.inl ⟨by kernel_rfl, fun W hW => by go_simp⟩) HS ?_
    try simp only [List.getElem_toArray, List.getElem_cons_zero, List.getElem_cons_succ, Act.put, List.setIfInBounds_toArray, List.set_cons_zero, List.set_cons_succ]
    refine wpAnyH_take (i := 34) (v := .pointer (some ⟨lb, off + i * 23, none⟩)) rfl (by kernel_rfl) (by kernel_rfl) (by kernel_rfl) (fun c x W h => hQ c _ _ _ W h) (Or.inl ⟨by kernel_rfl, fun W hW => by go_simp⟩) HS ?_
    try simp only [List.getElem_toArray, List.getElem_cons_zero, List.getElem_cons_succ, Act.put, List.setIfInBounds_toArray, List.set_cons_zero, List.set_cons_succ]
    refine wpAnyH_take (i := 35) (v := .pointer (some ⟨lb, off + i * 23 + 1, none⟩)) rfl (by kernel_rfl) (by kernel_rfl) (by kernel_rfl) (fun c x W h => hQ c _ _ _ W h) (Or.inl ⟨by kernel_rfl, fun W hW => by go_simp⟩) HS ?_
    try simp only [List.getElem_toArray, List.getElem_cons_zero, List.getElem_cons_succ, Act.put, List.setIfInBounds_toArray, List.set_cons_zero, List.set_cons_succ]
    refine wpAnyH_take (i := 36) (v := .agg oi.L.toArray) rfl (by kernel_rfl) (by kernel_rfl) (by kernel_rfl) (fun c x W h => hQ c _ _ _ W h) (by refine yieldsIf_load_mid ?_ 28 (.tmp 76) rfl lb (off + i * 23 + 1) ?_ oi.L _ (fun W hW => hL W hW) Try.underlying28 rfl (info28 _); (kernel_rfl); (go_simp)) HS ?_
    try simp only [List.getElem_toArray, List.getElem_cons_zero, List.getElem_cons_succ, Act.put, List.setIfInBounds_toArray, List.set_cons_zero, List.set_cons_succ]
    refine wpAnyH_ready (rs := [29]) (by kernel_rfl) (by simp) ?_
    refine AllReadyH.cons rfl (fun K hK => ?_) AllReadyH.nil
    rw [if_pos (by kernel_rfl)]
    simp only [List.getElem_toArray, List.getElem_cons_zero, List.getElem_cons_succ]
    go_simp
    have hrl := rel_learn H0.out.rel H0.out.ok (H0.out.B.map.canon keyed) oi now
    refine (learn_any oi b mb now D _ ok HNW.out H0.out.B.hb H0.out.B.map H0.out.ok.size).mono ?_
    rw [hrl.2]
    rintro e7 w7 ⟨rfl, l7⟩
    have HL7 := Lib.hid l7
    refine hK.out _ _ (H0.out.B.learnt HL7.out).below (fun HS => ?_)
    clear hK l7
    try simp only [List.getElem_toArray, List.getElem_cons_zero, List.getElem_cons_succ, Act.put, List.setIfInBounds_toArray, List.set_cons_zero, List.set_cons_succ]
    refine wpAnyH_ready (rs := [37]) (by kernel_rfl) (by simp) ?_
    refine AllReadyH.cons rfl (fun K hK => ?_) AllReadyH.nil
    rw [if_pos (by kernel_rfl)]
    simp only [List.getElem_toArray, List.getElem_cons_zero, List.getElem_cons_succ]
    go_simp
    obtain ⟨p8, cap8, hV8⟩ := H0.out.R
    have hV9 := hV8.grownMap H0.out.B.map HL7.out.grown
    refine (learn16 hV9 (H0.out.len) (Nat.le_trans H0.out.B.below.size HL7.out.grown.size) oi ok HNW.out).mono ?_
    rintro e8 w8 ⟨rfl, t8⟩
    have hP8 : PH b mb mk (learnD oi now D) (refLearn now oi L).1 w w8 :=
      ⟨(H0.out.B.learnt HL7.out).grownRef hV9 (Nat.le_refl _) t8.grown, t8.v, (rel_learn H0.out.rel H0.out.ok (H0.out.B.map.canon keyed) oi now).1, H0.out.ok.learn ok⟩
    have H8 := Lib.hid hP8
    refine hK.out _ _ hP8.B.below (fun HS => ?_)
    clear hK hP8 t8 hV8 hV9
    try simp only [List.getElem_toArray, List.getElem_cons_zero, List.getElem_cons_succ, Act.put, List.setIfInBounds_toArray, List.set_cons_zero, List.set_cons_succ]
    refine wpAnyH_take (i := 38) (v := .bool false) rfl (by kernel_rfl) (by kernel_rfl) (by kernel_rfl) (fun c x W h => hQ c _ _ _ W h) (Or.inl ⟨by kernel_rfl, fun W hW => by go_simp⟩) HS ?_
    try simp only [List.getElem_toArray, List.getElem_cons_zero, List.getElem_cons_succ, Act.put, List.setIfInBounds_toArray, List.set_cons_zero, List.set_cons_succ]
    refine wpAnyH_take (i := 39) (v := .bool false) rfl (by kernel_rfl) (by kernel_rfl) (by kernel_rfl) (fun c x W h => hQ c _ _ _ W h) (Or.inl ⟨by kernel_rfl, fun W hW => by go_simp⟩) HS ?_
    try simp only [List.getElem_toArray, List.getElem_cons_zero, List.getElem_cons_succ, Act.put, List.setIfInBounds_toArray, List.set_cons_zero, List.set_cons_succ]
    refine wpAnyH_take (i := 40) (v := .bool false) rfl (by kernel_rfl) (by kernel_rfl) (by kernel_rfl) (fun c x W h => hQ c _ _ _ W h) (Or.inl ⟨by rfl, fun W hW => by go_simp⟩) HS ?_
    try simp only [List.getElem_toArray, List.getElem_cons_zero, List.getElem_cons_succ, Act.put, List.setIfInBounds_toArray, List.set_cons_zero, List.set_cons_succ]
    refine wpAnyH_take (i := 41) (v := .bool false) rfl (by kernel_rfl) (by kernel_rfl) (by kernel_rfl) (fun c x W h => hQ c _ _ _ W h) (Or.inl ⟨by rfl, fun W hW => by go_simp⟩) HS ?_
    try simp only [List.getElem_toArray, List.getElem_cons_zero, List.getElem_cons_succ, Act.put, List.setIfInBounds_toArray, List.set_cons_zero, List.set_cons_succ]
    refine wpAnyH_take (i := 42) (v := .pointer (some ⟨b, 0, none⟩)) rfl (by kernel_rfl) (by kernel_rfl) (by kernel_rfl) (fun c x W h => hQ c _ _ _ W h) (Or.inl ⟨by kernel_rfl, fun W hW => by go_simp⟩) HS ?_
    try simp only [List.getElem_toArray, List.getElem_cons_zero, List.getElem_cons_succ, Act.put, List.setIfInBounds_toArray, List.set_cons_zero, List.set_cons_succ]
    refine wpAnyH_take (i := 43) (v := .pointer (some ⟨mk, 0, none⟩)) rfl (by kernel_rfl) (by kernel_rfl) (by kernel_rfl) (fun c x W h => hQ c _ _ _ W h) (Or.inl ⟨by kernel_rfl, fun W hW => by go_simp⟩) HS ?_
    try simp only [List.getElem_toArray, List.getElem_cons_zero, List.getElem_cons_succ, Act.put, List.setIfInBounds_toArray, List.set_cons_zero, List.set_cons_succ]
    refine wpAnyH_ready (rs := [44]) (by kernel_rfl) (by simp) ?_
    refine AllReadyH.cons rfl (fun K hK => ?_) AllReadyH.nil
    rw [if_pos (by kernel_rfl)]
    simp only [List.getElem_toArray, List.getElem_cons_zero, List.getElem_cons_succ]
    go_simp
    obtain ⟨p9, cap9, hV9⟩ := H8.out.R
    refine (same17 H8.out.B.hb H8.out.B.map H8.out.ok H8.out.rel hV9).mono ?_
    rintro e9 w9 ⟨rfl, b9⟩
    have H9 := Lib.hid (H8.out.step b9)
    refine hK.out _ _ H9.out.B.below (fun HS => ?_)
    clear hK b9 hV9
    try simp only [List.getElem_toArray, List.getElem_cons_zero, List.getElem_cons_succ, Act.put, List.setIfInBounds_toArray, List.set_cons_zero, List.set_cons_succ]
    refine wpAnyH_take (i := 45) (v := .bool false) rfl (by kernel_rfl) (by kernel_rfl) (by kernel_rfl) (fun c x W h => hQ c _ _ _ W h) (Or.inl ⟨by kernel_rfl, fun W hW => by go_simp⟩) HS ?_
    try simp only [List.getElem_toArray, List.getElem_cons_zero, List.getElem_cons_succ, Act.put, List.setIfInBounds_toArray, List.set_cons_zero, List.set_cons_succ]
    refine wpAnyH_take (i := 46) (v := .bool false) rfl (by kernel_rfl) (by kernel_rfl) (by kernel_rfl) (fun c x W h => hQ c _ _ _ W h) (Or.inl ⟨by rfl, fun W hW => by go_simp⟩) HS ?_
    try simp only [List.getElem_toArray, List.getElem_cons_zero, List.getElem_cons_succ, Act.put, List.setIfInBounds_toArray, List.set_cons_zero, List.set_cons_succ]
    refine wpAnyH_done (by kernel_rfl) ?_ _
    exact act_eq (by kernel_rfl) (h _ H9.out)
end Go.Proofs.Ytkhbchgocilclaa
