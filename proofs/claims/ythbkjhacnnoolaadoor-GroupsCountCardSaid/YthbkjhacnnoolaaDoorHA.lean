/- GroupsCount: a round that joins: the walk. No condition beyond those named. (Written out by exp.py.) -/
import Derived.Test.YthbkjhacnnoolaaDoorGZ
namespace Go.Proofs.YthbkjhacnnoolaaDoor
open Go.RowKit Go.Maps
set_option linter.unusedVariables false
set_option linter.unusedSimpArgs false
theorem ne_map {W : World} {b m n : Nat} {c : Array Value} {T : TypeId} {z : Nat × Nat} {P : Program} {k : TypeId} {R : Value → Option (PD × List MemPlace)} {D : PD} (h : W.heap[b]? = some (.cells c T z)) (h2 : W.ownsMap P k R m n D) : b ≠ m := fun e => by
  subst e
  obtain ⟨es, clock, hb, _⟩ := h2
  rw [h] at hb; cases hb
set_option maxRecDepth 100000 in
set_option maxHeartbeats 8000000 in
theorem tailJ {w W : World} {t mj ma mc mm N K L i len cap b o b8 : Nat} {J M : PD} {f : List Nat → Nat} {l : List Nat} {X : List Value} {told : Bool} (hG : GM w W t mj ma mc mm N K L J M) (hR : Rel J M f) (hS : Maps.size J ≤ 24) (hF : ∀ l, f l ≤ i) (hN : N ≤ i) (hK : K ≤ 2 * i) (hL : L ≤ i) (hi : i < 150)
    {c : Nat} (hc : c = f l) (hl : Adr l) (h255 : l.headD 0 = 255) (hX : X = row8 l) (hb8 : W.heap[b8]? = some (.cells X.toArray 26 (0, 0))) (hle : w.heap.size ≤ b8) (ht : told = toldB l)
    (hlv : ∀ W, Below w.heap.size w W → Calls Tryd.prog 15 #[] W fun e w' => e = .returned (.bool true) ∧ Below W.heap.size W w')
    {u1 u2 u9 u10 u11 u12 u13 u14 u15 u16 u17 u18 u19 u20 u21 u22 u23 u24 u25 u26 u27 u28 u29 u30 u31 u32 u33 u34 u35 u36 u37 u38 u39 u40 u41 u42 u43 u44 u45 u46 u47 u48 u49 u50 u51 u52 u53 u54 u55 u56 u57 u58 u59 u60 u61 u62 u63 u64 u65 u66 u67 u68 u69 u70 u71 u72 u73 u74 u75 u76 u77 u78 u79 u80 u81 u82 u83 u84 u85 u86 u87 u88 u89 u90 u91 u92 u93 u94 u95 u96 u97 u98 u99 u100 u101 u102 u103 u104 u105 u106 u107 u108 u109 u110 u111 u112 u113 u114 u115 u116 u117 u118 u119 u120 u121 u122 u123 u124 u125 u126 u127 u128 u129 u130 u131 u132 u133 u134 u135 u136 u137 u138 u139 u140 u141 u142 u143 u144 u145 u146 u147 u148 u149 u150 u151 u152 u153 u154 u155 u156 u157 u158 u159 u160 u161 u162 u163 u164 u165 u166 u167 u168 u169 u170 u171 u172 u173 u174 u175 u176 u177 u178 u179 u180 u181 u182 u183 u184 u185 u186 u187 u188 u189 u190 u191 u192 u193 u194 : Value} {Q : Exit → Act → World → Prop} (hQ : ∀ c (a : Act) d v W, Q (.panic c) (a.put d v) W → Q (.panic c) a W)
    (hn : ∀ (r9 r10 r51 r52 r53 r54 r55 r56 r57 r58 r59 r60 r61 r62 r63 r64 r65 r66 r67 r68 r69 r70 r71 r72 r73 r74 r75 r76 r77 r78 r79 r80 r81 r82 r83 r84 r85 r86 r87 r88 r89 r90 r91 r92 r93 r94 r95 r96 r97 r98 r99 r100 r101 r102 r103 r104 r105 r106 r107 r108 : Value) (W' : World) (J' M' : PD) (f' : List Nat → Nat) (N' K' L' : Nat), GM w W' t mj ma mc mm N' K' L' J' M' → Rel J' M' f' → Maps.size J' ≤ 24 → (∀ l, f' l ≤ i + 1) → N' ≤ i + 1 → K' ≤ 2 * (i + 1) → L' ≤ i + 1 → Q (.exit 1) ⟨(List.toArray (.slice (some ⟨b, o, none⟩) len cap :: u1 :: u2 :: .pointer (some ⟨t, 0, none⟩) :: .map (some mm) :: .int .i64 (i : Nat) :: .pointer (some ⟨b8, 0, none⟩) :: .int .i64 (c : Nat) :: .bool told :: r9 :: r10 :: u11 :: u12 :: u13 :: u14 :: u15 :: u16 :: u17 :: u18 :: u19 :: u20 :: u21 :: u22 :: u23 :: u24 :: u25 :: u26 :: u27 :: u28 :: u29 :: u30 :: u31 :: u32 :: u33 :: u34 :: u35 :: u36 :: u37 :: u38 :: u39 :: u40 :: u41 :: u42 :: u43 :: u44 :: u45 :: u46 :: u47 :: u48 :: u49 :: u50 :: r51 :: r52 :: r53 :: r54 :: r55 :: r56 :: r57 :: r58 :: r59 :: r60 :: r61 :: r62 :: r63 :: r64 :: r65 :: r66 :: r67 :: r68 :: r69 :: r70 :: r71 :: r72 :: r73 :: r74 :: r75 :: r76 :: r77 :: r78 :: r79 :: r80 :: r81 :: r82 :: r83 :: r84 :: r85 :: r86 :: r87 :: r88 :: r89 :: r90 :: r91 :: r92 :: r93 :: r94 :: r95 :: r96 :: r97 :: r98 :: r99 :: r100 :: r101 :: r102 :: r103 :: r104 :: r105 :: r106 :: r107 :: r108 :: u109 :: u110 :: u111 :: u112 :: u113 :: u114 :: u115 :: u116 :: u117 :: u118 :: u119 :: u120 :: u121 :: u122 :: u123 :: u124 :: u125 :: u126 :: u127 :: u128 :: u129 :: u130 :: u131 :: u132 :: u133 :: u134 :: u135 :: u136 :: u137 :: u138 :: u139 :: u140 :: u141 :: u142 :: u143 :: u144 :: u145 :: u146 :: u147 :: u148 :: u149 :: u150 :: u151 :: u152 :: u153 :: u154 :: u155 :: u156 :: u157 :: u158 :: u159 :: u160 :: u161 :: u162 :: u163 :: u164 :: u165 :: u166 :: u167 :: u168 :: u169 :: u170 :: u171 :: u172 :: u173 :: u174 :: u175 :: u176 :: u177 :: u178 :: u179 :: u180 :: u181 :: u182 :: u183 :: u184 :: u185 :: u186 :: u187 :: u188 :: u189 :: u190 :: u191 :: u192 :: u193 :: u194 :: [])), []⟩ W')
    (hr : ∀ (r9 r10 r51 r52 r53 r54 r55 r56 r57 r58 r59 r60 r61 r62 r63 r64 r65 r66 r67 r68 r69 r70 r71 r72 r73 r74 r75 : Value) (W' : World), Below w.heap.size w W' → Q .ret ⟨(List.toArray (.slice (some ⟨b, o, none⟩) len cap :: u1 :: .bool true :: .pointer (some ⟨t, 0, none⟩) :: .map (some mm) :: .int .i64 (i : Nat) :: .pointer (some ⟨b8, 0, none⟩) :: .int .i64 (c : Nat) :: .bool told :: r9 :: r10 :: u11 :: u12 :: u13 :: u14 :: u15 :: u16 :: u17 :: u18 :: u19 :: u20 :: u21 :: u22 :: u23 :: u24 :: u25 :: u26 :: u27 :: u28 :: u29 :: u30 :: u31 :: u32 :: u33 :: u34 :: u35 :: u36 :: u37 :: u38 :: u39 :: u40 :: u41 :: u42 :: u43 :: u44 :: u45 :: u46 :: u47 :: u48 :: u49 :: u50 :: r51 :: r52 :: r53 :: r54 :: r55 :: r56 :: r57 :: r58 :: r59 :: r60 :: r61 :: r62 :: r63 :: r64 :: r65 :: r66 :: r67 :: r68 :: r69 :: r70 :: r71 :: r72 :: r73 :: r74 :: r75 :: u76 :: u77 :: u78 :: u79 :: u80 :: u81 :: u82 :: u83 :: u84 :: u85 :: u86 :: u87 :: u88 :: u89 :: u90 :: u91 :: u92 :: u93 :: u94 :: u95 :: u96 :: u97 :: u98 :: u99 :: u100 :: u101 :: u102 :: u103 :: u104 :: u105 :: u106 :: u107 :: u108 :: u109 :: u110 :: u111 :: u112 :: u113 :: u114 :: u115 :: u116 :: u117 :: u118 :: u119 :: u120 :: u121 :: u122 :: u123 :: u124 :: u125 :: u126 :: u127 :: u128 :: u129 :: u130 :: u131 :: u132 :: u133 :: u134 :: u135 :: u136 :: u137 :: u138 :: u139 :: u140 :: u141 :: u142 :: u143 :: u144 :: u145 :: u146 :: u147 :: u148 :: u149 :: u150 :: u151 :: u152 :: u153 :: u154 :: u155 :: u156 :: u157 :: u158 :: u159 :: u160 :: u161 :: u162 :: u163 :: u164 :: u165 :: u166 :: u167 :: u168 :: u169 :: u170 :: u171 :: u172 :: u173 :: u174 :: u175 :: u176 :: u177 :: u178 :: u179 :: u180 :: u181 :: u182 :: u183 :: u184 :: u185 :: u186 :: u187 :: u188 :: u189 :: u190 :: u191 :: u192 :: u193 :: u194 :: [])), []⟩ W') :
    (codeAt [1, 1, 1, 1, 0, 1, 0, 0, 1, 0, 0, 1, 1, 1, 0, 1, 0] (Tryd.f5.body.getD .skip)).wp Tryd.prog Q ⟨(List.toArray (.slice (some ⟨b, o, none⟩) len cap :: u1 :: u2 :: .pointer (some ⟨t, 0, none⟩) :: .map (some mm) :: .int .i64 (i : Nat) :: .pointer (some ⟨b8, 0, none⟩) :: .int .i64 (c : Nat) :: .bool told :: u9 :: u10 :: u11 :: u12 :: u13 :: u14 :: u15 :: u16 :: u17 :: u18 :: u19 :: u20 :: u21 :: u22 :: u23 :: u24 :: u25 :: u26 :: u27 :: u28 :: u29 :: u30 :: u31 :: u32 :: u33 :: u34 :: u35 :: u36 :: u37 :: u38 :: u39 :: u40 :: u41 :: u42 :: u43 :: u44 :: u45 :: u46 :: u47 :: u48 :: u49 :: u50 :: u51 :: u52 :: u53 :: u54 :: u55 :: u56 :: u57 :: u58 :: u59 :: u60 :: u61 :: u62 :: u63 :: u64 :: u65 :: u66 :: u67 :: u68 :: u69 :: u70 :: u71 :: u72 :: u73 :: u74 :: u75 :: u76 :: u77 :: u78 :: u79 :: u80 :: u81 :: u82 :: u83 :: u84 :: u85 :: u86 :: u87 :: u88 :: u89 :: u90 :: u91 :: u92 :: u93 :: u94 :: u95 :: u96 :: u97 :: u98 :: u99 :: u100 :: u101 :: u102 :: u103 :: u104 :: u105 :: u106 :: u107 :: u108 :: u109 :: u110 :: u111 :: u112 :: u113 :: u114 :: u115 :: u116 :: u117 :: u118 :: u119 :: u120 :: u121 :: u122 :: u123 :: u124 :: u125 :: u126 :: u127 :: u128 :: u129 :: u130 :: u131 :: u132 :: u133 :: u134 :: u135 :: u136 :: u137 :: u138 :: u139 :: u140 :: u141 :: u142 :: u143 :: u144 :: u145 :: u146 :: u147 :: u148 :: u149 :: u150 :: u151 :: u152 :: u153 :: u154 :: u155 :: u156 :: u157 :: u158 :: u159 :: u160 :: u161 :: u162 :: u163 :: u164 :: u165 :: u166 :: u167 :: u168 :: u169 :: u170 :: u171 :: u172 :: u173 :: u174 :: u175 :: u176 :: u177 :: u178 :: u179 :: u180 :: u181 :: u182 :: u183 :: u184 :: u185 :: u186 :: u187 :: u188 :: u189 :: u190 :: u191 :: u192 :: u193 :: u194 :: [])), []⟩ W := by
  have HR := Lib.hid hR; have HF := Lib.hid hF; have HLV := Lib.hid hlv; have HLA := Lib.hid hl; have HXE := Lib.hid hX; have HTL := Lib.hid ht
  have HXL : Hid (X.length = 16) := Lib.hid (by rw [hX, row8_length, hl.len])
  have HSZ := Lib.hid size26
  have hwp : 0 < w.heap.size := hG.kn.lt
  have z1 : 0 ≠ mj := by have := hG.lj; omega
  have z2 : 0 ≠ mc := by have := hG.lc; omega
  have z3 : 0 ≠ ma := by have := hG.la; omega
  have hci : c ≤ i := by rw [hc]; exact hF l
  have HC := Lib.hid hc
  have hj := join9 (t := t) (ma := ma) (mj := mj) (mc := mc) (n := N) (m := K) (now := i) (c := c) W hG.knW hl h255 hG.tb hG.j hG.c (by unfold maxLen; omega) (by unfold maxLen; omega) hG.jc z1 z2 (by rw [hc]; exact hR.rj l hl) (by omega) (by omega)
  rw [← hX] at hj
  have HG := Lib.hid hG
  have HNN := Lib.hid hn
  have HRT := Lib.hid hr
  clear hR hF hlv hl h255 hX ht hc hG hn hr
  conv in codeAt _ _ => whnf
  go_upto_region 13 with (first
    | (refine wpList_load_mid rfl 26 (.tmp 6) ?ho b8 0 ?hx X _ ?hr Tryd.underlying26 rfl ?hi ?_; (case ho => with_reducible rfl); (case hx => rfl); (case hr => exact row_of hb8); (case hi => rw [HXL.out]; exact HSZ.out); (try simp only [Act.put, List.setIfInBounds_toArray, List.set_cons_zero, List.set_cons_succ]))
    | (go_at_call 9; refine hj.mono ?_; rintro e w1 ⟨v, r, rfl, hres⟩; have HRES := Lib.hid hres; clear hres))
  by_cases hq : c = 0 ∧ 24 ≤ Maps.size J
  · have hres := HRES.out
    unfold JoinRes at hres
    rw [if_pos hq] at hres
    obtain ⟨rfl, ho⟩ := hres
    have HG1 := Lib.hid (HG.out.join ho)
    obtain ⟨rfl, h24⟩ := hq
    have hs24 : Maps.size J = 24 := by omega
    have h17 := list17 w1 HG1.out.tb HG1.out.j HR.out.aj (HG1.out.j.canon keyed) (by omega)
    have h15 := HLV.out
    have HB1 := Lib.hid HG1.out.below
    clear ho HRES HG hj HNN
    go_wp2_with (first
      | (go_at_call 17; refine h17.mono ?_; rintro e w2 ⟨p, ks, rfl, _, _, hk, _, hb2⟩; rw [hk, hs24]; clear hk; have HB2 := Lib.hid (HB1.out.trans (hb2.mono HB1.out.size)); clear hb2)
      | (go_at_call 15; refine (h15 _ HB2.out).mono ?_; rintro e w3 ⟨rfl, hb3⟩; have HB3 := Lib.hid (HB2.out.trans (hb3.mono HB2.out.size)); clear hb3))
    exact HRT.out _ _ _ _ _ _ _ _ _ _ _ _ _ _ _ _ _ _ _ _ _ _ _ _ _ _ _ _ HB3.out
  · have hres := HRES.out
    unfold JoinRes at hres
    rw [if_neg hq] at hres
    obtain ⟨rfl, ho⟩ := hres
    have hG1 := HG.out.join ho
    obtain ⟨w2, hrun, hown, hturn⟩ := hG1.m.store keyed Tryd.underlying53 (by unfold maxLen; omega) (keyOf_adr HLA.out) (plain3 (c := c + 1) (by omega))
    have hrun' : (Instr.mapUpdate 53 (.map (some mm)) (.agg X.toArray) (.int .i64 ((c : Int) + 1))).run Tryd.prog w1 = .ok () w2 := by rw [HXE.out]; exact hrun
    have hG2 := hG1.put hturn hown
    have hx1 := (ho.thr.block b8 (lt_of_blk hb8) (ne_map hb8 HG.out.j) (ne_map hb8 HG.out.j) (HG.out.c.elim fun D q => ne_map hb8 q)).trans hb8
    have hx2 := (hturn.grown.block b8 (lt_of_blk hx1) (fun e => ne_map hx1 hG1.m (by injection e))).trans hx1
    have hR2 := HR.out.put HG.out.j.isMap HG.out.m.isMap HLA.out (c := c + 1) (by omega)
    have hS2 := size_join HR.out (HG.out.j.tidy keyed) HLA.out HC.out.symm hq hS (jd (c + 1))
    have hF2 : ∀ k, upd f l (c + 1) k ≤ i + 1 := fun k => by
      unfold upd
      split
      · omega
      · have := HF.out k; omega
    have HEND := Lib.hid (fun (r9 r10 r51 r52 r53 r54 r55 r56 r57 r58 r59 r60 r61 r62 r63 r64 r65 r66 r67 r68 r69 r70 r71 r72 r73 r74 r75 r76 r77 r78 r79 r80 r81 r82 r83 r84 r85 r86 r87 r88 r89 r90 r91 r92 r93 r94 r95 r96 r97 r98 r99 r100 r101 r102 r103 r104 r105 r106 r107 r108 : Value) (W' : World) (hb : Below w2.heap.size w2 W') => HNN.out r9 r10 r51 r52 r53 r54 r55 r56 r57 r58 r59 r60 r61 r62 r63 r64 r65 r66 r67 r68 r69 r70 r71 r72 r73 r74 r75 r76 r77 r78 r79 r80 r81 r82 r83 r84 r85 r86 r87 r88 r89 r90 r91 r92 r93 r94 r95 r96 r97 r98 r99 r100 r101 r102 r103 r104 r105 r106 r107 r108 W' _ _ _ _ _ _ (hG2.step hb) hR2 hS2 hF2 (by omega) (by omega) (by omega))
    have HX2 := Lib.hid hx2
    by_cases htc : c = 0 ∧ told = true
    · obtain ⟨g, rfl, hg1, hg2⟩ := ho.yes (by rw [← HTL.out, htc.2]; simp [htc.1])
      have HG3 := Lib.hid ((hturn.grown.block g (lt_of_blk hg2) (fun e => ne_map hg2 hG1.m (by injection e))).trans hg2)
      have HTC := Lib.hid htc
      clear htc hS2 hF2 hR2 hG1 hG2 hown hturn hrun hg2 HG HRES hj ho hx2
      go_upto_region 16 with (first
        | (refine wpList_load_mid rfl 26 (.tmp 6) ?ho b8 0 ?hx X _ ?hr Tryd.underlying26 rfl ?hi ?_; (case ho => with_reducible rfl); (case hx => rfl); (case hr => exact row_of hx1); (case hi => rw [HXL.out]; exact HSZ.out); (try simp only [Act.put, List.setIfInBounds_toArray, List.set_cons_zero, List.set_cons_succ])))
      obtain ⟨rfl, rfl⟩ := HTC.out
      refine reg16_yes w2 HLA.out HXE.out HG3.out HX2.out (fun c a d v W h => hQ c a d v W h) ?_
      intro r80 r81 r82 r83 r84 r85 r86 r87 r88 r89 r90 r91 r92 r93 r94 r95 r96 r97 r98 r99 r100 r101 r102 r103 r104 r105 r106 r107 W3 hb3
      have HB := Lib.hid hb3
      clear hb3
      go_wp2_with fail
      exact HEND.out _ _ _ _ _ _ _ _ _ _ _ _ _ _ _ _ _ _ _ _ _ _ _ _ _ _ _ _ _ _ _ _ _ _ _ _ _ _ _ _ _ _ _ _ _ _ _ _ _ _ _ _ _ _ _ _ _ _ _ _ _ HB.out
    · have hv : v = .slice none 0 0 := ho.no (by
        rw [← HTL.out]
        cases told with
        | false => simp
        | true => simp at htc; simp [htc])
      subst hv
      have HTC := Lib.hid htc
      clear htc hS2 hF2 hR2 hG1 hG2 hown hturn hrun HG HRES hj ho hx2
      go_upto_region 16 with (first
        | (refine wpList_load_mid rfl 26 (.tmp 6) ?ho b8 0 ?hx X _ ?hr Tryd.underlying26 rfl ?hi ?_; (case ho => with_reducible rfl); (case hx => rfl); (case hr => exact row_of hx1); (case hi => rw [HXL.out]; exact HSZ.out); (try simp only [Act.put, List.setIfInBounds_toArray, List.set_cons_zero, List.set_cons_succ])))
      by_cases hcz : c = 0
      · have htf : told = false := by cases told with
          | false => rfl
          | true => exact absurd ⟨hcz, rfl⟩ HTC.out
        subst hcz htf
        refine reg16_not w2 (fun c a d v W h => hQ c a d v W h) ?_
        intro r80 r81 r82 r83 r84 r85 r86 r87 r88 r89 r90 r91 r92 r93 r94 r95 r96 r97 r98 r99 r100 r101 r102 r103 r104 r105 r106 r107 W3 hb3
        have HB := Lib.hid hb3
        clear hb3
        go_wp2_with fail
        exact HEND.out _ _ _ _ _ _ _ _ _ _ _ _ _ _ _ _ _ _ _ _ _ _ _ _ _ _ _ _ _ _ _ _ _ _ _ _ _ _ _ _ _ _ _ _ _ _ _ _ _ _ _ _ _ _ _ _ _ _ _ _ _ HB.out
      · refine reg16_no w2 hcz (fun c a d v W h => hQ c a d v W h) ?_
        intro r80 r81 r82 r83 r84 r85 r86 r87 r88 r89 r90 r91 r92 r93 r94 r95 r96 r97 r98 r99 r100 r101 r102 r103 r104 r105 r106 r107 W3 hb3
        have HB := Lib.hid hb3
        clear hb3
        go_wp2_with fail
        exact HEND.out _ _ _ _ _ _ _ _ _ _ _ _ _ _ _ _ _ _ _ _ _ _ _ _ _ _ _ _ _ _ _ _ _ _ _ _ _ _ _ _ _ _ _ _ _ _ _ _ _ _ _ _ _ _ _ _ _ _ _ _ _ HB.out
end Go.Proofs.YthbkjhacnnoolaaDoor
