/- GroupsCount: a round that leaves: the walk. No condition beyond those named. (Written out by exp.py.) -/
import Derived.Test.YthbkjhacnnoolaaDoorHA
namespace Go.Proofs.YthbkjhacnnoolaaDoor
open Go.RowKit Go.Maps
set_option linter.unusedVariables false
set_option linter.unusedSimpArgs false
theorem tidy_put {w W : World} {t mj ma mc mm N K L : Nat} {J M : PD} (h : GM w W t mj ma mc mm N K L J M) {l : List Nat} (hl : Adr l) {d : PD} : Tidy (J.put (kl l) d) := (h.j.tidy keyed).put (isKeyLit_kl l) d
set_option maxRecDepth 100000 in
set_option maxHeartbeats 8000000 in
theorem tailL {w W : World} {t mj ma mc mm N K L i len cap b o b8 : Nat} {J M : PD} {f : List Nat → Nat} {l : List Nat} {X : List Value} {told : Bool} (hG : GM w W t mj ma mc mm N K L J M) (hR : Rel J M f) (hS : Maps.size J ≤ 24) (hF : ∀ l, f l ≤ i) (hN : N ≤ i) (hK : K ≤ 2 * i) (hL : L ≤ i) (hi : i < 150)
    {c : Nat} (hc : c = f l) (hl : Adr l) (h255 : l.headD 0 = 255) (hX : X = row8 l) (hb8 : W.heap[b8]? = some (.cells X.toArray 26 (0, 0))) (hle : w.heap.size ≤ b8) (ht : told = toldB l)
    (hlv : ∀ W, Below w.heap.size w W → Calls Tryd.prog 15 #[] W fun e w' => e = .returned (.bool true) ∧ Below W.heap.size W w')
    {u1 u2 u9 u10 u11 u12 u13 u14 u15 u16 u17 u18 u19 u20 u21 u22 u23 u24 u25 u26 u27 u28 u29 u30 u31 u32 u33 u34 u35 u36 u37 u38 u39 u40 u41 u42 u43 u44 u45 u46 u47 u48 u49 u50 u51 u52 u53 u54 u55 u56 u57 u58 u59 u60 u61 u62 u63 u64 u65 u66 u67 u68 u69 u70 u71 u72 u73 u74 u75 u76 u77 u78 u79 u80 u81 u82 u83 u84 u85 u86 u87 u88 u89 u90 u91 u92 u93 u94 u95 u96 u97 u98 u99 u100 u101 u102 u103 u104 u105 u106 u107 u108 u109 u110 u111 u112 u113 u114 u115 u116 u117 u118 u119 u120 u121 u122 u123 u124 u125 u126 u127 u128 u129 u130 u131 u132 u133 u134 u135 u136 u137 u138 u139 u140 u141 u142 u143 u144 u145 u146 u147 u148 u149 u150 u151 u152 u153 u154 u155 u156 u157 u158 u159 u160 u161 u162 u163 u164 u165 u166 u167 u168 u169 u170 u171 u172 u173 u174 u175 u176 u177 u178 u179 u180 u181 u182 u183 u184 u185 u186 u187 u188 u189 u190 u191 u192 u193 u194 : Value} {Q : Exit → Act → World → Prop} (hQ : ∀ c (a : Act) d v W, Q (.panic c) (a.put d v) W → Q (.panic c) a W)
    (hn : ∀ (r11 r12 r109 r110 r111 r112 r113 r114 r115 r116 r117 r118 r119 r120 r121 r122 r123 r124 r125 r126 r127 r128 r129 r130 r131 r132 r133 r134 r135 r136 r137 r138 r139 r140 r141 r142 r143 r144 r145 r146 r147 r148 r149 r150 r151 r152 r153 r154 r155 r156 r157 r158 r159 r160 r161 r162 r163 r164 : Value) (W' : World) (J' M' : PD) (f' : List Nat → Nat) (N' K' L' : Nat), GM w W' t mj ma mc mm N' K' L' J' M' → Rel J' M' f' → Maps.size J' ≤ 24 → (∀ l, f' l ≤ i + 1) → N' ≤ i + 1 → K' ≤ 2 * (i + 1) → L' ≤ i + 1 → Q .normal ⟨(List.toArray (.slice (some ⟨b, o, none⟩) len cap :: u1 :: u2 :: .pointer (some ⟨t, 0, none⟩) :: .map (some mm) :: .int .i64 (i : Nat) :: .pointer (some ⟨b8, 0, none⟩) :: .int .i64 (c : Nat) :: .bool told :: u9 :: u10 :: r11 :: r12 :: u13 :: u14 :: u15 :: u16 :: u17 :: u18 :: u19 :: u20 :: u21 :: u22 :: u23 :: u24 :: u25 :: u26 :: u27 :: u28 :: u29 :: u30 :: u31 :: u32 :: u33 :: u34 :: u35 :: u36 :: u37 :: u38 :: u39 :: u40 :: u41 :: u42 :: u43 :: u44 :: u45 :: u46 :: u47 :: u48 :: u49 :: u50 :: u51 :: u52 :: u53 :: u54 :: u55 :: u56 :: u57 :: u58 :: u59 :: u60 :: u61 :: u62 :: u63 :: u64 :: u65 :: u66 :: u67 :: u68 :: u69 :: u70 :: u71 :: u72 :: u73 :: u74 :: u75 :: u76 :: u77 :: u78 :: u79 :: u80 :: u81 :: u82 :: u83 :: u84 :: u85 :: u86 :: u87 :: u88 :: u89 :: u90 :: u91 :: u92 :: u93 :: u94 :: u95 :: u96 :: u97 :: u98 :: u99 :: u100 :: u101 :: u102 :: u103 :: u104 :: u105 :: u106 :: u107 :: u108 :: r109 :: r110 :: r111 :: r112 :: r113 :: r114 :: r115 :: r116 :: r117 :: r118 :: r119 :: r120 :: r121 :: r122 :: r123 :: r124 :: r125 :: r126 :: r127 :: r128 :: r129 :: r130 :: r131 :: r132 :: r133 :: r134 :: r135 :: r136 :: r137 :: r138 :: r139 :: r140 :: r141 :: r142 :: r143 :: r144 :: r145 :: r146 :: r147 :: r148 :: r149 :: r150 :: r151 :: r152 :: r153 :: r154 :: r155 :: r156 :: r157 :: r158 :: r159 :: r160 :: r161 :: r162 :: r163 :: r164 :: u165 :: u166 :: u167 :: u168 :: u169 :: u170 :: u171 :: u172 :: u173 :: u174 :: u175 :: u176 :: u177 :: u178 :: u179 :: u180 :: u181 :: u182 :: u183 :: u184 :: u185 :: u186 :: u187 :: u188 :: u189 :: u190 :: u191 :: u192 :: u193 :: u194 :: [])), []⟩ W') :
    (codeAt [1, 1, 1, 1, 0, 1, 0, 0, 1, 0, 0, 1, 1, 1, 1] (Tryd.f5.body.getD .skip)).wp Tryd.prog Q ⟨(List.toArray (.slice (some ⟨b, o, none⟩) len cap :: u1 :: u2 :: .pointer (some ⟨t, 0, none⟩) :: .map (some mm) :: .int .i64 (i : Nat) :: .pointer (some ⟨b8, 0, none⟩) :: .int .i64 (c : Nat) :: .bool told :: u9 :: u10 :: u11 :: u12 :: u13 :: u14 :: u15 :: u16 :: u17 :: u18 :: u19 :: u20 :: u21 :: u22 :: u23 :: u24 :: u25 :: u26 :: u27 :: u28 :: u29 :: u30 :: u31 :: u32 :: u33 :: u34 :: u35 :: u36 :: u37 :: u38 :: u39 :: u40 :: u41 :: u42 :: u43 :: u44 :: u45 :: u46 :: u47 :: u48 :: u49 :: u50 :: u51 :: u52 :: u53 :: u54 :: u55 :: u56 :: u57 :: u58 :: u59 :: u60 :: u61 :: u62 :: u63 :: u64 :: u65 :: u66 :: u67 :: u68 :: u69 :: u70 :: u71 :: u72 :: u73 :: u74 :: u75 :: u76 :: u77 :: u78 :: u79 :: u80 :: u81 :: u82 :: u83 :: u84 :: u85 :: u86 :: u87 :: u88 :: u89 :: u90 :: u91 :: u92 :: u93 :: u94 :: u95 :: u96 :: u97 :: u98 :: u99 :: u100 :: u101 :: u102 :: u103 :: u104 :: u105 :: u106 :: u107 :: u108 :: u109 :: u110 :: u111 :: u112 :: u113 :: u114 :: u115 :: u116 :: u117 :: u118 :: u119 :: u120 :: u121 :: u122 :: u123 :: u124 :: u125 :: u126 :: u127 :: u128 :: u129 :: u130 :: u131 :: u132 :: u133 :: u134 :: u135 :: u136 :: u137 :: u138 :: u139 :: u140 :: u141 :: u142 :: u143 :: u144 :: u145 :: u146 :: u147 :: u148 :: u149 :: u150 :: u151 :: u152 :: u153 :: u154 :: u155 :: u156 :: u157 :: u158 :: u159 :: u160 :: u161 :: u162 :: u163 :: u164 :: u165 :: u166 :: u167 :: u168 :: u169 :: u170 :: u171 :: u172 :: u173 :: u174 :: u175 :: u176 :: u177 :: u178 :: u179 :: u180 :: u181 :: u182 :: u183 :: u184 :: u185 :: u186 :: u187 :: u188 :: u189 :: u190 :: u191 :: u192 :: u193 :: u194 :: [])), []⟩ W := by
  have HR := Lib.hid hR; have HF := Lib.hid hF; have HLV := Lib.hid hlv; have HLA := Lib.hid hl; have HXE := Lib.hid hX; have HTL := Lib.hid ht
  have HXL : Hid (X.length = 16) := Lib.hid (by rw [hX, row8_length, hl.len])
  have HSZ := Lib.hid size26
  have hwp : 0 < w.heap.size := hG.kn.lt
  have z1 : 0 ≠ mj := by have := hG.lj; omega
  have z2 : 0 ≠ mc := by have := hG.lc; omega
  have z3 : 0 ≠ ma := by have := hG.la; omega
  have hci : c ≤ i := by rw [hc]; exact hF l
  have HC := Lib.hid hc
  have hj := leave18 (t := t) (ma := ma) (mj := mj) (mc := mc) (n := N) (m := K) (now := i) (c := c) W hG.knW hl h255 hG.tb hG.j hG.a hG.c (by unfold maxLen; omega) (by unfold maxLen; omega) hG.jc hG.ja hG.ac z1 z2 z3 (by rw [hc]; exact hR.rj l hl) (by omega) (by omega)
  rw [← hX] at hj
  have HG := Lib.hid hG
  have HNN := Lib.hid hn
  clear hR hF hlv hl h255 hX ht hc hG hn
  conv in codeAt _ _ => whnf
  go_upto_region 19 with (first
    | (refine wpList_load_mid rfl 26 (.tmp 6) ?ho b8 0 ?hx X _ ?hr Tryd.underlying26 rfl ?hi ?_; (case ho => with_reducible rfl); (case hx => rfl); (case hr => exact row_of hb8); (case hi => rw [HXL.out]; exact HSZ.out); (try simp only [Act.put, List.setIfInBounds_toArray, List.set_cons_zero, List.set_cons_succ]))
    | (go_at_call 18; refine hj.mono ?_; rintro e w1 ⟨v, r, rfl, hres⟩; have HRES := Lib.hid hres; clear hres))
  clear hj
  rcases Nat.eq_zero_or_pos c with hc0 | hc0
  · have hres := HRES.out
    unfold LeaveRes at hres
    rw [if_pos hc0] at hres
    obtain ⟨rfl, ho⟩ := hres
    have hG1 := HG.out.leave ho
    have HEND := Lib.hid (fun (r11 r12 r109 r110 r111 r112 r113 r114 r115 r116 r117 r118 r119 r120 r121 r122 r123 r124 r125 r126 r127 r128 r129 r130 r131 r132 r133 r134 r135 r136 r137 r138 r139 r140 r141 r142 r143 r144 r145 r146 r147 r148 r149 r150 r151 r152 r153 r154 r155 r156 r157 r158 r159 r160 r161 r162 r163 r164 : Value) => HNN.out r11 r12 r109 r110 r111 r112 r113 r114 r115 r116 r117 r118 r119 r120 r121 r122 r123 r124 r125 r126 r127 r128 r129 r130 r131 r132 r133 r134 r135 r136 r137 r138 r139 r140 r141 r142 r143 r144 r145 r146 r147 r148 r149 r150 r151 r152 r153 r154 r155 r156 r157 r158 r159 r160 r161 r162 r163 r164 w1 J M f _ _ _ hG1 HR.out hS (fun k => by have := HF.out k; omega) (by omega) (by omega) (by omega))
    subst hc0
    clear ho HRES HG HNN hG1
    go_wp2_with fail
    exact HEND.out _ _ _ _ _ _ _ _ _ _ _ _ _ _ _ _ _ _ _ _ _ _ _ _ _ _ _ _ _ _ _ _ _ _ _ _ _ _ _ _ _ _ _ _ _ _ _ _ _ _ _ _ _ _ _ _ _ _
  · have hG1 : ∃ v', v = v' ∧ r = 0 ∧ OutL 3 l (decide (c = 1) && told) v mj ma mc (N + 1) (K + 2) (if c = 1 then (J.put (kl l) (jd 0)).del (kl l) else J.put (kl l) (jd (c - 1))) W w1 := by
      have hres := HRES.out
      unfold LeaveRes at hres
      rw [if_neg (by omega)] at hres
      by_cases h1 : c = 1
      · rw [if_pos h1] at hres ⊢
        refine ⟨v, rfl, hres.1, ?_⟩
        have := hres.2
        rw [← HTL.out] at this
        simpa [h1] using this
      · rw [if_neg h1] at hres ⊢
        refine ⟨v, rfl, hres.1, ?_⟩
        have := hres.2
        simpa [h1] using this
    obtain ⟨v', _, rfl, ho⟩ := hG1
    have hG1 := HG.out.leave ho
    obtain ⟨w2, hrun, hown, hturn⟩ := hG1.m.store keyed Tryd.underlying53 (by unfold maxLen; omega) (keyOf_adr HLA.out) (plain3 (c := c - 1) (by omega))
    have hrun' : (Instr.mapUpdate 53 (.map (some mm)) (.agg X.toArray) (.int .i64 ((c : Int) - 1))).run Tryd.prog w1 = .ok () w2 := by
      rw [HXE.out, show ((c : Int) - 1) = ((c - 1 : Nat) : Int) from by omega]; exact hrun
    have hG2 := hG1.put hturn hown
    have hx1 := (ho.thr.block b8 (lt_of_blk hb8) (ne_map hb8 HG.out.j) (ne_map hb8 HG.out.a) (HG.out.c.elim fun D q => ne_map hb8 q)).trans hb8
    have HX2 := Lib.hid ((hturn.grown.block b8 (lt_of_blk hx1) (fun e => ne_map hx1 hG1.m (by injection e))).trans hx1)
    have hR2 : Rel (if c = 1 then (J.put (kl l) (jd 0)).del (kl l) else J.put (kl l) (jd (c - 1))) (M.put (kl l) (jd (c - 1))) (upd f l (c - 1)) := by
      by_cases h1 : c = 1
      · subst h1; exact HR.out.gone HG.out.j.isMap HG.out.m.isMap HLA.out
      · rw [if_neg h1]; exact HR.out.put HG.out.j.isMap HG.out.m.isMap HLA.out (c := c - 1) (by omega)
    have hh : Maps.has J (kl l) = true := (HR.out.hj l HLA.out).2 (by rw [← HC.out]; exact hc0)
    have hS2 : Maps.size (if c = 1 then (J.put (kl l) (jd 0)).del (kl l) else J.put (kl l) (jd (c - 1))) ≤ 24 := by
      have hp := fun d : PD => size_put (HG.out.j.tidy keyed) (k := kl l) d
      by_cases h1 : c = 1
      · rw [if_pos h1]
        have tp : Tidy (J.put (kl l) (jd 0)) := tidy_put HG.out HLA.out
        have := size_del tp (k := kl l)
        rw [hp, if_pos hh] at this
        omega
      · rw [if_neg h1, hp, if_pos hh]; exact hS
    have hF2 : ∀ k, upd f l (c - 1) k ≤ i + 1 := fun k => by
      unfold upd
      split
      · omega
      · have := HF.out k; omega
    have HEND := Lib.hid (fun (r11 r12 r109 r110 r111 r112 r113 r114 r115 r116 r117 r118 r119 r120 r121 r122 r123 r124 r125 r126 r127 r128 r129 r130 r131 r132 r133 r134 r135 r136 r137 r138 r139 r140 r141 r142 r143 r144 r145 r146 r147 r148 r149 r150 r151 r152 r153 r154 r155 r156 r157 r158 r159 r160 r161 r162 r163 r164 : Value) (W' : World) (hb : Below w2.heap.size w2 W') => HNN.out r11 r12 r109 r110 r111 r112 r113 r114 r115 r116 r117 r118 r119 r120 r121 r122 r123 r124 r125 r126 r127 r128 r129 r130 r131 r132 r133 r134 r135 r136 r137 r138 r139 r140 r141 r142 r143 r144 r145 r146 r147 r148 r149 r150 r151 r152 r153 r154 r155 r156 r157 r158 r159 r160 r161 r162 r163 r164 W' _ _ _ _ _ _ (hG2.step hb) hR2 hS2 hF2 (by omega) (by omega) (by omega))
    have tc : decide ((0 : Int) < (c : Int)) = true := by simp; omega
    by_cases htc : c = 1 ∧ told = true
    · obtain ⟨g, rfl, hg1, hg2⟩ := ho.yes (by rw [htc.2]; simp [htc.1])
      have HG3 := Lib.hid ((hturn.grown.block g (lt_of_blk hg2) (fun e => ne_map hg2 hG1.m (by injection e))).trans hg2)
      have HTC := Lib.hid htc
      clear htc hS2 hF2 hR2 hG1 hG2 hown hturn hrun hg2 HG HRES ho hh
      go_upto_region 23 with (first
        | (refine wpList_load_mid rfl 26 (.tmp 6) ?ho b8 0 ?hx X _ ?hr Tryd.underlying26 rfl ?hi ?_; (case ho => with_reducible rfl); (case hx => rfl); (case hr => exact row_of hx1); (case hi => rw [HXL.out]; exact HSZ.out); (try simp only [Act.put, List.setIfInBounds_toArray, List.set_cons_zero, List.set_cons_succ])))
      obtain ⟨rfl, rfl⟩ := HTC.out
      refine reg23_yes w2 HLA.out HXE.out HG3.out HX2.out (fun c a d v W h => hQ c a d v W h) ?_
      intro r136 r137 r138 r139 r140 r141 r142 r143 r144 r145 r146 r147 r148 r149 r150 r151 r152 r153 r154 r155 r156 r157 r158 r159 r160 r161 r162 r163 W3 hb3
      have HB := Lib.hid hb3
      clear hb3
      go_wp2_with fail
      exact HEND.out _ _ _ _ _ _ _ _ _ _ _ _ _ _ _ _ _ _ _ _ _ _ _ _ _ _ _ _ _ _ _ _ _ _ _ _ _ _ _ _ _ _ _ _ _ _ _ _ _ _ _ _ _ _ _ _ _ _ _ HB.out
    · have hv : v = .slice none 0 0 := ho.no (by
        cases told with
        | false => simp
        | true => simp at htc; simp [htc])
      subst hv
      have HTC := Lib.hid htc
      clear htc hS2 hF2 hR2 hG1 hG2 hown hturn hrun HG HRES ho hh
      go_upto_region 23 with (first
        | (refine wpList_load_mid rfl 26 (.tmp 6) ?ho b8 0 ?hx X _ ?hr Tryd.underlying26 rfl ?hi ?_; (case ho => with_reducible rfl); (case hx => rfl); (case hr => exact row_of hx1); (case hi => rw [HXL.out]; exact HSZ.out); (try simp only [Act.put, List.setIfInBounds_toArray, List.set_cons_zero, List.set_cons_succ])))
      by_cases hcz : c = 1
      · have htf : told = false := by cases told with
          | false => rfl
          | true => exact absurd ⟨hcz, rfl⟩ HTC.out
        subst hcz htf
        refine reg23_not w2 (fun c a d v W h => hQ c a d v W h) ?_
        intro r136 r137 r138 r139 r140 r141 r142 r143 r144 r145 r146 r147 r148 r149 r150 r151 r152 r153 r154 r155 r156 r157 r158 r159 r160 r161 r162 r163 W3 hb3
        have HB := Lib.hid hb3
        clear hb3
        go_wp2_with fail
        exact HEND.out _ _ _ _ _ _ _ _ _ _ _ _ _ _ _ _ _ _ _ _ _ _ _ _ _ _ _ _ _ _ _ _ _ _ _ _ _ _ _ _ _ _ _ _ _ _ _ _ _ _ _ _ _ _ _ _ _ _ _ HB.out
      · refine reg23_no w2 hcz (fun c a d v W h => hQ c a d v W h) ?_
        intro r136 r137 r138 r139 r140 r141 r142 r143 r144 r145 r146 r147 r148 r149 r150 r151 r152 r153 r154 r155 r156 r157 r158 r159 r160 r161 r162 r163 W3 hb3
        have HB := Lib.hid hb3
        clear hb3
        go_wp2_with fail
        exact HEND.out _ _ _ _ _ _ _ _ _ _ _ _ _ _ _ _ _ _ _ _ _ _ _ _ _ _ _ _ _ _ _ _ _ _ _ _ _ _ _ _ _ _ _ _ _ _ _ _ _ _ _ _ _ _ _ _ _ _ _ HB.out
end Go.Proofs.YthbkjhacnnoolaaDoor
