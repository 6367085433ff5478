/- GroupsCount: the groups counted at the end: the walk. No condition beyond those named. (Written out by exp.py.) -/
import Derived.Test.YthbkjhacnnoolaaDoorHB
namespace Go.Proofs.YthbkjhacnnoolaaDoor
open Go.RowKit Go.Maps
set_option linter.unusedVariables false
set_option linter.unusedSimpArgs false
theorem ranges_below {w w' : World} {P : Program} {k : TypeId} {R : Value → Option (PD × List MemPlace)} {b r n cnt : Nat} {D : PD} {left : Lit → Bool} (h : w.ranges P k R b r n D left cnt) (hb : Below w.heap.size w w') : w'.ranges P k R b r n D left cnt :=
  h.kept (row := none) ⟨hb.os, hb.tape, hb.output, hb.size, fun i hi _ => hb.block i hi⟩ (by simp) (by simp)
theorem val_is {P : Program} {t : TypeId} (he : P.underlying t = some (.int .i64)) {M : PD} {k : Lit} {f : Nat} {c : Int} {y : PD × List MemPlace} (h1 : plainElem P t (.int .i64 c) = some y) (h2 : ∀ zd, M.atKey k zd = y.1) (h3 : M.atKey k (jd 0) = jd f) : c = (f : Int) := by
  have e := (h2 (jd 0)).symm.trans h3
  obtain ⟨a, e1, rfl, _⟩ := plainElem_int_inv he h1
  unfold jd at e
  injection e with e
  injection e with _ e
  injection e1 with _ e1
  rw [e1, e]
set_option maxRecDepth 100000 in
set_option maxHeartbeats 8000000 in
theorem tailC {w W : World} {t mj ma mc mm N K L : Nat} {J M : PD} {f : List Nat → Nat} (hG : GM w W t mj ma mc mm N K L J M) (hR : Rel J M f) (hS : Maps.size J ≤ 24) (hF : ∀ l, f l ≤ 150) (hL : L ≤ 150)
    (hlv : ∀ W, Below w.heap.size w W → Calls Tryd.prog 15 #[] W fun e w' => e = .returned (.bool true) ∧ Below W.heap.size W w')
    {u0 u1 u2 u5 u6 u7 u8 u9 u10 u11 u12 u13 u14 u15 u16 u17 u18 u19 u20 u21 u22 u23 u24 u25 u26 u27 u28 u29 u30 u31 u32 u33 u34 u35 u36 u37 u38 u39 u40 u41 u42 u43 u44 u45 u46 u47 u48 u49 u50 u51 u52 u53 u54 u55 u56 u57 u58 u59 u60 u61 u62 u63 u64 u65 u66 u67 u68 u69 u70 u71 u72 u73 u74 u75 u76 u77 u78 u79 u80 u81 u82 u83 u84 u85 u86 u87 u88 u89 u90 u91 u92 u93 u94 u95 u96 u97 u98 u99 u100 u101 u102 u103 u104 u105 u106 u107 u108 u109 u110 u111 u112 u113 u114 u115 u116 u117 u118 u119 u120 u121 u122 u123 u124 u125 u126 u127 u128 u129 u130 u131 u132 u133 u134 u135 u136 u137 u138 u139 u140 u141 u142 u143 u144 u145 u146 u147 u148 u149 u150 u151 u152 u153 u154 u155 u156 u157 u158 u159 u160 u161 u162 u163 u164 u165 u166 u167 u168 u169 u170 u171 u172 u173 u174 u175 u176 u177 u178 u179 u180 u181 u182 u183 u184 u185 u186 u187 u188 u189 u190 u191 u192 u193 u194 : Value} :
    (codeAt [1, 1, 1, 1, 1] (Tryd.f5.body.getD .skip)).wp Tryd.prog (bodyPost Tryd.prog Tryd.f5 fun e w' => e = .returned (.bool true) ∧ Below w.heap.size w w') ⟨(List.toArray (u0 :: u1 :: u2 :: .pointer (some ⟨t, 0, none⟩) :: .map (some mm) :: u5 :: u6 :: u7 :: u8 :: u9 :: u10 :: u11 :: u12 :: u13 :: u14 :: u15 :: u16 :: u17 :: u18 :: u19 :: u20 :: u21 :: u22 :: u23 :: u24 :: u25 :: u26 :: u27 :: u28 :: u29 :: u30 :: u31 :: u32 :: u33 :: u34 :: u35 :: u36 :: u37 :: u38 :: u39 :: u40 :: u41 :: u42 :: u43 :: u44 :: u45 :: u46 :: u47 :: u48 :: u49 :: u50 :: u51 :: u52 :: u53 :: u54 :: u55 :: u56 :: u57 :: u58 :: u59 :: u60 :: u61 :: u62 :: u63 :: u64 :: u65 :: u66 :: u67 :: u68 :: u69 :: u70 :: u71 :: u72 :: u73 :: u74 :: u75 :: u76 :: u77 :: u78 :: u79 :: u80 :: u81 :: u82 :: u83 :: u84 :: u85 :: u86 :: u87 :: u88 :: u89 :: u90 :: u91 :: u92 :: u93 :: u94 :: u95 :: u96 :: u97 :: u98 :: u99 :: u100 :: u101 :: u102 :: u103 :: u104 :: u105 :: u106 :: u107 :: u108 :: u109 :: u110 :: u111 :: u112 :: u113 :: u114 :: u115 :: u116 :: u117 :: u118 :: u119 :: u120 :: u121 :: u122 :: u123 :: u124 :: u125 :: u126 :: u127 :: u128 :: u129 :: u130 :: u131 :: u132 :: u133 :: u134 :: u135 :: u136 :: u137 :: u138 :: u139 :: u140 :: u141 :: u142 :: u143 :: u144 :: u145 :: u146 :: u147 :: u148 :: u149 :: u150 :: u151 :: u152 :: u153 :: u154 :: u155 :: u156 :: u157 :: u158 :: u159 :: u160 :: u161 :: u162 :: u163 :: u164 :: u165 :: u166 :: u167 :: u168 :: u169 :: u170 :: u171 :: u172 :: u173 :: u174 :: u175 :: u176 :: u177 :: u178 :: u179 :: u180 :: u181 :: u182 :: u183 :: u184 :: u185 :: u186 :: u187 :: u188 :: u189 :: u190 :: u191 :: u192 :: u193 :: u194 :: [])), []⟩ W := by
  have HR := Lib.hid hR; have HF := Lib.hid hF; have HLV := Lib.hid hlv; have HG := Lib.hid hG
  have HSZ := Lib.hid size26
  have hown := hG.m
  have hML : Maps.size M ≤ L := hG.m.size_le
  clear hR hF hlv hG
  conv in codeAt _ _ => whnf
  go_upto_region 27 with (first
    | (at_range; refine wpList_range_own _ rfl _ 53 rfl 26 3 keyed Tryd.underlying53 _ mm L _ rfl hown ?_; intro w0 hrg0 hg0 hs0; have HRG0 := Lib.hid hrg0; have HG0 := Lib.hid hg0; clear hrg0 hg0 hs0))
  go_frame
  go_loopw [13] (fun v13 wr => ∃ (left : Lit → Bool) (cnt : Nat) (ss : List (List Nat)), v13 = .int .i64 ((ss.filter fun l => decide (0 < f l)).length : Nat) ∧ wr.ranges Tryd.prog 26 (plainElem Tryd.prog 3) mm W.heap.size L M left cnt ∧ ss.length + cnt ≤ Maps.size M ∧ (∀ x, left x = true → Maps.has M x = true) ∧ Coll M left ss ∧ Below W.heap.size W wr)
    (fun _ wr => wr.rangeLeft mm W.heap.size)
  case atStart =>
    exact ⟨_, _, [], rfl, HRG0.out, by simp, fun x h => h, Coll.start M, ⟨HG0.out.os, HG0.out.tape, HG0.out.output, HG0.out.size, fun i hi => HG0.out.block i hi (by simp)⟩⟩
  case round =>
    obtain ⟨left, cnt, ss, rfl, hrg, hcs, hlh, hC, hB⟩ := hrel
    have HB := Lib.hid hB; have HC := Lib.hid hC; have HLH := Lib.hid hlh
    clear hB hC hlh
    go_wp2_with (first
      | (at_next; refine wpList_next_ranges _ rfl _ rfl 26 keyed (plainElem Tryd.prog 3) (fun v : Value => v) (Value.int .i64) (fun key kl hk => ⟨key, rfl⟩) (fun v y hv => by obtain ⟨c, rfl, _⟩ := plainElem_int_inv Tryd.underlying3 hv; exact ⟨c, rfl⟩) mm W.heap.size L _ _ _ rfl hrg ?_ ?_))
    · intro hc0 hl0
      have hG1 := HG.out.step HB.out
      have HKS := HC.out.allKeys hl0
      have h17 := list17 wr hG1.tb hG1.j HR.out.aj (hG1.j.canon keyed) (by omega)
      have HCN : Hid (∀ ks : List AdrT, AllKeys J (ks.map (·.1)) → (ss.filter fun l => decide (0 < f l)).length = ks.length) := Lib.hid fun ks h => by
        have := HR.out.count HKS h
        rwa [List.length_map] at this
      obtain ⟨n, hn⟩ : ∃ n, n = (ss.filter fun l => decide (0 < f l)).length := ⟨_, rfl⟩
      rw [← hn] at HCN ⊢
      have h15 := HLV.out
      have HB1 := Lib.hid hG1.below
      clear hG1 HKS hn hrg HC HLH hcs hc0 hl0 HG HB hown
      go_wp2_with (first
        | (go_at_call 17; refine h17.mono ?_; rintro e w2 ⟨p, ks, rfl, hak, _, _, _, hb2⟩; rw [← HCN.out ks hak]; clear hak; have HB2 := Lib.hid (HB1.out.trans (hb2.mono HB1.out.size)); clear hb2)
        | (go_at_call 15; refine (h15 _ HB2.out).mono ?_; rintro e w3 ⟨rfl, hb3⟩; have HB3 := Lib.hid (HB2.out.trans (hb3.mono HB2.out.size)); clear hb3))
      go_ret
      exact ⟨rfl, HB3.out⟩
    · intro x c kx yd yp w2 cnt2 hkey hlk hv hat hrg2 hlt hg2 hs2 hen
      obtain ⟨a, ha, rfl⟩ := HR.out.am kx (HLH.out kx hlk)
      obtain rfl : x = .agg (row8 a).toArray := keyed.inj hkey (keyOf_adr ha)
      obtain rfl : c = (f a : Int) := val_is Tryd.underlying3 hv hat (HR.out.rm a ha)
      have hB2 : Below W.heap.size W w2 := HB.out.grown hg2 HB.out.size (fun k e => by cases e; exact Nat.le_refl _)
      have HHAS := Lib.hid (HLH.out (kl a) hlk)
      have HLK := Lib.hid hlk
      have HRG2 := Lib.hid hrg2; have HLT := Lib.hid hlt; have HRG := Lib.hid hrg
      have HA := Lib.hid ha
      have HB2 := Lib.hid hB2
      obtain ⟨X, hX⟩ : ∃ X, X = row8 a := ⟨_, rfl⟩
      have HXL : Hid (X.length = 16) := Lib.hid (by rw [hX, row8_length, ha.len])
      have HX1 : Hid (∀ v ∈ X, v.oneCell' = true) := Lib.hid (by rw [hX]; exact row8_one _)
      rw [← hX] at hen ⊢
      have HX := Lib.hid hX
      obtain ⟨n, hn⟩ : ∃ n, n = (ss.filter fun l => decide (0 < f l)).length := ⟨_, rfl⟩
      rw [← hn]
      have HN := Lib.hid hn
      clear hrg hrg2 hg2 hs2 hkey hlk hv hat hB2 ha hX hn hlt
      go_upto_region 29 with (first | (refine wpList_store_new rfl 26 (.tmp 14) (.tmp 170) ?ho w2 _ X.toArray 26 ?hx ?hy ?hi ?hc ?h1 ?_; (case ho => with_reducible rfl); (case hx => rfl); (case hy => rfl); (case hi => rw [List.size_toArray, HXL.out]; exact HSZ.out); (case hc => exact Eq.trans (b := 16) rfl (by rw [List.size_toArray, HXL.out])); (case h1 => exact all_oneCell_toArray HX1.out)))
      have hal : Below w2.heap.size w2 (w2.alloc (.cells X.toArray 26)) := (Below.refl _ _).alloc (Nat.le_refl _) _
      have HB14 := Lib.hid (heap_alloc_new w2 (.cells X.toArray 26))
      have HB3 := Lib.hid (HB2.out.trans (hal.mono HB2.out.size))
      have HRG3 := Lib.hid (ranges_below HRG2.out hal)
      obtain ⟨W3, hW3⟩ : ∃ W3, W3 = w2.alloc (.cells X.toArray 26) := ⟨_, rfl⟩
      obtain ⟨b14, hb14⟩ : ∃ b14, b14 = w2.heap.size := ⟨_, rfl⟩
      rw [← hW3] at HB14 HB3 HRG3 ⊢
      rw [← hb14] at HB14 ⊢
      clear hal hW3 hb14 HRG2 HB2
      have hG3 := HG.out.step HB3.out
      have h19 := has19 W3 hG3.knW HA.out hG3.tb hG3.j (HR.out.rj a HA.out)
      rw [← HX.out] at h19
      have HCOLL : Hid (Coll M (fun z => left z && !z.sameKey (kl a)) (ss ++ [a])) := Lib.hid (HC.out.step HA.out HHAS.out HLK.out)
      have HLH2 : Hid (∀ x, (left x && !x.sameKey (kl a)) = true → Maps.has M x = true) := Lib.hid fun x h => HLH.out x (by simp at h; exact h.1)
      have HLEN : Hid ((ss ++ [a]).length + cnt2 ≤ Maps.size M) := Lib.hid (by have := HLT.out; simp; omega)
      have heq : ∀ W, (Op.equalIn 10000 26 (.agg X.toArray) (.agg #[.int .u8 255, .int .u8 2, .int .u8 0, .int .u8 0, .int .u8 0, .int .u8 0, .int .u8 0, .int .u8 0, .int .u8 0, .int .u8 0, .int .u8 0, .int .u8 0, .int .u8 0, .int .u8 0, .int .u8 0, .int .u8 1])).run Tryd.prog W = .ok (a == nodesL) W := fun W => by
        rw [HX.out]; exact eq26 HA.out nodes_adr 9998 W
      obtain ⟨r, hr⟩ : ∃ r, r = (a == nodesL) := ⟨_, rfl⟩
      rw [← hr] at heq h19
      have HMEAS : Hid (∀ w' : World, w'.ranges Tryd.prog 26 (plainElem (H := Unit) Tryd.prog 3) mm W.heap.size L M (fun z => left z && !z.sameKey (kl a)) cnt2 → w'.rangeLeft mm W.heap.size < wr.rangeLeft mm W.heap.size) := Lib.hid fun w' h => by rw [h.left_eq, HRG.out.left_eq]; exact HLT.out
      clear hr hG3 HC HLH HHAS HLK HRG HLT hcs HX HB hown HG HR HLV HG0 HRG0
      by_cases hf : 0 < f a
      · have tf : decide ((0 : Int) < (f a : Int)) = true := by simp; omega
        have HN2 : Hid (((ss ++ [a]).filter fun l => decide (0 < f l)).length = n + 1) := Lib.hid (by rw [List.filter_append, List.length_append, ← HN.out]; simp [hf])
        have hn150 : n ≤ 150 := by
          have h1 := HLEN.out
          have h2 : n ≤ ss.length := by rw [HN.out]; exact List.length_filter_le _ _
          simp only [List.length_append] at h1
          omega
        have e1 : (decide (0 < f a) || r) = true := by simp [hf]
        rw [e1] at h19
        clear e1 HN
        go_wp2_with (first | (refine wpList_load_mid rfl 26 (.tmp 14) ?ho b14 0 ?hx X _ ?hr Tryd.underlying26 rfl ?hi ?_; (case ho => with_reducible rfl); (case hx => rfl); (case hr => exact row_of HB14.out); (case hi => rw [HXL.out]; exact HSZ.out); (try simp only [Act.put, List.setIfInBounds_toArray, List.set_cons_zero, List.set_cons_succ])) | (go_at_call 19; refine h19.mono ?_; rintro e w4 ⟨rfl, hb4⟩; have H4 := Lib.hid hb4; clear hb4))
        have hrg4 := ranges_below HRG3.out H4.out
        exact ⟨⟨_, cnt2, ss ++ [a], by rw [HN2.out]; go_num, hrg4, HLEN.out, HLH2.out, HCOLL.out, HB3.out.trans (H4.out.mono HB3.out.size)⟩, HMEAS.out _ hrg4⟩
      · have tf : decide ((0 : Int) < (f a : Int)) = false := by simp; omega
        have HN2 : Hid (((ss ++ [a]).filter fun l => decide (0 < f l)).length = n) := Lib.hid (by rw [List.filter_append, List.length_append, ← HN.out]; simp [hf])
        have e1 : (decide (0 < f a) || r) = r := by simp [hf]
        rw [e1] at h19
        clear e1 HN
        cases r <;>
        · go_wp2_with (first | (refine wpList_load_mid rfl 26 (.tmp 14) ?ho b14 0 ?hx X _ ?hr Tryd.underlying26 rfl ?hi ?_; (case ho => with_reducible rfl); (case hx => rfl); (case hr => exact row_of HB14.out); (case hi => rw [HXL.out]; exact HSZ.out); (try simp only [Act.put, List.setIfInBounds_toArray, List.set_cons_zero, List.set_cons_succ])) | (refine wpList_load_mid_w ?hw 26 (.tmp 14) ?ho b14 0 ?hx X _ ?hr Tryd.underlying26 rfl ?hi ?_; (case ho => with_reducible rfl); (case hx => rfl); (case hw => rfl); (case hr => exact row_of HB4.out); (case hi => rw [HXL.out]; exact HSZ.out)) | (go_at_call 19; refine h19.mono ?_; rintro e w4 ⟨rfl, hb4⟩; have H4 := Lib.hid hb4; clear hb4; have HB4 := Lib.hid ((H4.out.block _ (lt_of_blk HB14.out)).trans HB14.out)))
          have hrg4 := ranges_below HRG3.out H4.out
          exact ⟨⟨_, cnt2, ss ++ [a], by rw [HN2.out], hrg4, HLEN.out, HLH2.out, HCOLL.out, HB3.out.trans (H4.out.mono HB3.out.size)⟩, HMEAS.out _ hrg4⟩
end Go.Proofs.YthbkjhacnnoolaaDoor
