/- Several texts in one: RKc, RKb, RKt. No condition beyond those that each part names. -/
import Derived.Test.YtjldcblklbikaaaRJ
import Derived.Outline
import Derived.Deep.DeepCutAuto
import Derived.Test.YtjldcblklbikaaaRE
import Derived.Test.YtjldcblklbikaaaRD
/- The reference: a part comes, it fits and is in its row: is the datagram whole? The walk's last stretch. No condition beyond those named. (Written out by exp.py.) -/
namespace Go.Proofs.Ytjldcblklbikaaa
open Go.RowKit
set_option linter.unusedVariables false
set_option linter.unusedSimpArgs false
theorem size43z : (Try.prog.info? 43).map (·.size) = some zeroP.toArray.size := by kernel_rfl
set_option maxRecDepth 100000 in
set_option maxHeartbeats 8000000 in
theorem tail29 {x : Pk} {A3 : Option Addr} {c3 mb now b6 k g : Nat} {rv rv1 v2 : Value} {R R1 : List Dg} {d : Dg} {w : World} (wc : World) (hm2 : RefMem mb rv R w wc rv1 (R1.set k { d with v := v2, L := d.L ++ [⟨x, A3, c3⟩] })) (h6 : wc.heap[b6]? = some (.cells zeroP.toArray 43 (0, 0)))
    (hnot : ¬ rfoot mb rv1 R1 b6) (hb6l : w.heap.size ≤ b6) (hget : R1[k]? = some d) (hrb : rv1.ownBlock = some g) (halo : Alone d.id (d.L.map (·.pk))) (hj : judgeN d.abs.L x = 0 ∧ d.L.length ≠ 32) (hmay : mayB x = true) (his : x.is = true) (hidx : x.id = d.id)
    (hadd : ∀ (S' : List Ds) (out : Option Pk) (dr : Bool), PutS x (R1.map Dg.abs) k d.abs S' out dr → AddS now x (R.map Dg.abs) S' out dr)
    {u1 u2 u3 u4 u5 u7 u8 u9 u12 u13 u14 u15 u16 u17 u18 u19 u20 u21 u22 u23 u24 u25 u26 u27 u28 u29 u30 u31 u32 u33 u34 u35 u36 u37 u38 u39 u40 u41 u42 u43 u44 u45 u46 u47 u48 u49 u50 u51 u52 u53 u54 u55 u56 u57 u58 u59 u60 u61 u62 u63 u64 u65 u66 u67 u68 u69 u70 u71 u72 u73 u74 u75 u76 u77 u78 u79 u80 u81 u82 u83 u84 u85 u86 u87 u88 u89 u90 u91 u92 u93 u94 u95 u96 u97 u98 u99 u100 u101 u102 u103 u104 u105 u106 u107 u108 u109 u110 u111 u112 u113 u114 u115 u116 u117 u118 u119 u120 u121 u122 u123 u124 u125 u126 u127 u128 u129 u130 u131 u132 u133 u134 u135 u136 u137 u138 u139 u140 u141 u142 u143 u144 u145 u146 u147 u148 u149 u150 u151 u152 u153 u154 u155 u156 u157 u158 u159 u160 u161 u162 u163 u164 u165 u166 u167 u168 u169 u170 u171 u172 u173 u174 u175 u176 u177 u178 u179 u180 u181 u182 u183 u184 u185 u186 u187 u188 u189 : Value} :
    (codeAt [1, 1, 1, 1, 1, 1, 1, 1, 1, 1, 1, 1, 1] (Try.f17.body.getD .skip)).wp Try.prog (bodyPost Try.prog Try.f17 (RefRes mb rv R now x w)) ⟨(List.toArray (.pointer (some ⟨mb, 0, none⟩) :: u1 :: u2 :: u3 :: u4 :: u5 :: .pointer (some ⟨b6, 0, none⟩) :: u7 :: u8 :: u9 :: .int .i64 (k : Nat) :: .pointer (some ⟨g, k * 36, none⟩) :: u12 :: u13 :: u14 :: u15 :: u16 :: u17 :: u18 :: u19 :: u20 :: u21 :: u22 :: u23 :: u24 :: u25 :: u26 :: u27 :: u28 :: u29 :: u30 :: u31 :: u32 :: u33 :: u34 :: u35 :: u36 :: u37 :: u38 :: u39 :: u40 :: u41 :: u42 :: u43 :: u44 :: u45 :: u46 :: u47 :: u48 :: u49 :: u50 :: u51 :: u52 :: u53 :: u54 :: u55 :: u56 :: u57 :: u58 :: u59 :: u60 :: u61 :: u62 :: u63 :: u64 :: u65 :: u66 :: u67 :: u68 :: u69 :: u70 :: u71 :: u72 :: u73 :: u74 :: u75 :: u76 :: u77 :: u78 :: u79 :: u80 :: u81 :: u82 :: u83 :: u84 :: u85 :: u86 :: u87 :: u88 :: u89 :: u90 :: u91 :: u92 :: u93 :: u94 :: u95 :: u96 :: u97 :: u98 :: u99 :: u100 :: u101 :: u102 :: u103 :: u104 :: u105 :: u106 :: u107 :: u108 :: u109 :: u110 :: u111 :: u112 :: u113 :: u114 :: u115 :: u116 :: u117 :: u118 :: u119 :: u120 :: u121 :: u122 :: u123 :: u124 :: u125 :: u126 :: u127 :: u128 :: u129 :: u130 :: u131 :: u132 :: u133 :: u134 :: u135 :: u136 :: u137 :: u138 :: u139 :: u140 :: u141 :: u142 :: u143 :: u144 :: u145 :: u146 :: u147 :: u148 :: u149 :: u150 :: u151 :: u152 :: u153 :: u154 :: u155 :: u156 :: u157 :: u158 :: u159 :: u160 :: u161 :: u162 :: u163 :: u164 :: u165 :: u166 :: u167 :: u168 :: u169 :: u170 :: u171 :: u172 :: u173 :: u174 :: u175 :: u176 :: u177 :: u178 :: u179 :: u180 :: u181 :: u182 :: u183 :: u184 :: u185 :: u186 :: u187 :: u188 :: u189 :: [])), []⟩ wc := by
  have HGET := Lib.hid hget; have HRB := Lib.hid hrb; have HALO := Lib.hid halo; have HJ := Lib.hid hj; have HMAYX := Lib.hid hmay; have HIS := Lib.hid his; have HIDX := Lib.hid hidx
  have HADD := Lib.hid hadd; have HNOT := Lib.hid hnot; have HB6L := Lib.hid hb6l
  have HSZ := Lib.hid size43
  have HZL := Lib.hid zeroP_length
  have HZ1 := Lib.hid zeroP_one
  conv in codeAt _ _ => whnf
  obtain ⟨d2, hd2⟩ : ∃ d2, d2 = ({ d with v := v2, L := d.L ++ [⟨x, A3, c3⟩] } : Dg) := ⟨_, rfl⟩
  rw [← hd2] at hm2
  have hkl : k < R1.length := (List.getElem?_eq_some_iff.1 HGET.out).1
  obtain ⟨R2, hR2⟩ : ∃ R2, R2 = R1.set k d2 := ⟨_, rfl⟩
  have HR2 := Lib.hid hR2
  have HG2 : Hid (R2[k]? = some d2) := Lib.hid (by rw [hR2, List.getElem?_set, if_pos rfl, if_pos hkl])
  rw [← hR2] at hm2
  have HM2 := Lib.hid hm2
  have hda2 := hm2.pool.each d2 (List.mem_of_getElem? HG2.out)
  have hL2 : d2.L.map (·.pk) = d.L.map (·.pk) ++ [x] := by rw [hd2]; simp
  have hid2 : d2.id = d.id := by rw [hd2]
  have H49 := Lib.hid (whole49 wc hda2 (by rw [hid2, hL2]; exact HALO.out.snoc HJ.out.1 HMAYX.out HIS.out HIDX.out))
  rw [hL2] at H49
  obtain ⟨A5, c5, hrv5, hg5⟩ := hm2.pool.gets
  obtain ⟨g', hA5, hrb5, -, hcells5⟩ := hg5 (by rintro h0; have := HG2.out; rw [h0] at this; simp at this)
  have hgg : g' = g := Option.some.inj (hrb5.symm.trans HRB.out)
  rw [hgg] at hcells5
  have HDL := Lib.hid hda2.len
  have HDR := Lib.hid (hcells5 k d2 HG2.out)
  obtain ⟨DC, hDC⟩ : ∃ D, D = d2.cells := ⟨_, rfl⟩
  rw [← hDC] at HDL HDR H49
  have HAB2 : Hid (d2.abs = { d.abs with L := d.abs.L ++ [x] }) := Lib.hid (by rw [hd2]; simp [Dg.abs])
  have HX6 := Lib.hid h6
  have HSZ81 := Lib.hid size81
  have HABS : Hid (R2.map Dg.abs = (R1.map Dg.abs).set k { d.abs with L := d.abs.L ++ [x] }) := Lib.hid (by rw [hR2, set_abs, HAB2.out])
  clear hnot hb6l hm2 hda2 hL2 hid2 h6 hd2 hrv5 hg5 hA5 hrb5 hcells5 hgg hDC hR2 hget hrb halo hj hmay his hidx hadd
  go_wp2_with (first | (refine wpList_load_mid rfl 81 (.tmp 164) ?ho g (k * 36) ?hx DC _ ?hr Try.underlying81 rfl ?hi ?_; (case ho => with_reducible rfl); (case hx => rfl); (case hr => exact HDR.out); (case hi => rw [HDL.out]; exact HSZ81.out); (try simp only [Act.put, List.setIfInBounds_toArray, List.set_cons_zero, List.set_cons_succ])))
  refine (H49.out).mono ?_
  rintro e w4 ⟨hb4, hres⟩
  have HMF := Lib.hid (HM2.out.step hb4)
  have HX64 := Lib.hid ((hb4.block b6 (lt_of_blk HX6.out)).trans HX6.out)
  have HB4 := Lib.hid hb4
  rcases hres with ⟨hno, rfl⟩ | ⟨hyes, l, y, A4, c4, hperm, hup, hjoin, rfl, hyok, hybody, hyfr, hyl⟩
  · have HNO := Lib.hid hno
    clear hb4 hno H49
    go_upto_region 30 with (first | (refine wpList_store_new rfl 43 (.tmp 14) (.tmp 167) ?ho w4 _ zeroP.toArray 43 ?hx ?hy ?hi ?hc ?h1 ?_; (case ho => with_reducible rfl); (case hx => rfl); (case hy => rfl); (case hi => rw [List.size_toArray, HZL.out]; exact HSZ.out); (case hc => exact Eq.trans (b := 40) rfl (by rw [List.size_toArray, HZL.out])); (case h1 => exact all_oneCell_toArray HZ1.out)))
    have hbA : RowKit.Below w4.heap.size w4 (w4.alloc (.cells zeroP.toArray 43)) := (Below.refl _ _).alloc (Nat.le_refl _) _
    have x14 := heap_alloc_new w4 (.cells zeroP.toArray 43)
    obtain ⟨WA, hWA⟩ : ∃ W, W = w4.alloc (.cells zeroP.toArray 43) := ⟨_, rfl⟩
    obtain ⟨b14, hb14⟩ : ∃ b, b = w4.heap.size := ⟨_, rfl⟩
    rw [← hWA] at hbA x14 ⊢
    rw [← hb14] at x14 ⊢
    have HX6A := Lib.hid ((hbA.block b6 (lt_of_blk HX64.out)).trans HX64.out)
    have HMA := Lib.hid (HMF.out.step hbA)
    have R14 := Lib.hid (row_of x14)
    clear hbA x14 hWA hb14
    go_wp2_with (first | (refine wpList_load_mid rfl 43 (.tmp 14) ?ho b14 0 ?hx zeroP _ ?hr Try.underlying43 rfl ?hi ?_; (case ho => with_reducible rfl); (case hx => rfl); (case hr => exact R14.out); (case hi => rw [HZL.out]; exact HSZ.out); (try simp only [Act.put, List.setIfInBounds_toArray, List.set_cons_zero, List.set_cons_succ])) | (refine wpList_store_row rfl 43 (.tmp 6) (.tmp 188) ?ho b6 zeroP.toArray ?hx ?hy 43 zeroP.toArray HX6A.out ?hi ?hc ?h1 ?_; (case ho => with_reducible rfl); (case hx => kernel_rfl); (case hy => kernel_rfl); (case hi => rw [List.size_toArray, HZL.out]; exact HSZ.out); (case hc => simp only [List.size_toArray, HZL.out, HZL.out]); (case h1 => exact all_oneCell_toArray HZ1.out)))
    have t := Turned.setRow HX6A.out (zeroP).toArray
    (try simp only [Exit.inBlock, Exit.then])
    refine bodyPost_ret (results_row_tmp2 Try.results17 _ _ b6 43 _ (0, 0) _ rfl (t.get (lt_of_blk HX6A.out)) Try.underlying43 rfl (by rw [List.size_toArray, (HZL).out]; exact HSZ.out)) rfl ?_
    exact ⟨rv1, R2, none, false, zeroP, HMA.out.step (t.same HX6A.out _), HADD.out _ _ _ (.inr (.inr (.inl ⟨HJ.out.1, HNO.out, HABS.out, rfl, rfl⟩))), rfl, fun _ => rfl, fun y hy => by cases hy⟩
  · obtain ⟨Y, hY⟩ : ∃ Y, Y = pkL y A4 c4 := ⟨_, rfl⟩
    rw [← hY]
    have hya : PkAt Y y A4 c4 := ⟨hY, hyok⟩
    have HYL := Lib.hid hya.len
    have HYO := Lib.hid hya.one
    have HY := Lib.hid hY
    have HYES := Lib.hid hyes
    have HJOIN : Hid (∃ l, l.Perm (d.abs.L ++ [x]) ∧ (l.Pairwise fun a b => frm a ≤ frm b) ∧ (some y : Option Pk) = joinP l ∧ (some y : Option Pk) ≠ none) := Lib.hid ⟨l, hperm, hup, hjoin.symm, by simp⟩
    have HYF : Hid (∀ g, A4 = some ⟨g, 0, none⟩ → wc.heap.size ≤ g) := Lib.hid hyfr
    have HYOK := Lib.hid hyok
    have HYLE := Lib.hid hyl
    have HYB4 := Lib.hid hybody
    clear hb4 hyes H49 hY hya hperm hup hjoin hyok hybody hyfr hyl
    go_upto_region 30 with (first | (refine wpList_store_new rfl 43 (.tmp 14) (.tmp 167) ?ho w4 _ Y.toArray 43 ?hx ?hy ?hi ?hc ?h1 ?_; (case ho => with_reducible rfl); (case hx => rfl); (case hy => rfl); (case hi => rw [List.size_toArray, HYL.out]; exact HSZ.out); (case hc => exact Eq.trans (b := 40) rfl (by rw [List.size_toArray, HYL.out])); (case h1 => exact all_oneCell_toArray HYO.out)))
    have hbA : RowKit.Below w4.heap.size w4 (w4.alloc (.cells Y.toArray 43)) := (Below.refl _ _).alloc (Nat.le_refl _) _
    have x14 := heap_alloc_new w4 (.cells Y.toArray 43)
    obtain ⟨WA, hWA⟩ : ∃ W, W = w4.alloc (.cells Y.toArray 43) := ⟨_, rfl⟩
    obtain ⟨b14, hb14⟩ : ∃ b, b = w4.heap.size := ⟨_, rfl⟩
    rw [← hWA] at hbA x14 ⊢
    rw [← hb14] at x14 ⊢
    have HX6A := Lib.hid ((hbA.block b6 (lt_of_blk HX64.out)).trans HX64.out)
    have HMA := Lib.hid (HMF.out.step hbA)
    have HX14 := Lib.hid x14
    have HYB : Hid (BodyAt WA ⟨y, A4, c4⟩) := Lib.hid (HYB4.out.keep (fun i hi => hbA.block i (HYB4.out.lt hi)) hbA.size)
    clear hbA x14 hWA hb14
    go_upto_region 31 with (fail)
    obtain ⟨W0, hW0⟩ : ∃ W, W = WA.drew := ⟨_, rfl⟩
    have h0 : RowKit.Below WA.heap.size WA W0 := by rw [hW0]; exact (Below.refl _ _).drew
    have HM0 := Lib.hid (HMA.out.step h0)
    have HX60 := Lib.hid ((h0.block b6 (lt_of_blk HX6A.out)).trans HX6A.out)
    have HX40 := Lib.hid ((h0.block b14 (lt_of_blk HX14.out)).trans HX14.out)
    have HYB0 : Hid (BodyAt W0 ⟨y, A4, c4⟩) := Lib.hid (HYB.out.keep (fun i hi => h0.block i (HYB.out.lt hi)) h0.size)
    obtain ⟨A5, cp, hrv5, hg5⟩ := HM0.out.pool.gets
    have hkR2 : k < R2.length := (List.getElem?_eq_some_iff.1 HG2.out).1
    obtain ⟨g', hA5, hrb5, -, -⟩ := hg5 (by rintro h0; rw [h0] at hkR2; simp at hkR2)
    have hgg : g' = g := Option.some.inj (hrb5.symm.trans HRB.out)
    rw [hgg] at hA5
    rw [hA5] at hrv5
    have hm0 := HM0.out
    rw [hrv5] at hm0
    have hcp : R2.length ≤ cp := by
      obtain ⟨_, e1, e2⟩ := own_at_get hm0.pool.row rfl
      injection e1 with _ _ e3
      omega
    have h4R2 := hm0.pool.four
    obtain ⟨n2, hn2⟩ : ∃ n, n = R2.length := ⟨_, rfl⟩
    rw [← hn2] at hm0 hcp hkR2 h4R2
    have HN2 := Lib.hid hn2
    have HH := Lib.hid (hm0.pool.head_ (k := k) hn2 (by omega))
    have HT := Lib.hid (hm0.pool.tail_ (k := k) hn2 hkR2 hcp)
    have HM0' := Lib.hid hm0
    have e0 : W0.cell? ⟨mb, 0, none⟩ = some (.slice (some ⟨g, 0, none⟩) n2 cp) := by rw [cell_blk hm0.pool.blk]; rfl
    have HRV5 : Hid (rv1 = .slice (some ⟨g, 0, none⟩) n2 cp) := Lib.hid (by rw [hrv5, hn2])
    have HSL1 : Hid (sliced (some ⟨g, 0, none⟩) 0 k cp 36 = .slice (some ⟨g, 0, none⟩) k cp) := Lib.hid (by unfold sliced; split <;> simp [Addr.add_mid])
    have HSL2 := Lib.hid (sliced_aft g k n2 cp)
    have HSZ81 := Lib.hid size81r
    obtain ⟨i81, hi, hz0, hz1, hz2⟩ := info_parts info81
    have hkc : (k : Int) ≤ (cp : Int) := by omega
    have hkn : (k : Int) + 1 ≤ (n2 : Int) := by omega
    have hk1 : IntKind.i64.wrap ((k : Int) + 1) = (k : Int) + 1 := by rw [show (k : Int) + 1 = ((k + 1 : Nat) : Int) by omega]; exact i64_small (by omega)
    clear h0 hrv5 hg5 hrb5 hgg hA5 hm0 hn2
    refine wp_region_held_drew (S := fun _ => True) (by kernel_rfl) trivial ?_
    rw [← hW0]
    clear hW0
    intro HS
    refine wpAnyH_take (i := 0) (v := ?_) rfl (by kernel_rfl) (by kernel_rfl) (by kernel_rfl) (fun _ _ _ h => h) (Or.inl ⟨by go_simp, ?hy⟩) HS ?_
    case hy => intro W hW; go_simp; (try with_reducible rfl)
    try simp only [List.getElem_toArray, List.getElem_cons_zero, List.getElem_cons_succ, Act.put, List.setIfInBounds_toArray, List.set_cons_zero, List.set_cons_succ]
    refine wpAnyH_take (i := 1) (v := ?_) rfl (by kernel_rfl) (by kernel_rfl) (by kernel_rfl) (fun _ _ _ h => h) (Or.inl ⟨by go_simp, ?hy⟩) HS ?_
    case hy => intro W hW; go_simp; (try with_reducible rfl)
    try simp only [List.getElem_toArray, List.getElem_cons_zero, List.getElem_cons_succ, Act.put, List.setIfInBounds_toArray, List.set_cons_zero, List.set_cons_succ]
    refine wpAnyH_take (i := 2) (v := ?_) rfl (by kernel_rfl) (by kernel_rfl) (by kernel_rfl) (fun _ _ _ h => h) (Or.inl ⟨by go_simp, ?hy⟩) HS ?_
    case hy => intro W hW; go_simp; (try with_reducible rfl)
    try simp only [List.getElem_toArray, List.getElem_cons_zero, List.getElem_cons_succ, Act.put, List.setIfInBounds_toArray, List.set_cons_zero, List.set_cons_succ]
    refine wpAnyH_take (i := 3) (v := ?_) rfl (by kernel_rfl) (by kernel_rfl) (by kernel_rfl) (fun _ _ _ h => h) (Or.inl ⟨by go_simp, ?hy⟩) HS ?_
    case hy => intro W hW; go_simp; (try with_reducible rfl)
    try simp only [List.getElem_toArray, List.getElem_cons_zero, List.getElem_cons_succ, Act.put, List.setIfInBounds_toArray, List.set_cons_zero, List.set_cons_succ]
    refine wpAnyH_take (i := 5) (v := ?_) rfl (by kernel_rfl) (by kernel_rfl) (by kernel_rfl) (fun _ _ _ h => h) (Or.inl ⟨by go_simp, ?hy⟩) HS ?_
    case hy => intro W hW; go_simp; (try with_reducible rfl)
    try simp only [List.getElem_toArray, List.getElem_cons_zero, List.getElem_cons_succ, Act.put, List.setIfInBounds_toArray, List.set_cons_zero, List.set_cons_succ]
    refine wpAnyH_take (i := 8) (v := ?_) rfl (by kernel_rfl) (by kernel_rfl) (by kernel_rfl) (fun _ _ _ h => h) (Or.inl ⟨by go_simp, ?hy⟩) HS ?_
    case hy => intro W hW; go_simp; (try with_reducible rfl)
    try simp only [List.getElem_toArray, List.getElem_cons_zero, List.getElem_cons_succ, Act.put, List.setIfInBounds_toArray, List.set_cons_zero, List.set_cons_succ]
    refine wpAnyH_take (i := 9) (v := ?_) rfl (by kernel_rfl) (by kernel_rfl) (by kernel_rfl) (fun _ _ _ h => h) (Or.inl ⟨by go_simp, ?hy⟩) HS ?_
    case hy => intro W hW; go_simp; (try with_reducible rfl)
    try simp only [List.getElem_toArray, List.getElem_cons_zero, List.getElem_cons_succ, Act.put, List.setIfInBounds_toArray, List.set_cons_zero, List.set_cons_succ]
    refine wpAnyH_take (i := 10) (v := ?_) rfl (by kernel_rfl) (by kernel_rfl) (by kernel_rfl) (fun _ _ _ h => h) (Or.inl ⟨by go_simp, ?hy⟩) HS ?_
    case hy => intro W hW; go_simp; (try with_reducible rfl)
    try simp only [List.getElem_toArray, List.getElem_cons_zero, List.getElem_cons_succ, Act.put, List.setIfInBounds_toArray, List.set_cons_zero, List.set_cons_succ]
    refine wpAnyH_take (i := 12) (v := ?_) rfl (by kernel_rfl) (by kernel_rfl) (by kernel_rfl) (fun _ _ _ h => h) (Or.inl ⟨by go_simp, ?hy⟩) HS ?_
    case hy => intro W hW; go_simp; (try with_reducible rfl)
    try simp only [List.getElem_toArray, List.getElem_cons_zero, List.getElem_cons_succ, Act.put, List.setIfInBounds_toArray, List.set_cons_zero, List.set_cons_succ]
    refine wpAnyH_take (i := 13) (v := ?_) rfl (by kernel_rfl) (by kernel_rfl) (by kernel_rfl) (fun _ _ _ h => h) (Or.inl ⟨by go_simp, ?hy⟩) HS ?_
    case hy => intro W hW; go_simp; (try with_reducible rfl)
    try simp only [List.getElem_toArray, List.getElem_cons_zero, List.getElem_cons_succ, Act.put, List.setIfInBounds_toArray, List.set_cons_zero, List.set_cons_succ]
    refine wpAnyH_ready (rs := [4, 11]) (by kernel_rfl) (by simp) ?_
    refine AllReadyH.cons rfl (fun K hK => ?_) (AllReadyH.cons rfl (fun K hK => ?_) AllReadyH.nil)
    · skip
      rw [if_pos (by kernel_rfl)]
      simp only [List.getElem_toArray, List.getElem_cons_zero, List.getElem_cons_succ]
      go_simp
      refine hK.out _ _ (trivial) (fun HS => ?_)
      clear hK
      try simp only [List.getElem_toArray, List.getElem_cons_zero, List.getElem_cons_succ, Act.put, List.setIfInBounds_toArray, List.set_cons_zero, List.set_cons_succ]
      refine wpAnyH_take (i := 6) (v := .slice (some ⟨g, 0, none⟩) k cp) rfl (by kernel_rfl) (by kernel_rfl) (by kernel_rfl) (fun _ _ _ h => h) (Or.inl ⟨by go_simp, fun W hW => by go_simp⟩) HS ?_
      try simp only [List.getElem_toArray, List.getElem_cons_zero, List.getElem_cons_succ, Act.put, List.setIfInBounds_toArray, List.set_cons_zero, List.set_cons_succ]
      refine wpAnyH_ready (rs := [7, 11]) (by kernel_rfl) (by simp) ?_
      refine AllReadyH.cons rfl (fun K hK => ?_) (AllReadyH.cons rfl (fun K hK => ?_) AllReadyH.nil)
      · skip
        rw [if_pos (by kernel_rfl)]
        simp only [List.getElem_toArray, List.getElem_cons_zero, List.getElem_cons_succ]
        refine wp_append_own3 _ _ _ 28 rfl W0.heap.size 81 i81 _ 36 80 Try.underlying28 hi hz0 hz1 hz2 (by kernel_rfl) (by decide) (.slice none 0 0) 0 [] rfl (World.ownsRow_nil _ _ _ _) ⟨g, 0, none⟩ k cp ((R2.take k).flatMap Dg.cells) rfl HH.out.1 HH.out.2.1 HH.out.2.2 (by unfold maxLen; omega) (by omega) (Nat.le_refl _) ?_
        intro v7 w7 ho7 hg7
        rw [Nat.zero_add, List.nil_append] at ho7
        have h07 : RowKit.Below W0.heap.size W0 w7 := Below.grown' (Below.refl _ _) hg7 (Nat.le_refl _) (fun k hk => by cases hk)
        obtain ⟨q7, cq7, rfl, hc7⟩ := own_slice2 ho7
        have HO7 := Lib.hid ho7; have HG7 := Lib.hid hg7; have H07 := Lib.hid h07
        have e7 := (h07.cell (p := ⟨mb, 0, none⟩) (lt_of_cell e0)).trans e0
        clear ho7 hg7 h07
        refine hK.out _ _ (trivial) (fun HS => ?_)
        clear hK
        try simp only [List.getElem_toArray, List.getElem_cons_zero, List.getElem_cons_succ, Act.put, List.setIfInBounds_toArray, List.set_cons_zero, List.set_cons_succ]
        refine wpAnyH_ready (rs := [11]) (by kernel_rfl) (by simp) ?_
        refine AllReadyH.cons rfl (fun K hK => ?_) AllReadyH.nil
        rw [if_pos (by kernel_rfl)]
        simp only [List.getElem_toArray, List.getElem_cons_zero, List.getElem_cons_succ]
        go_simp
        refine hK.out _ _ (trivial) (fun HS => ?_)
        clear hK
        try simp only [List.getElem_toArray, List.getElem_cons_zero, List.getElem_cons_succ, Act.put, List.setIfInBounds_toArray, List.set_cons_zero, List.set_cons_succ]
        refine wpAnyH_take (i := 14) (v := .slice (some (aft g k cp)) (n2 - (k + 1)) (cp - (k + 1))) rfl (by kernel_rfl) (by kernel_rfl) (by kernel_rfl) (fun _ _ _ h => h) (Or.inl ⟨by go_simp, ?hy⟩) HS ?_
        case hy =>
          intro W hW
          go_simp
          rw [if_pos (by omega)]
          unfold aft
          split <;> rfl
        try simp only [List.getElem_toArray, List.getElem_cons_zero, List.getElem_cons_succ, Act.put, List.setIfInBounds_toArray, List.set_cons_zero, List.set_cons_succ]
        refine wpAnyH_ready (rs := [15]) (by kernel_rfl) (by simp) ?_
        refine AllReadyH.cons rfl (fun K hK => ?_) AllReadyH.nil
        rw [if_pos (by kernel_rfl)]
        simp only [List.getElem_toArray, List.getElem_cons_zero, List.getElem_cons_succ]
        refine wp_append_own3 _ _ _ 28 rfl W0.heap.size 81 i81 _ 36 80 Try.underlying28 hi hz0 hz1 hz2 (by kernel_rfl) (by decide) (.slice q7 k cq7) k ((R2.take k).flatMap Dg.cells) rfl HO7.out (aft g k cp) (n2 - (k + 1)) (cp - (k + 1)) ((R2.drop (k + 1)).flatMap Dg.cells) rfl HT.out.1 (fun j u hj => (H07.out.cell (World.block_lt_of_cell? _ _ (HT.out.2.1 j u hj))).trans (HT.out.2.1 j u hj)) HT.out.2.2 (by unfold maxLen; omega) (by omega) H07.out.size ?_
        intro v15 w15 ho hg
        obtain ⟨hb15, hm15, hold⟩ := HM0'.out.pool.erase (k := k) HN2.out (by omega) HO7.out HG7.out ho hg
        obtain ⟨q15, cq15, rfl, -⟩ := own_slice2 ho
        have k15 : w15.cell? ⟨mb, 0, none⟩ = some (.slice (some ⟨g, 0, none⟩) n2 cp) := by rw [cell_blk hb15]; rfl
        have f15 := frozen_blk hb15 0
        have HM15 := Lib.hid hm15; have HOLD := Lib.hid hold
        clear ho hg hb15 hm15 hold
        refine hK.out _ _ (trivial) (fun HS => ?_)
        clear hK
        try simp only [List.getElem_toArray, List.getElem_cons_zero, List.getElem_cons_succ, Act.put, List.setIfInBounds_toArray, List.set_cons_zero, List.set_cons_succ]
        refine wpAnyH_take (i := 16) (v := ?_) rfl (by kernel_rfl) (by kernel_rfl) (by kernel_rfl) (fun _ _ _ h => h) (Or.inl ⟨by go_simp, ?hy⟩) HS ?_
        case hy => intro W hW; go_simp; (try with_reducible rfl)
        try simp only [List.getElem_toArray, List.getElem_cons_zero, List.getElem_cons_succ, Act.put, List.setIfInBounds_toArray, List.set_cons_zero, List.set_cons_succ]
        refine wpAnyH_take (i := 17) (v := ?_) rfl (by kernel_rfl) (by kernel_rfl) (by kernel_rfl) (fun _ _ _ h => h) (Or.inl ⟨by go_simp, ?hy⟩) HS ?_
        case hy => intro W hW; go_simp; (try with_reducible rfl)
        try simp only [List.getElem_toArray, List.getElem_cons_zero, List.getElem_cons_succ, Act.put, List.setIfInBounds_toArray, List.set_cons_zero, List.set_cons_succ]
        refine wpAnyH_ready (rs := [18]) (by kernel_rfl) (by simp) ?_
        refine AllReadyH.cons rfl (fun K hK => ?_) AllReadyH.nil
        rw [if_pos (by kernel_rfl)]
        simp only [List.getElem_toArray, List.getElem_cons_zero, List.getElem_cons_succ]
        go_simp
        refine hK.out _ _ (trivial) (fun HS => ?_)
        clear hK
        try simp only [List.getElem_toArray, List.getElem_cons_zero, List.getElem_cons_succ, Act.put, List.setIfInBounds_toArray, List.set_cons_zero, List.set_cons_succ]
        refine wpAnyH_done (by kernel_rfl) ?_ _
        obtain ⟨W9, hW9⟩ : ∃ W, W = w15.setCell ⟨mb, 0, none⟩ (.slice q15 (k + (n2 - (k + 1))) cq15) := ⟨_, rfl⟩
        rw [← hW9] at HM15 HOLD ⊢
        have HX69 : Hid (W9.heap[b6]? = some (.cells zeroP.toArray 43 (0, 0))) := Lib.hid ((HOLD.out b6 (lt_of_blk HX60.out) (fun e => by
          have h1 := HM0'.out.pool.blk
          rw [← e, HX60.out] at h1; cases h1)).trans HX60.out)
        have HX49 : Hid (W9.heap[b14]? = some (.cells Y.toArray 43 (0, 0))) := Lib.hid ((HOLD.out b14 (lt_of_blk HX40.out) (fun e => by
          have h1 := HM0'.out.pool.blk
          rw [← e, HX40.out] at h1; cases h1)).trans HX40.out)
        have HYB9 : Hid (BodyAt W9 ⟨y, A4, c4⟩) := Lib.hid (HYB0.out.keep (fun i hi => HOLD.out i (HYB0.out.lt hi) (fun e => by
          obtain ⟨cu, hc⟩ := body_type HYB0.out hi
          have h1 := HM0'.out.pool.blk
          rw [← e, hc] at h1; cases h1)) HM15.out.kept.size)
        have HMF2 : Hid (RefMem mb rv R w W9 (.slice q15 (k + (n2 - (k + 1))) cq15) (R2.eraseIdx k)) := Lib.hid (HM0'.out.trans HM15.out)
        clear hW9 k15 f15 e7
        have R14 := Lib.hid (row_of HX49.out)
        go_wp2_with (first | (refine wpList_load_mid rfl 43 (.tmp 14) ?ho b14 0 ?hx Y _ ?hr Try.underlying43 rfl ?hi ?_; (case ho => with_reducible rfl); (case hx => rfl); (case hr => exact R14.out); (case hi => rw [HYL.out]; exact HSZ.out); (try simp only [Act.put, List.setIfInBounds_toArray, List.set_cons_zero, List.set_cons_succ])) | (refine wpList_store_row rfl 43 (.tmp 6) (.tmp 188) ?ho b6 Y.toArray ?hx ?hy 43 zeroP.toArray HX69.out ?hi ?hc ?h1 ?_; (case ho => with_reducible rfl); (case hx => kernel_rfl); (case hy => kernel_rfl); (case hi => rw [List.size_toArray, HYL.out]; exact HSZ.out); (case hc => simp only [List.size_toArray, HYL.out, HZL.out]); (case h1 => exact all_oneCell_toArray HYO.out)))
        have t := Turned.setRow HX69.out (Y).toArray
        (try simp only [Exit.inBlock, Exit.then])
        refine bodyPost_ret (results_row_tmp2 Try.results17 _ _ b6 43 _ (0, 0) _ rfl (t.get (lt_of_blk HX69.out)) Try.underlying43 rfl (by rw [List.size_toArray, (HYL).out]; exact HSZ.out)) rfl ?_
        refine ⟨_, R2.eraseIdx k, some y, false, Y, HMF2.out.put t HB6L.out (by rw [HR2.out] at HMF2 ⊢; exact HMF2.out.pool.not43 HX69.out HNOT.out), HADD.out _ _ _ (.inr (.inr (.inr ⟨HJ.out.1, HYES.out, by rw [map_erase2, HABS.out, set_erase2], HJOIN.out, rfl⟩))), rfl, fun e => (by cases e), fun y' hy' => ?_⟩
        have e := Option.some.inj hy'
        subst e
        refine ⟨A4, c4, HY.out, HYOK.out, HYB9.out.keep (fun i hi => t.other (fun e => ?_)) (by rw [t.size]; exact Nat.le_refl _), fun i hi => ?_, HYLE.out⟩
        · obtain ⟨cu, hc⟩ := body_type HYB9.out hi
          rw [e, HX69.out] at hc; cases hc
        · have h1 := HYF.out i hi
          have h2 := HM2.out.kept.size
          omega
      · skip
        rw [if_pos (by kernel_rfl)]
        simp only [List.getElem_toArray, List.getElem_cons_zero, List.getElem_cons_succ]
        go_simp
        refine hK.out _ _ (trivial) (fun HS => ?_)
        clear hK
        try simp only [List.getElem_toArray, List.getElem_cons_zero, List.getElem_cons_succ, Act.put, List.setIfInBounds_toArray, List.set_cons_zero, List.set_cons_succ]
        refine wpAnyH_take (i := 14) (v := .slice (some (aft g k cp)) (n2 - (k + 1)) (cp - (k + 1))) rfl (by kernel_rfl) (by kernel_rfl) (by kernel_rfl) (fun _ _ _ h => h) (Or.inl ⟨by go_simp, ?hy⟩) HS ?_
        case hy =>
          intro W hW
          go_simp
          rw [if_pos (by omega)]
          unfold aft
          split <;> rfl
        try simp only [List.getElem_toArray, List.getElem_cons_zero, List.getElem_cons_succ, Act.put, List.setIfInBounds_toArray, List.set_cons_zero, List.set_cons_succ]
        refine wpAnyH_ready (rs := [7]) (by kernel_rfl) (by simp) ?_
        refine AllReadyH.cons rfl (fun K hK => ?_) AllReadyH.nil
        rw [if_pos (by kernel_rfl)]
        simp only [List.getElem_toArray, List.getElem_cons_zero, List.getElem_cons_succ]
        refine wp_append_own3 _ _ _ 28 rfl W0.heap.size 81 i81 _ 36 80 Try.underlying28 hi hz0 hz1 hz2 (by kernel_rfl) (by decide) (.slice none 0 0) 0 [] rfl (World.ownsRow_nil _ _ _ _) ⟨g, 0, none⟩ k cp ((R2.take k).flatMap Dg.cells) rfl HH.out.1 HH.out.2.1 HH.out.2.2 (by unfold maxLen; omega) (by omega) (Nat.le_refl _) ?_
        intro v7 w7 ho7 hg7
        rw [Nat.zero_add, List.nil_append] at ho7
        have h07 : RowKit.Below W0.heap.size W0 w7 := Below.grown' (Below.refl _ _) hg7 (Nat.le_refl _) (fun k hk => by cases hk)
        obtain ⟨q7, cq7, rfl, hc7⟩ := own_slice2 ho7
        have HO7 := Lib.hid ho7; have HG7 := Lib.hid hg7; have H07 := Lib.hid h07
        have e7 := (h07.cell (p := ⟨mb, 0, none⟩) (lt_of_cell e0)).trans e0
        clear ho7 hg7 h07
        refine hK.out _ _ (trivial) (fun HS => ?_)
        clear hK
        try simp only [List.getElem_toArray, List.getElem_cons_zero, List.getElem_cons_succ, Act.put, List.setIfInBounds_toArray, List.set_cons_zero, List.set_cons_succ]
        refine wpAnyH_ready (rs := [15]) (by kernel_rfl) (by simp) ?_
        refine AllReadyH.cons rfl (fun K hK => ?_) AllReadyH.nil
        rw [if_pos (by kernel_rfl)]
        simp only [List.getElem_toArray, List.getElem_cons_zero, List.getElem_cons_succ]
        refine wp_append_own3 _ _ _ 28 rfl W0.heap.size 81 i81 _ 36 80 Try.underlying28 hi hz0 hz1 hz2 (by kernel_rfl) (by decide) (.slice q7 k cq7) k ((R2.take k).flatMap Dg.cells) rfl HO7.out (aft g k cp) (n2 - (k + 1)) (cp - (k + 1)) ((R2.drop (k + 1)).flatMap Dg.cells) rfl HT.out.1 (fun j u hj => (H07.out.cell (World.block_lt_of_cell? _ _ (HT.out.2.1 j u hj))).trans (HT.out.2.1 j u hj)) HT.out.2.2 (by unfold maxLen; omega) (by omega) H07.out.size ?_
        intro v15 w15 ho hg
        obtain ⟨hb15, hm15, hold⟩ := HM0'.out.pool.erase (k := k) HN2.out (by omega) HO7.out HG7.out ho hg
        obtain ⟨q15, cq15, rfl, -⟩ := own_slice2 ho
        have k15 : w15.cell? ⟨mb, 0, none⟩ = some (.slice (some ⟨g, 0, none⟩) n2 cp) := by rw [cell_blk hb15]; rfl
        have f15 := frozen_blk hb15 0
        have HM15 := Lib.hid hm15; have HOLD := Lib.hid hold
        clear ho hg hb15 hm15 hold
        refine hK.out _ _ (trivial) (fun HS => ?_)
        clear hK
        try simp only [List.getElem_toArray, List.getElem_cons_zero, List.getElem_cons_succ, Act.put, List.setIfInBounds_toArray, List.set_cons_zero, List.set_cons_succ]
        refine wpAnyH_take (i := 16) (v := ?_) rfl (by kernel_rfl) (by kernel_rfl) (by kernel_rfl) (fun _ _ _ h => h) (Or.inl ⟨by go_simp, ?hy⟩) HS ?_
        case hy => intro W hW; go_simp; (try with_reducible rfl)
        try simp only [List.getElem_toArray, List.getElem_cons_zero, List.getElem_cons_succ, Act.put, List.setIfInBounds_toArray, List.set_cons_zero, List.set_cons_succ]
        refine wpAnyH_take (i := 17) (v := ?_) rfl (by kernel_rfl) (by kernel_rfl) (by kernel_rfl) (fun _ _ _ h => h) (Or.inl ⟨by go_simp, ?hy⟩) HS ?_
        case hy => intro W hW; go_simp; (try with_reducible rfl)
        try simp only [List.getElem_toArray, List.getElem_cons_zero, List.getElem_cons_succ, Act.put, List.setIfInBounds_toArray, List.set_cons_zero, List.set_cons_succ]
        refine wpAnyH_ready (rs := [18]) (by kernel_rfl) (by simp) ?_
        refine AllReadyH.cons rfl (fun K hK => ?_) AllReadyH.nil
        rw [if_pos (by kernel_rfl)]
        simp only [List.getElem_toArray, List.getElem_cons_zero, List.getElem_cons_succ]
        go_simp
        refine hK.out _ _ (trivial) (fun HS => ?_)
        clear hK
        try simp only [List.getElem_toArray, List.getElem_cons_zero, List.getElem_cons_succ, Act.put, List.setIfInBounds_toArray, List.set_cons_zero, List.set_cons_succ]
        refine wpAnyH_done (by kernel_rfl) ?_ _
        obtain ⟨W9, hW9⟩ : ∃ W, W = w15.setCell ⟨mb, 0, none⟩ (.slice q15 (k + (n2 - (k + 1))) cq15) := ⟨_, rfl⟩
        rw [← hW9] at HM15 HOLD ⊢
        have HX69 : Hid (W9.heap[b6]? = some (.cells zeroP.toArray 43 (0, 0))) := Lib.hid ((HOLD.out b6 (lt_of_blk HX60.out) (fun e => by
          have h1 := HM0'.out.pool.blk
          rw [← e, HX60.out] at h1; cases h1)).trans HX60.out)
        have HX49 : Hid (W9.heap[b14]? = some (.cells Y.toArray 43 (0, 0))) := Lib.hid ((HOLD.out b14 (lt_of_blk HX40.out) (fun e => by
          have h1 := HM0'.out.pool.blk
          rw [← e, HX40.out] at h1; cases h1)).trans HX40.out)
        have HYB9 : Hid (BodyAt W9 ⟨y, A4, c4⟩) := Lib.hid (HYB0.out.keep (fun i hi => HOLD.out i (HYB0.out.lt hi) (fun e => by
          obtain ⟨cu, hc⟩ := body_type HYB0.out hi
          have h1 := HM0'.out.pool.blk
          rw [← e, hc] at h1; cases h1)) HM15.out.kept.size)
        have HMF2 : Hid (RefMem mb rv R w W9 (.slice q15 (k + (n2 - (k + 1))) cq15) (R2.eraseIdx k)) := Lib.hid (HM0'.out.trans HM15.out)
        clear hW9 k15 f15 e7
        have R14 := Lib.hid (row_of HX49.out)
        go_wp2_with (first | (refine wpList_load_mid rfl 43 (.tmp 14) ?ho b14 0 ?hx Y _ ?hr Try.underlying43 rfl ?hi ?_; (case ho => with_reducible rfl); (case hx => rfl); (case hr => exact R14.out); (case hi => rw [HYL.out]; exact HSZ.out); (try simp only [Act.put, List.setIfInBounds_toArray, List.set_cons_zero, List.set_cons_succ])) | (refine wpList_store_row rfl 43 (.tmp 6) (.tmp 188) ?ho b6 Y.toArray ?hx ?hy 43 zeroP.toArray HX69.out ?hi ?hc ?h1 ?_; (case ho => with_reducible rfl); (case hx => kernel_rfl); (case hy => kernel_rfl); (case hi => rw [List.size_toArray, HYL.out]; exact HSZ.out); (case hc => simp only [List.size_toArray, HYL.out, HZL.out]); (case h1 => exact all_oneCell_toArray HYO.out)))
        have t := Turned.setRow HX69.out (Y).toArray
        (try simp only [Exit.inBlock, Exit.then])
        refine bodyPost_ret (results_row_tmp2 Try.results17 _ _ b6 43 _ (0, 0) _ rfl (t.get (lt_of_blk HX69.out)) Try.underlying43 rfl (by rw [List.size_toArray, (HYL).out]; exact HSZ.out)) rfl ?_
        refine ⟨_, R2.eraseIdx k, some y, false, Y, HMF2.out.put t HB6L.out (by rw [HR2.out] at HMF2 ⊢; exact HMF2.out.pool.not43 HX69.out HNOT.out), HADD.out _ _ _ (.inr (.inr (.inr ⟨HJ.out.1, HYES.out, by rw [map_erase2, HABS.out, set_erase2], HJOIN.out, rfl⟩))), rfl, fun e => (by cases e), fun y' hy' => ?_⟩
        have e := Option.some.inj hy'
        subst e
        refine ⟨A4, c4, HY.out, HYOK.out, HYB9.out.keep (fun i hi => t.other (fun e => ?_)) (by rw [t.size]; exact Nat.le_refl _), fun i hi => ?_, HYLE.out⟩
        · obtain ⟨cu, hc⟩ := body_type HYB9.out hi
          rw [e, HX69.out] at hc; cases hc
        · have h1 := HYF.out i hi
          have h2 := HM2.out.kept.size
          omega
    · skip
      rw [if_pos (by kernel_rfl)]
      simp only [List.getElem_toArray, List.getElem_cons_zero, List.getElem_cons_succ]
      go_simp
      refine hK.out _ _ (trivial) (fun HS => ?_)
      clear hK
      try simp only [List.getElem_toArray, List.getElem_cons_zero, List.getElem_cons_succ, Act.put, List.setIfInBounds_toArray, List.set_cons_zero, List.set_cons_succ]
      refine wpAnyH_take (i := 14) (v := .slice (some (aft g k cp)) (n2 - (k + 1)) (cp - (k + 1))) rfl (by kernel_rfl) (by kernel_rfl) (by kernel_rfl) (fun _ _ _ h => h) (Or.inl ⟨by go_simp, ?hy⟩) HS ?_
      case hy =>
        intro W hW
        go_simp
        rw [if_pos (by omega)]
        unfold aft
        split <;> rfl
      try simp only [List.getElem_toArray, List.getElem_cons_zero, List.getElem_cons_succ, Act.put, List.setIfInBounds_toArray, List.set_cons_zero, List.set_cons_succ]
      refine wpAnyH_ready (rs := [4]) (by kernel_rfl) (by simp) ?_
      refine AllReadyH.cons rfl (fun K hK => ?_) AllReadyH.nil
      rw [if_pos (by kernel_rfl)]
      simp only [List.getElem_toArray, List.getElem_cons_zero, List.getElem_cons_succ]
      go_simp
      refine hK.out _ _ (trivial) (fun HS => ?_)
      clear hK
      try simp only [List.getElem_toArray, List.getElem_cons_zero, List.getElem_cons_succ, Act.put, List.setIfInBounds_toArray, List.set_cons_zero, List.set_cons_succ]
      refine wpAnyH_take (i := 6) (v := .slice (some ⟨g, 0, none⟩) k cp) rfl (by kernel_rfl) (by kernel_rfl) (by kernel_rfl) (fun _ _ _ h => h) (Or.inl ⟨by go_simp, fun W hW => by go_simp⟩) HS ?_
      try simp only [List.getElem_toArray, List.getElem_cons_zero, List.getElem_cons_succ, Act.put, List.setIfInBounds_toArray, List.set_cons_zero, List.set_cons_succ]
      refine wpAnyH_ready (rs := [7]) (by kernel_rfl) (by simp) ?_
      refine AllReadyH.cons rfl (fun K hK => ?_) AllReadyH.nil
      rw [if_pos (by kernel_rfl)]
      simp only [List.getElem_toArray, List.getElem_cons_zero, List.getElem_cons_succ]
      refine wp_append_own3 _ _ _ 28 rfl W0.heap.size 81 i81 _ 36 80 Try.underlying28 hi hz0 hz1 hz2 (by kernel_rfl) (by decide) (.slice none 0 0) 0 [] rfl (World.ownsRow_nil _ _ _ _) ⟨g, 0, none⟩ k cp ((R2.take k).flatMap Dg.cells) rfl HH.out.1 HH.out.2.1 HH.out.2.2 (by unfold maxLen; omega) (by omega) (Nat.le_refl _) ?_
      intro v7 w7 ho7 hg7
      rw [Nat.zero_add, List.nil_append] at ho7
      have h07 : RowKit.Below W0.heap.size W0 w7 := Below.grown' (Below.refl _ _) hg7 (Nat.le_refl _) (fun k hk => by cases hk)
      obtain ⟨q7, cq7, rfl, hc7⟩ := own_slice2 ho7
      have HO7 := Lib.hid ho7; have HG7 := Lib.hid hg7; have H07 := Lib.hid h07
      have e7 := (h07.cell (p := ⟨mb, 0, none⟩) (lt_of_cell e0)).trans e0
      clear ho7 hg7 h07
      refine hK.out _ _ (trivial) (fun HS => ?_)
      clear hK
      try simp only [List.getElem_toArray, List.getElem_cons_zero, List.getElem_cons_succ, Act.put, List.setIfInBounds_toArray, List.set_cons_zero, List.set_cons_succ]
      refine wpAnyH_ready (rs := [15]) (by kernel_rfl) (by simp) ?_
      refine AllReadyH.cons rfl (fun K hK => ?_) AllReadyH.nil
      rw [if_pos (by kernel_rfl)]
      simp only [List.getElem_toArray, List.getElem_cons_zero, List.getElem_cons_succ]
      refine wp_append_own3 _ _ _ 28 rfl W0.heap.size 81 i81 _ 36 80 Try.underlying28 hi hz0 hz1 hz2 (by kernel_rfl) (by decide) (.slice q7 k cq7) k ((R2.take k).flatMap Dg.cells) rfl HO7.out (aft g k cp) (n2 - (k + 1)) (cp - (k + 1)) ((R2.drop (k + 1)).flatMap Dg.cells) rfl HT.out.1 (fun j u hj => (H07.out.cell (World.block_lt_of_cell? _ _ (HT.out.2.1 j u hj))).trans (HT.out.2.1 j u hj)) HT.out.2.2 (by unfold maxLen; omega) (by omega) H07.out.size ?_
      intro v15 w15 ho hg
      obtain ⟨hb15, hm15, hold⟩ := HM0'.out.pool.erase (k := k) HN2.out (by omega) HO7.out HG7.out ho hg
      obtain ⟨q15, cq15, rfl, -⟩ := own_slice2 ho
      have k15 : w15.cell? ⟨mb, 0, none⟩ = some (.slice (some ⟨g, 0, none⟩) n2 cp) := by rw [cell_blk hb15]; rfl
      have f15 := frozen_blk hb15 0
      have HM15 := Lib.hid hm15; have HOLD := Lib.hid hold
      clear ho hg hb15 hm15 hold
      refine hK.out _ _ (trivial) (fun HS => ?_)
      clear hK
      try simp only [List.getElem_toArray, List.getElem_cons_zero, List.getElem_cons_succ, Act.put, List.setIfInBounds_toArray, List.set_cons_zero, List.set_cons_succ]
      refine wpAnyH_take (i := 16) (v := ?_) rfl (by kernel_rfl) (by kernel_rfl) (by kernel_rfl) (fun _ _ _ h => h) (Or.inl ⟨by go_simp, ?hy⟩) HS ?_
      case hy => intro W hW; go_simp; (try with_reducible rfl)
      try simp only [List.getElem_toArray, List.getElem_cons_zero, List.getElem_cons_succ, Act.put, List.setIfInBounds_toArray, List.set_cons_zero, List.set_cons_succ]
      refine wpAnyH_take (i := 17) (v := ?_) rfl (by kernel_rfl) (by kernel_rfl) (by kernel_rfl) (fun _ _ _ h => h) (Or.inl ⟨by go_simp, ?hy⟩) HS ?_
      case hy => intro W hW; go_simp; (try with_reducible rfl)
      try simp only [List.getElem_toArray, List.getElem_cons_zero, List.getElem_cons_succ, Act.put, List.setIfInBounds_toArray, List.set_cons_zero, List.set_cons_succ]
      refine wpAnyH_ready (rs := [18]) (by kernel_rfl) (by simp) ?_
      refine AllReadyH.cons rfl (fun K hK => ?_) AllReadyH.nil
      rw [if_pos (by kernel_rfl)]
      simp only [List.getElem_toArray, List.getElem_cons_zero, List.getElem_cons_succ]
      go_simp
      refine hK.out _ _ (trivial) (fun HS => ?_)
      clear hK
      try simp only [List.getElem_toArray, List.getElem_cons_zero, List.getElem_cons_succ, Act.put, List.setIfInBounds_toArray, List.set_cons_zero, List.set_cons_succ]
      refine wpAnyH_done (by kernel_rfl) ?_ _
      obtain ⟨W9, hW9⟩ : ∃ W, W = w15.setCell ⟨mb, 0, none⟩ (.slice q15 (k + (n2 - (k + 1))) cq15) := ⟨_, rfl⟩
      rw [← hW9] at HM15 HOLD ⊢
      have HX69 : Hid (W9.heap[b6]? = some (.cells zeroP.toArray 43 (0, 0))) := Lib.hid ((HOLD.out b6 (lt_of_blk HX60.out) (fun e => by
        have h1 := HM0'.out.pool.blk
        rw [← e, HX60.out] at h1; cases h1)).trans HX60.out)
      have HX49 : Hid (W9.heap[b14]? = some (.cells Y.toArray 43 (0, 0))) := Lib.hid ((HOLD.out b14 (lt_of_blk HX40.out) (fun e => by
        have h1 := HM0'.out.pool.blk
        rw [← e, HX40.out] at h1; cases h1)).trans HX40.out)
      have HYB9 : Hid (BodyAt W9 ⟨y, A4, c4⟩) := Lib.hid (HYB0.out.keep (fun i hi => HOLD.out i (HYB0.out.lt hi) (fun e => by
        obtain ⟨cu, hc⟩ := body_type HYB0.out hi
        have h1 := HM0'.out.pool.blk
        rw [← e, hc] at h1; cases h1)) HM15.out.kept.size)
      have HMF2 : Hid (RefMem mb rv R w W9 (.slice q15 (k + (n2 - (k + 1))) cq15) (R2.eraseIdx k)) := Lib.hid (HM0'.out.trans HM15.out)
      clear hW9 k15 f15 e7
      have R14 := Lib.hid (row_of HX49.out)
      go_wp2_with (first | (refine wpList_load_mid rfl 43 (.tmp 14) ?ho b14 0 ?hx Y _ ?hr Try.underlying43 rfl ?hi ?_; (case ho => with_reducible rfl); (case hx => rfl); (case hr => exact R14.out); (case hi => rw [HYL.out]; exact HSZ.out); (try simp only [Act.put, List.setIfInBounds_toArray, List.set_cons_zero, List.set_cons_succ])) | (refine wpList_store_row rfl 43 (.tmp 6) (.tmp 188) ?ho b6 Y.toArray ?hx ?hy 43 zeroP.toArray HX69.out ?hi ?hc ?h1 ?_; (case ho => with_reducible rfl); (case hx => kernel_rfl); (case hy => kernel_rfl); (case hi => rw [List.size_toArray, HYL.out]; exact HSZ.out); (case hc => simp only [List.size_toArray, HYL.out, HZL.out]); (case h1 => exact all_oneCell_toArray HYO.out)))
      have t := Turned.setRow HX69.out (Y).toArray
      (try simp only [Exit.inBlock, Exit.then])
      refine bodyPost_ret (results_row_tmp2 Try.results17 _ _ b6 43 _ (0, 0) _ rfl (t.get (lt_of_blk HX69.out)) Try.underlying43 rfl (by rw [List.size_toArray, (HYL).out]; exact HSZ.out)) rfl ?_
      refine ⟨_, R2.eraseIdx k, some y, false, Y, HMF2.out.put t HB6L.out (by rw [HR2.out] at HMF2 ⊢; exact HMF2.out.pool.not43 HX69.out HNOT.out), HADD.out _ _ _ (.inr (.inr (.inr ⟨HJ.out.1, HYES.out, by rw [map_erase2, HABS.out, set_erase2], HJOIN.out, rfl⟩))), rfl, fun e => (by cases e), fun y' hy' => ?_⟩
      have e := Option.some.inj hy'
      subst e
      refine ⟨A4, c4, HY.out, HYOK.out, HYB9.out.keep (fun i hi => t.other (fun e => ?_)) (by rw [t.size]; exact Nat.le_refl _), fun i hi => ?_, HYLE.out⟩
      · obtain ⟨cu, hc⟩ := body_type HYB9.out hi
        rw [e, HX69.out] at hc; cases hc
      · have h1 := HYF.out i hi
        have h2 := HM2.out.kept.size
        omega
end Go.Proofs.Ytjldcblklbikaaa

/- The reference: a part comes that fits: it is put into its row. The walk's stretch ahead of the last. No condition beyond those named. (Written out by exp.py.) -/
namespace Go.Proofs.Ytjldcblklbikaaa
open Go.RowKit
set_option linter.unusedVariables false
set_option linter.unusedSimpArgs false
set_option maxRecDepth 100000 in
set_option maxHeartbeats 8000000 in
theorem tail27 {P : List Value} {x : Pk} {A A2 : Option Addr} {c c2 mb now b5 b6 b9 k g j : Nat} {rv rv1 : Value} {R R1 : List Dg} {d : Dg} {w : World} (wr : World) (hmw : RMid now x mb rv R w P b5 b6 b9 wr rv1 R1 k d)
    (hx : PkAt P x A c) (hb : Bs wr wr.heap.size A c x.body) (hl : x.body.length ≤ 1000000) (hrb : rv1.ownBlock = some g) (halo : Alone d.id (d.L.map (·.pk))) (hhas : Ds.has x d.abs = true) (hj : judgeN d.abs.L x = 0 ∧ d.L.length ≠ 32) (his : x.is = true)
    (hv : d.v = .slice A2 d.L.length c2) (hmm : j = d.L.length)
    {u1 u2 u3 u4 u7 u8 u9 u12 u13 u14 u15 u16 u17 u18 u19 u20 u21 u22 u23 u24 u25 u26 u27 u28 u29 u30 u31 u32 u33 u34 u35 u36 u37 u38 u39 u40 u41 u42 u43 u44 u45 u46 u47 u48 u49 u50 u51 u52 u53 u54 u55 u56 u57 u58 u59 u60 u61 u62 u63 u64 u65 u66 u67 u68 u69 u70 u71 u72 u73 u74 u75 u76 u77 u78 u79 u80 u81 u82 u83 u84 u85 u86 u87 u88 u89 u90 u91 u92 u93 u94 u95 u96 u97 u98 u99 u100 u101 u102 u103 u104 u105 u106 u107 u108 u109 u110 u111 u112 u113 u114 u115 u116 u117 u118 u119 u120 u121 u122 u123 u124 u125 u126 u127 u128 u129 u130 u131 u132 u133 u134 u135 u136 u137 u138 u139 u140 u141 u142 u143 u144 u145 u146 u147 u148 u149 u150 u151 u152 u153 u154 u155 u156 u157 u158 u159 u160 u161 u162 u163 u164 u165 u166 u167 u168 u169 u170 u171 u172 u173 u174 u175 u176 u177 u178 u179 u180 u181 u182 u183 u184 u185 u186 u187 u188 u189 : Value} :
    (codeAt [1, 1, 1, 1, 1, 1, 1, 1, 1, 1, 1] (Try.f17.body.getD .skip)).wp Try.prog (bodyPost Try.prog Try.f17 (RefRes mb rv R now x w)) ⟨(List.toArray (.pointer (some ⟨mb, 0, none⟩) :: u1 :: u2 :: u3 :: u4 :: .pointer (some ⟨b5, 0, none⟩) :: .pointer (some ⟨b6, 0, none⟩) :: u7 :: u8 :: u9 :: .int .i64 (k : Nat) :: .pointer (some ⟨g, k * 36, none⟩) :: u12 :: u13 :: u14 :: u15 :: u16 :: u17 :: u18 :: u19 :: u20 :: u21 :: u22 :: u23 :: u24 :: u25 :: u26 :: u27 :: u28 :: u29 :: u30 :: u31 :: u32 :: u33 :: u34 :: u35 :: u36 :: u37 :: u38 :: u39 :: u40 :: u41 :: u42 :: u43 :: u44 :: u45 :: u46 :: u47 :: u48 :: u49 :: u50 :: u51 :: u52 :: u53 :: u54 :: u55 :: u56 :: u57 :: u58 :: u59 :: u60 :: u61 :: u62 :: u63 :: u64 :: u65 :: u66 :: u67 :: u68 :: u69 :: u70 :: u71 :: u72 :: u73 :: u74 :: u75 :: u76 :: u77 :: u78 :: u79 :: u80 :: u81 :: u82 :: u83 :: u84 :: u85 :: u86 :: u87 :: u88 :: u89 :: u90 :: u91 :: u92 :: u93 :: u94 :: u95 :: u96 :: u97 :: u98 :: u99 :: u100 :: u101 :: u102 :: u103 :: u104 :: u105 :: u106 :: u107 :: u108 :: u109 :: u110 :: u111 :: u112 :: u113 :: u114 :: u115 :: u116 :: u117 :: u118 :: u119 :: u120 :: u121 :: u122 :: u123 :: u124 :: u125 :: u126 :: u127 :: u128 :: u129 :: u130 :: u131 :: u132 :: u133 :: u134 :: u135 :: u136 :: u137 :: u138 :: u139 :: u140 :: u141 :: u142 :: u143 :: u144 :: u145 :: u146 :: u147 :: u148 :: u149 :: u150 :: u151 :: u152 :: u153 :: u154 :: u155 :: u156 :: u157 :: u158 :: u159 :: u160 :: u161 :: u162 :: u163 :: u164 :: u165 :: u166 :: u167 :: u168 :: u169 :: u170 :: u171 :: u172 :: u173 :: u174 :: u175 :: u176 :: u177 :: u178 :: u179 :: u180 :: u181 :: u182 :: u183 :: u184 :: u185 :: u186 :: u187 :: u188 :: u189 :: [])), []⟩ wr := by
  have HMW := Lib.hid hmw; have HX := Lib.hid hx; have HBS1 := Lib.hid hb; have HL := Lib.hid hl
  have HRB := Lib.hid hrb; have HALO := Lib.hid halo; have HHAS := Lib.hid hhas; have HJ := Lib.hid hj; have HIS := Lib.hid his
  have HV := Lib.hid hv; have HMM := Lib.hid hmm
  have HSZ := Lib.hid size43
  have HZL := Lib.hid zeroP_length
  have HZ1 := Lib.hid zeroP_one
  clear hmw hx hb hl hrb halo hhas hj his hv hmm
  conv in codeAt _ _ => whnf
  have X5 := Lib.hid HMW.out.x5
  have c39 := box_cell X5.out (HX.out.tail 7)
  have HBSW : Hid (Bs wr wr.heap.size A c x.body) := HBS1
  obtain ⟨bx, hbx⟩ : ∃ b, b = x.body := ⟨_, rfl⟩
  have hbl : bx.length ≤ 1000000 := by rw [hbx]; exact HL.out
  rw [← hbx] at c39 HBSW
  have HBX := Lib.hid hbx
  clear hbx
  go_upto_region 27 with (fail)
  go_wp2_with (at_builtin; refine wpList_append_bs rfl _ _ rfl wr.heap.size (.slice none 0 0) 0 [] rfl (World.ownsRow_nil _ _ _ _) A c bx rfl HBSW.out ?l1 ?l2 ?_)
  case l1 => omega
  case l2 => exact Nat.le_refl _
  intro v' w5 hown hgrow hnil
  (try rw [Nat.zero_add, List.nil_append] at hown)
  have hb5 : RowKit.Below wr.heap.size wr w5 := Below.grown' (Below.refl _ _) hgrow (Nat.le_refl _) (fun k hk => by cases hk)
  have HM5 := Lib.hid (HMW.out.step hb5)
  obtain ⟨A3, c3, rfl, hc3⟩ := own_slice2 hown
  have HOWN := Lib.hid hown
  have HB5 := Lib.hid hb5
  have fd39 := frozen_blk HM5.out.x5 39
  have d39 := box_cell HM5.out.x5 (HX.out.tail 7)
  rw [← HBX.out] at d39
  have t5 := Turned.setCell HM5.out.x5 39 (.slice A3 x.body.length c3)
  have hPe : P = pkV x (.slice A x.body.length c) := HX.out.eq
  rw [hPe, body_set HX.out.ok] at t5
  obtain ⟨P2, hP2⟩ : ∃ P, P = pkV x (.slice A3 x.body.length c3) := ⟨_, rfl⟩
  rw [← hP2] at t5
  have HPA : Hid (PkAt P2 x A3 c3) := Lib.hid ⟨hP2, HX.out.ok⟩
  obtain ⟨W4, hW4⟩ : ∃ W, W = w5.setCell ⟨b5, 39, none⟩ (.slice A3 bx.length c3) := ⟨_, rfl⟩
  have hW4' := hW4
  rw [HBX.out] at hW4'
  rw [← hW4'] at t5
  have HT5 := Lib.hid t5
  have HW4 := Lib.hid hW4
  clear hown hgrow hnil hb5 c39 hc3 t5 hPe hP2 hW4 hW4'
  go_upto_region 28 with (fail)
  rw [← HW4.out]
  have HLW := Lib.hid HMW.out.low
  have HNOT : Hid (∀ b, w.heap.size ≤ b ∧ b ≤ b9 → ¬ (rfoot mb rv1 R1 b ∨ bods R1 b)) := Lib.hid fun b hb => HM5.out.not hb
  have HM4 := Lib.hid (HM5.out.mem.put HT5.out (by have := HLW.out; omega) (HNOT.out b5 (by have := HLW.out; omega)))
  have HX64 := Lib.hid ((HT5.out.other (k := b6) (by have := HLW.out; omega)).trans HM5.out.x6)
  have HX94 := Lib.hid ((HT5.out.other (k := b9) (by have := HLW.out; omega)).trans HM5.out.x9)
  have HX54 := Lib.hid (HT5.out.get (lt_of_blk HM5.out.x5))
  have HGET := Lib.hid HM5.out.get
  have HEL : Hid (BodyAt W4 ⟨x, A3, c3⟩ ∧ ∀ g, A3 = some ⟨g, 0, none⟩ → w.heap.size ≤ g) := Lib.hid (by
    have hw1 : w.heap.size ≤ wr.heap.size := HMW.out.mem.kept.size
    have ho := HOWN.out
    rw [HBX.out] at ho
    have ho4 : W4.ownsRow wr.heap.size 5 1 (.slice A3 x.body.length c3) x.body.length (row8 x.body) := own_keep ho (fun i hi => HT5.out.other (fun e => by
      have := (ho.lt i hi).1
      have := lt_of_blk HMW.out.x5
      omega))
    obtain ⟨A6, c6, e6, hb6', _⟩ := Bs.own ho4
    cases e6
    refine ⟨⟨hb6', ?_⟩, fun g hg => ?_⟩
    · rcases ho4.2 with ⟨e, _⟩ | ⟨g6, cap6, cur6, e, hb6, hg6, hn6, hx6, hs6, ht6⟩
      · injection e with e1 e2 e3; exact .inl e1
      · injection e with e1 e2 e3
        exact .inr ⟨g6, cur6, e1, hg6, by show c3 ≤ cur6.size; omega⟩
    · have h1 := (ho4.lt g (by rw [hg]; rfl)).1
      omega)
  have HADD : Hid (∀ (S' : List Ds) (out : Option Pk) (dr : Bool), PutS x (R1.map Dg.abs) k d.abs S' out dr → AddS now x (R.map Dg.abs) S' out dr) := Lib.hid fun _ _ _ h => HMW.out.adds HIS.out h
  have HMAYX := Lib.hid HMW.out.may
  have HIDX : Hid (x.id = d.id) := Lib.hid (by
    have h2 := HHAS.out
    unfold Ds.has at h2
    simp only [Bool.and_eq_true, beq_iff_eq] at h2
    exact h2.2.2.symm)
  clear HM5 HB5 d39 fd39 HBSW HOWN HMW HW4
  go_cut [] from 152 (fun wx => ∃ v', RefMem mb rv R w wx rv1 (R1.set k { d with v := v', L := d.L ++ [⟨x, A3, c3⟩] }) ∧ wx.heap[b6]? = some (.cells zeroP.toArray 43 (0, 0)))
  case first =>
    obtain ⟨W5, hW5⟩ : ∃ W, W = W4.drew := ⟨_, rfl⟩
    have h45 : RowKit.Below W4.heap.size W4 W5 := by rw [hW5]; exact (Below.refl _ _).drew
    have HM5b := Lib.hid (HM4.out.step h45)
    have HX65 := Lib.hid ((h45.block b6 (lt_of_blk HX64.out)).trans HX64.out)
    have HX95 := Lib.hid ((h45.block b9 (lt_of_blk HX94.out)).trans HX94.out)
    have HX55 := Lib.hid ((h45.block b5 (lt_of_blk HX54.out)).trans HX54.out)
    have HEL5 : Hid (BodyAt W5 ⟨x, A3, c3⟩ ∧ ∀ g, A3 = some ⟨g, 0, none⟩ → w.heap.size ≤ g) := Lib.hid ⟨HEL.out.1.keep (fun g hg => h45.block g (HEL.out.1.lt hg)) h45.size, HEL.out.2⟩
    have hda5 := HM5b.out.pool.each d (List.mem_of_getElem? HGET.out)
    have h56 : RowKit.Below W5.heap.size W5 (W5.alloc (.cells P2.toArray 43)) := (Below.refl _ _).alloc (Nat.le_refl _) _
    have hj32 : j ≤ 32 := by have := hda5.many; have := HMM.out; omega
    have hdvg : d.v.ownBlock ≠ some g := fun e => by have := (hda5.kdv e).one (HM5b.out.pool.kdr HRB.out); omega
    have HDVG := Lib.hid hdvg
    obtain ⟨A5, c5, hrv5, hg5⟩ := HM5b.out.pool.gets
    obtain ⟨g', hA5, hrb5, -, hcells5⟩ := hg5 (by rintro h0; have := HGET.out; rw [h0] at this; simp at this)
    have hgg : g' = g := Option.some.inj (hrb5.symm.trans HRB.out)
    rw [hgg] at hcells5
    have g5 : W5.cell? ⟨g, k * 36 + 35, none⟩ = some (.slice A2 j c2) := by
      have := hcells5 k d HGET.out 35 _ (hda5.tail 2)
      rw [HMM.out, ← HV.out]; exact this
    have g6 : (W5.alloc (.cells P2.toArray 43)).cell? ⟨g, k * 36 + 35, none⟩ = some (.slice A2 j c2) := (h56.cell (p := ⟨g, k * 36 + 35, none⟩) (lt_of_cell g5)).trans g5
    have HROW : Hid ((W5.alloc (.cells P2.toArray 43)).ownsRow 0 43 40 (.slice A2 j c2) j (d.L.flatMap El.cells)) := Lib.hid (by
      have := own_below hda5.own h56
      rw [HV.out, ← HMM.out] at this
      exact this)
    have HPL := Lib.hid HPA.out.len
    have HP2C : Hid ((⟨x, A3, c3⟩ : El).cells = P2) := Lib.hid HPA.out.eq.symm
    have HPO := Lib.hid HPA.out.one
    have HC2 : Hid (∀ j u, P2[j]? = some u → (W5.alloc (.cells P2.toArray 43)).cell? ((⟨W5.heap.size, 0, none⟩ : Addr).add j) = some u) := Lib.hid (by
      intro j u hj
      rw [Addr.add_mid, Nat.zero_add]
      have c := cell_blk (heap_alloc_new W5 (.cells P2.toArray 43)) j
      exact c.trans (by simpa using hj))
    have HS7 : Hid ((W5.alloc (.cells P2.toArray 43)).heap[b5]? = some (.cells P2.toArray 43 (0, 0))) := Lib.hid ((h56.block b5 (lt_of_blk HX55.out)).trans HX55.out)
    have HFILL : Hid (Instr.fill (fun i => some (i * 40, 40)) ((Array.range (1 * 40)).map ((Value.agg (pkL nilPk none 0).toArray).cells[· % (Value.agg (pkL nilPk none 0).toArray).cells.size]!)) [(0, .agg P2.toArray)] = some P2.toArray) := Lib.hid (by rw [HPA.out.eq, ← pkV_eq]; exact fill43 HX.out.ok.src HX.out.ok.dst rfl)
    obtain ⟨i43, hi, hz0, hz1, hz2⟩ := info_parts info43
    have hS : W5.heap[b5]? = some (.cells P2.toArray 43 (0, 0)) := HX55.out
    rw [hW5] at hS
    clear h45 hda5 h56 hdvg hrv5 hg5 hA5 hrb5 hcells5 hgg
    refine wp_region_held_drew (S := fun W => W.heap[b5]? = some (.cells P2.toArray 43 (0, 0))) (by kernel_rfl) hS ?_
    rw [← hW5]
    clear hS hW5
    intro HS
    refine wpAnyH_take (i := 0) (v := ?_) rfl (by kernel_rfl) (by kernel_rfl) (by kernel_rfl) (fun _ _ _ h => h) (Or.inl ⟨by go_simp, ?hy⟩) HS ?_
    case hy => intro W hW; go_simp; (try with_reducible rfl)
    try simp only [List.getElem_toArray, List.getElem_cons_zero, List.getElem_cons_succ, Act.put, List.setIfInBounds_toArray, List.set_cons_zero, List.set_cons_succ]
    refine wpAnyH_take (i := 1) (v := ?_) rfl (by kernel_rfl) (by kernel_rfl) (by kernel_rfl) (fun _ _ _ h => h) (Or.inl ⟨by go_simp, ?hy⟩) HS ?_
    case hy => intro W hW; go_simp; (try with_reducible rfl)
    try simp only [List.getElem_toArray, List.getElem_cons_zero, List.getElem_cons_succ, Act.put, List.setIfInBounds_toArray, List.set_cons_zero, List.set_cons_succ]
    refine wpAnyH_take (i := 2) (v := ?_) rfl (by kernel_rfl) (by kernel_rfl) (by kernel_rfl) (fun _ _ _ h => h) (Or.inl ⟨by go_simp, ?hy⟩) HS ?_
    case hy => intro W hW; go_simp; (try with_reducible rfl)
    try simp only [List.getElem_toArray, List.getElem_cons_zero, List.getElem_cons_succ, Act.put, List.setIfInBounds_toArray, List.set_cons_zero, List.set_cons_succ]
    refine wpAnyH_take (i := 3) (v := ?_) rfl (by kernel_rfl) (by kernel_rfl) (by kernel_rfl) (fun _ _ _ h => h) (Or.inl ⟨by go_simp, ?hy⟩) HS ?_
    case hy => intro W hW; go_simp; (try with_reducible rfl)
    try simp only [List.getElem_toArray, List.getElem_cons_zero, List.getElem_cons_succ, Act.put, List.setIfInBounds_toArray, List.set_cons_zero, List.set_cons_succ]
    refine wpAnyH_take (i := 5) (v := .agg P2.toArray) rfl (by kernel_rfl) (by kernel_rfl) (by kernel_rfl) (fun _ _ _ h => h) (by refine yieldsIf_load_mid ?hw 43 (.tmp 5) ?ho b5 0 ?hx P2 _ (fun W hW => row_of hW) Try.underlying43 rfl (by rw [HPL.out]; exact HSZ.out); (case ho => rfl); (case hw => go_simp); (case hx => go_simp)) HS ?_
    try simp only [List.getElem_toArray, List.getElem_cons_zero, List.getElem_cons_succ, Act.put, List.setIfInBounds_toArray, List.set_cons_zero, List.set_cons_succ]
    refine wpAnyH_ready (rs := [4, 6]) (by kernel_rfl) (by simp) ?_
    refine AllReadyH.cons rfl (fun K hK => ?_) (AllReadyH.cons rfl (fun K hK => ?_) AllReadyH.nil)
    · rw [if_pos (by kernel_rfl)]
      simp only [List.getElem_toArray, List.getElem_cons_zero, List.getElem_cons_succ]
      go_simp
      refine hK.out _ _ HS (fun HS => ?_)
      clear hK
      try simp only [List.getElem_toArray, List.getElem_cons_zero, List.getElem_cons_succ, Act.put, List.setIfInBounds_toArray, List.set_cons_zero, List.set_cons_succ]
      refine wpAnyH_ready (rs := [6]) (by kernel_rfl) (by simp) ?_
      refine AllReadyH.cons rfl (fun K hK => ?_) AllReadyH.nil
      rw [if_pos (by kernel_rfl)]
      simp only [List.getElem_toArray, List.getElem_cons_zero, List.getElem_cons_succ]
      refine wp_bs1r 46 43 1 0 (.tmp 157) rfl (.agg P2.toArray) rfl P2.toArray i43 _ Try.underlying46 hi hz0 (by rw [hz1]; decide) (by rw [hz1]; decide) (by rw [hz1]; exact HFILL.out) ?_
      refine hK.out _ _ HS7.out (fun HS => ?_)
      clear hK
      try simp only [List.getElem_toArray, List.getElem_cons_zero, List.getElem_cons_succ, Act.put, List.setIfInBounds_toArray, List.set_cons_zero, List.set_cons_succ]
      refine wpAnyH_ready (rs := [7]) (by kernel_rfl) (by simp) ?_
      refine AllReadyH.cons rfl (fun K hK => ?_) AllReadyH.nil
      rw [if_pos (by kernel_rfl)]
      simp only [List.getElem_toArray, List.getElem_cons_zero, List.getElem_cons_succ]
      refine wp_append_own2 _ _ _ 46 rfl 0 43 i43 _ 40 80 Try.underlying46 hi hz0 hz1 hz2 (by kernel_rfl) (by decide) (.slice A2 j c2) j (d.L.flatMap El.cells) rfl HROW.out ⟨W5.heap.size, 0, none⟩ 1 1 P2 (by decide) rfl (by rw [HPL.out]) HC2.out HPO.out (by unfold maxLen; omega) (by omega) (Nat.zero_le _) ?_
      intro v' w8 ho hg hwh
      obtain ⟨hmem, hold8, hold9⟩ := HM5b.out.grow (e := ⟨x, A3, c3⟩) (o := .cells P2.toArray 43) HGET.out HRB.out HX.out.ok HL.out HEL5.out.1 HEL5.out.2 HJ.out.2 (by rw [← HMM.out, HP2C.out]; exact ho) (by rw [HV.out, ← HMM.out]; exact hg) (by rw [HV.out, ← HMM.out]; exact hwh)
      obtain ⟨q2, cq2, hv2, -⟩ := own_slice2 ho
      have h5 := hold8 b5 (lt_of_blk HX55.out) (fun e => HNOT.out b5 (by have := HLW.out; omega) (.inl (.inr (.inr ⟨d, List.mem_of_getElem? HGET.out, e⟩))))
      have h59 := hold9 b5 (lt_of_blk HX55.out) (fun e => HNOT.out b5 (by have := HLW.out; omega) (.inl e))
      have h69 := hold9 b6 (lt_of_blk HX65.out) (fun e => HNOT.out b6 (by have := HLW.out; omega) (.inl e))
      have h99 := hold9 b9 (lt_of_blk HX95.out) (fun e => HNOT.out b9 (by have := HLW.out; omega) (.inl e))
      obtain ⟨cur8, hcur8⟩ := own_type HM5b.out.pool.row HRB.out
      have hgb8 := (hold8 g (lt_of_blk hcur8) HDVG.out).trans hcur8
      have k8 : w8.cell? ⟨g, k * 36 + 35, none⟩ = some (.slice A2 j c2) := (World.cell?_of_block (w := W5) (a := ⟨g, k * 36 + 35, none⟩) (hold8 g (lt_of_blk hcur8) HDVG.out)).trans g5
      have f8 := frozen_blk hgb8 (k * 36 + 35)
      rw [hv2] at hmem h59 h69 h99 ⊢
      have HMID := Lib.hid hmem
      have HR6 := Lib.hid (h69.trans HX65.out)
      have HR9 := Lib.hid (h99.trans HX95.out)
      have HR5 := Lib.hid (h5.trans HX55.out)
      have HR52 := Lib.hid (h59.trans HX55.out)
      clear ho hg hwh hv2 hmem hold8 hold9 h5 h59 h69 h99 hcur8 hgb8
      refine hK.out _ _ HR5.out (fun HS => ?_)
      clear hK
      try simp only [List.getElem_toArray, List.getElem_cons_zero, List.getElem_cons_succ, Act.put, List.setIfInBounds_toArray, List.set_cons_zero, List.set_cons_succ]
      refine wpAnyH_take (i := 8) (v := ?_) rfl (by kernel_rfl) (by kernel_rfl) (by kernel_rfl) (fun _ _ _ h => h) (Or.inl ⟨by go_simp, ?hy⟩) HS ?_
      case hy => intro W hW; go_simp; (try with_reducible rfl)
      try simp only [List.getElem_toArray, List.getElem_cons_zero, List.getElem_cons_succ, Act.put, List.setIfInBounds_toArray, List.set_cons_zero, List.set_cons_succ]
      refine wpAnyH_take (i := 9) (v := ?_) rfl (by kernel_rfl) (by kernel_rfl) (by kernel_rfl) (fun _ _ _ h => h) (Or.inl ⟨by go_simp, ?hy⟩) HS ?_
      case hy => intro W hW; go_simp; (try with_reducible rfl)
      try simp only [List.getElem_toArray, List.getElem_cons_zero, List.getElem_cons_succ, Act.put, List.setIfInBounds_toArray, List.set_cons_zero, List.set_cons_succ]
      refine wpAnyH_ready (rs := [10]) (by kernel_rfl) (by simp) ?_
      refine AllReadyH.cons rfl (fun K hK => ?_) AllReadyH.nil
      rw [if_pos (by kernel_rfl)]
      simp only [List.getElem_toArray, List.getElem_cons_zero, List.getElem_cons_succ]
      go_simp
      refine hK.out _ _ HR52.out (fun HS => ?_)
      clear hK
      try simp only [List.getElem_toArray, List.getElem_cons_zero, List.getElem_cons_succ, Act.put, List.setIfInBounds_toArray, List.set_cons_zero, List.set_cons_succ]
      refine wpAnyH_done (by kernel_rfl) ?_ _
      go_wp2_with fail
      go_meet
      exact ⟨_, HMID.out, HR6.out⟩
    · rw [if_pos (by kernel_rfl)]
      simp only [List.getElem_toArray, List.getElem_cons_zero, List.getElem_cons_succ]
      refine wp_bs1r 46 43 1 0 (.tmp 157) rfl (.agg P2.toArray) rfl P2.toArray i43 _ Try.underlying46 hi hz0 (by rw [hz1]; decide) (by rw [hz1]; decide) (by rw [hz1]; exact HFILL.out) ?_
      refine hK.out _ _ HS7.out (fun HS => ?_)
      clear hK
      try simp only [List.getElem_toArray, List.getElem_cons_zero, List.getElem_cons_succ, Act.put, List.setIfInBounds_toArray, List.set_cons_zero, List.set_cons_succ]
      refine wpAnyH_ready (rs := [4]) (by kernel_rfl) (by simp) ?_
      refine AllReadyH.cons rfl (fun K hK => ?_) AllReadyH.nil
      rw [if_pos (by kernel_rfl)]
      simp only [List.getElem_toArray, List.getElem_cons_zero, List.getElem_cons_succ]
      go_simp
      refine hK.out _ _ HS (fun HS => ?_)
      clear hK
      try simp only [List.getElem_toArray, List.getElem_cons_zero, List.getElem_cons_succ, Act.put, List.setIfInBounds_toArray, List.set_cons_zero, List.set_cons_succ]
      refine wpAnyH_ready (rs := [7]) (by kernel_rfl) (by simp) ?_
      refine AllReadyH.cons rfl (fun K hK => ?_) AllReadyH.nil
      rw [if_pos (by kernel_rfl)]
      simp only [List.getElem_toArray, List.getElem_cons_zero, List.getElem_cons_succ]
      refine wp_append_own2 _ _ _ 46 rfl 0 43 i43 _ 40 80 Try.underlying46 hi hz0 hz1 hz2 (by kernel_rfl) (by decide) (.slice A2 j c2) j (d.L.flatMap El.cells) rfl HROW.out ⟨W5.heap.size, 0, none⟩ 1 1 P2 (by decide) rfl (by rw [HPL.out]) HC2.out HPO.out (by unfold maxLen; omega) (by omega) (Nat.zero_le _) ?_
      intro v' w8 ho hg hwh
      obtain ⟨hmem, hold8, hold9⟩ := HM5b.out.grow (e := ⟨x, A3, c3⟩) (o := .cells P2.toArray 43) HGET.out HRB.out HX.out.ok HL.out HEL5.out.1 HEL5.out.2 HJ.out.2 (by rw [← HMM.out, HP2C.out]; exact ho) (by rw [HV.out, ← HMM.out]; exact hg) (by rw [HV.out, ← HMM.out]; exact hwh)
      obtain ⟨q2, cq2, hv2, -⟩ := own_slice2 ho
      have h5 := hold8 b5 (lt_of_blk HX55.out) (fun e => HNOT.out b5 (by have := HLW.out; omega) (.inl (.inr (.inr ⟨d, List.mem_of_getElem? HGET.out, e⟩))))
      have h59 := hold9 b5 (lt_of_blk HX55.out) (fun e => HNOT.out b5 (by have := HLW.out; omega) (.inl e))
      have h69 := hold9 b6 (lt_of_blk HX65.out) (fun e => HNOT.out b6 (by have := HLW.out; omega) (.inl e))
      have h99 := hold9 b9 (lt_of_blk HX95.out) (fun e => HNOT.out b9 (by have := HLW.out; omega) (.inl e))
      obtain ⟨cur8, hcur8⟩ := own_type HM5b.out.pool.row HRB.out
      have hgb8 := (hold8 g (lt_of_blk hcur8) HDVG.out).trans hcur8
      have k8 : w8.cell? ⟨g, k * 36 + 35, none⟩ = some (.slice A2 j c2) := (World.cell?_of_block (w := W5) (a := ⟨g, k * 36 + 35, none⟩) (hold8 g (lt_of_blk hcur8) HDVG.out)).trans g5
      have f8 := frozen_blk hgb8 (k * 36 + 35)
      rw [hv2] at hmem h59 h69 h99 ⊢
      have HMID := Lib.hid hmem
      have HR6 := Lib.hid (h69.trans HX65.out)
      have HR9 := Lib.hid (h99.trans HX95.out)
      have HR5 := Lib.hid (h5.trans HX55.out)
      have HR52 := Lib.hid (h59.trans HX55.out)
      clear ho hg hwh hv2 hmem hold8 hold9 h5 h59 h69 h99 hcur8 hgb8
      refine hK.out _ _ HR5.out (fun HS => ?_)
      clear hK
      try simp only [List.getElem_toArray, List.getElem_cons_zero, List.getElem_cons_succ, Act.put, List.setIfInBounds_toArray, List.set_cons_zero, List.set_cons_succ]
      refine wpAnyH_take (i := 8) (v := ?_) rfl (by kernel_rfl) (by kernel_rfl) (by kernel_rfl) (fun _ _ _ h => h) (Or.inl ⟨by go_simp, ?hy⟩) HS ?_
      case hy => intro W hW; go_simp; (try with_reducible rfl)
      try simp only [List.getElem_toArray, List.getElem_cons_zero, List.getElem_cons_succ, Act.put, List.setIfInBounds_toArray, List.set_cons_zero, List.set_cons_succ]
      refine wpAnyH_take (i := 9) (v := ?_) rfl (by kernel_rfl) (by kernel_rfl) (by kernel_rfl) (fun _ _ _ h => h) (Or.inl ⟨by go_simp, ?hy⟩) HS ?_
      case hy => intro W hW; go_simp; (try with_reducible rfl)
      try simp only [List.getElem_toArray, List.getElem_cons_zero, List.getElem_cons_succ, Act.put, List.setIfInBounds_toArray, List.set_cons_zero, List.set_cons_succ]
      refine wpAnyH_ready (rs := [10]) (by kernel_rfl) (by simp) ?_
      refine AllReadyH.cons rfl (fun K hK => ?_) AllReadyH.nil
      rw [if_pos (by kernel_rfl)]
      simp only [List.getElem_toArray, List.getElem_cons_zero, List.getElem_cons_succ]
      go_simp
      refine hK.out _ _ HR52.out (fun HS => ?_)
      clear hK
      try simp only [List.getElem_toArray, List.getElem_cons_zero, List.getElem_cons_succ, Act.put, List.setIfInBounds_toArray, List.set_cons_zero, List.set_cons_succ]
      refine wpAnyH_done (by kernel_rfl) ?_ _
      go_wp2_with fail
      go_meet
      exact ⟨_, HMID.out, HR6.out⟩
  case rest =>
    obtain ⟨v2, hm2, h6⟩ := hcut
    rename_i KK hKK
    exact hKK _ _ (tail29 wc hm2 h6 (fun h => HNOT.out b6 (by have := HLW.out; omega) (.inl h)) (by have := HLW.out; omega) HGET.out HRB.out HALO.out HJ.out HMAYX.out HIS.out HIDX.out HADD.out)
end Go.Proofs.Ytjldcblklbikaaa

/- The reference: a part comes: how it stands to those that are there. The walk's middle. No condition beyond those named. (Written out by exp.py.) -/
namespace Go.Proofs.Ytjldcblklbikaaa
open Go.RowKit
set_option linter.unusedVariables false
set_option linter.unusedSimpArgs false
set_option maxRecDepth 100000 in
set_option maxHeartbeats 8000000 in
theorem tail15 {P : List Value} {x : Pk} {A : Option Addr} {c mb now b5 b6 b9 k : Nat} {rv rv1 : Value} {R R1 : List Dg} {d : Dg} {w : World} (wc : World) (hmid : RMid now x mb rv R w P b5 b6 b9 wc rv1 R1 k d)
    (hgd : Good (R.map Dg.abs)) (hx : PkAt P x A c) (hbs : Bs wc wc.heap.size A c x.body) (hl : x.body.length ≤ 1000000) (his : x.is = true)
    {u1 u2 u3 u4 u7 u8 u11 u12 u13 u14 u15 u16 u17 u18 u19 u20 u21 u22 u23 u24 u25 u26 u27 u28 u29 u30 u31 u32 u33 u34 u35 u36 u37 u38 u39 u40 u41 u42 u43 u44 u45 u46 u47 u48 u49 u50 u51 u52 u53 u54 u55 u56 u57 u58 u59 u60 u61 u62 u63 u64 u65 u66 u67 u68 u69 u70 u71 u72 u73 u74 u75 u76 u77 u78 u79 u80 u81 u82 u83 u84 u85 u86 u87 u88 u89 u90 u91 u92 u93 u94 u95 u96 u97 u98 u99 u100 u101 u102 u103 u104 u105 u106 u107 u108 u109 u110 u111 u112 u113 u114 u115 u116 u117 u118 u119 u120 u121 u122 u123 u124 u125 u126 u127 u128 u129 u130 u131 u132 u133 u134 u135 u136 u137 u138 u139 u140 u141 u142 u143 u144 u145 u146 u147 u148 u149 u150 u151 u152 u153 u154 u155 u156 u157 u158 u159 u160 u161 u162 u163 u164 u165 u166 u167 u168 u169 u170 u171 u172 u173 u174 u175 u176 u177 u178 u179 u180 u181 u182 u183 u184 u185 u186 u187 u188 u189 : Value} :
    (codeAt [1, 1, 1, 1, 1, 1, 1] (Try.f17.body.getD .skip)).wp Try.prog (bodyPost Try.prog Try.f17 (RefRes mb rv R now x w)) ⟨(List.toArray (.pointer (some ⟨mb, 0, none⟩) :: u1 :: u2 :: u3 :: u4 :: .pointer (some ⟨b5, 0, none⟩) :: .pointer (some ⟨b6, 0, none⟩) :: u7 :: u8 :: .pointer (some ⟨b9, 0, none⟩) :: .int .i64 (k : Nat) :: u11 :: u12 :: u13 :: u14 :: u15 :: u16 :: u17 :: u18 :: u19 :: u20 :: u21 :: u22 :: u23 :: u24 :: u25 :: u26 :: u27 :: u28 :: u29 :: u30 :: u31 :: u32 :: u33 :: u34 :: u35 :: u36 :: u37 :: u38 :: u39 :: u40 :: u41 :: u42 :: u43 :: u44 :: u45 :: u46 :: u47 :: u48 :: u49 :: u50 :: u51 :: u52 :: u53 :: u54 :: u55 :: u56 :: u57 :: u58 :: u59 :: u60 :: u61 :: u62 :: u63 :: u64 :: u65 :: u66 :: u67 :: u68 :: u69 :: u70 :: u71 :: u72 :: u73 :: u74 :: u75 :: u76 :: u77 :: u78 :: u79 :: u80 :: u81 :: u82 :: u83 :: u84 :: u85 :: u86 :: u87 :: u88 :: u89 :: u90 :: u91 :: u92 :: u93 :: u94 :: u95 :: u96 :: u97 :: u98 :: u99 :: u100 :: u101 :: u102 :: u103 :: u104 :: u105 :: u106 :: u107 :: u108 :: u109 :: u110 :: u111 :: u112 :: u113 :: u114 :: u115 :: u116 :: u117 :: u118 :: u119 :: u120 :: u121 :: u122 :: u123 :: u124 :: u125 :: u126 :: u127 :: u128 :: u129 :: u130 :: u131 :: u132 :: u133 :: u134 :: u135 :: u136 :: u137 :: u138 :: u139 :: u140 :: u141 :: u142 :: u143 :: u144 :: u145 :: u146 :: u147 :: u148 :: u149 :: u150 :: u151 :: u152 :: u153 :: u154 :: u155 :: u156 :: u157 :: u158 :: u159 :: u160 :: u161 :: u162 :: u163 :: u164 :: u165 :: u166 :: u167 :: u168 :: u169 :: u170 :: u171 :: u172 :: u173 :: u174 :: u175 :: u176 :: u177 :: u178 :: u179 :: u180 :: u181 :: u182 :: u183 :: u184 :: u185 :: u186 :: u187 :: u188 :: u189 :: [])), []⟩ wc := by
  have HX := Lib.hid hx; have HLEN := Lib.hid hx.len; have HL := Lib.hid hl; have HIS := Lib.hid his; have HGD := Lib.hid hgd
  have HSZ := Lib.hid size43
  have HZL := Lib.hid zeroP_length
  have HZ1 := Lib.hid zeroP_one
  conv in codeAt _ _ => whnf
  have HM := Lib.hid hmid
  obtain ⟨hal, hhas⟩ := hmid.alone HGD.out
  have HALO := Lib.hid hal; have HHAS := Lib.hid hhas
  have hp1 := hmid.mem.pool
  obtain ⟨A1, c1, hrv, hg1⟩ := hp1.gets
  have hkR := hmid.get
  obtain ⟨g, rfl, hrb, hgl, hcells⟩ := hg1 (by rintro rfl; simp at hkR)
  have HRB := Lib.hid hrb
  have hkl : k < R1.length := (List.getElem?_eq_some_iff.1 hkR).1
  have hda := hp1.each d (List.mem_of_getElem? hkR)
  have HDA := Lib.hid hda
  obtain ⟨A2, c2, hdv, hP2⟩ := own_reads_at (n := 0) (f := El.cells) hda.own (fun e he => (El.at_ (hda.each e he).1).len)
  have HV := Lib.hid hdv
  have HP2 := Lib.hid hP2
  have e0 : wc.cell? ⟨mb, 0, none⟩ = some (.slice (some ⟨g, 0, none⟩) R1.length c1) := by rw [cell_blk hp1.blk, hrv]; rfl
  have e35 : wc.cell? ⟨g, k * 36 + 35, none⟩ = some (.slice A2 d.L.length c2) := by rw [← hdv]; exact hcells k d hkR 35 _ (hda.tail 2)
  have h4R := hp1.four
  have h32 := hda.many
  obtain ⟨m, hm⟩ : ∃ m, m = d.L.length := ⟨_, rfl⟩
  have HMM := Lib.hid hm
  obtain ⟨n1, hn1⟩ : ∃ m, m = R1.length := ⟨_, rfl⟩
  have HN1 := Lib.hid hn1
  rw [← hm] at e35 h32
  rw [← hn1] at e0 hkl h4R
  have HG : Hid (g < wc.heap.size) := Lib.hid hgl
  have HE35 : Hid (∀ W, RowKit.Below wc.heap.size wc W → W.cell? ⟨g, k * 36 + 35, none⟩ = some (.slice A2 m c2)) := Lib.hid fun W hW => (hW.cell (p := ⟨g, k * 36 + 35, none⟩) hgl).trans e35
  have HX5 : Hid (∀ W, RowKit.Below wc.heap.size wc W → W.heap[b5]? = some (.cells P.toArray 43 (0, 0))) := Lib.hid fun W hW => (hW.block b5 (lt_of_blk hmid.x5)).trans hmid.x5
  have HBS1 : Hid (Bs wc wc.heap.size A c x.body) := Lib.hid hbs
  have HRV1 := Lib.hid hrv
  clear hmid hal hhas hp1 hg1 hkR hrb hgl hcells hda hdv hP2 hm hn1 hrv hgd hx hbs hl his
  go_wp2_with fail
  go_loopw [12, 13] (fun f i wr => ∃ j : Nat, j ≤ m ∧ i = .int .i64 j ∧ f = .bool (decide (m < 32) && !((d.L.take j).any fun e => clashB e.pk x)) ∧ (∀ e ∈ d.L.take j, sameB e.pk x = false) ∧ RowKit.Below wc.heap.size wc wr) (fun _ i _ => m - (intOf i).toNat)
  case atStart => exact ⟨0, Nat.zero_le _, rfl, by simp; omega, fun e he => by simp at he, Below.refl _ _⟩
  case round =>
    obtain ⟨j, hj, rfl, rfl, hno, hW⟩ := hrel
    have HW := Lib.hid hW; have HNO := Lib.hid hno
    have f35 := HE35.out _ hW
    clear hW hno e0 e35
    obtain ⟨fb, hfb⟩ : ∃ b : Bool, b = (decide (m < 32) && !((d.L.take j).any fun e => clashB e.pk x)) := ⟨_, rfl⟩
    rw [← hfb]
    have HFB := Lib.hid hfb
    clear hfb
    by_cases hlt : j < m
    · obtain ⟨e, he⟩ : ∃ e, d.L[j]? = some e := ⟨d.L[j]'(by rw [← HMM.out]; exact hlt), List.getElem?_eq_getElem _⟩
      obtain ⟨g3, rfl, -, hg3, hc3⟩ := HP2.out (by rintro h0; rw [h0] at he; simp at he)
      have HEM := Lib.hid (List.mem_of_getElem? he)
      have hee := HDA.out.each e HEM.out
      have HQP : Hid (PkAt e.cells e.pk e.adr e.cap) := Lib.hid (El.at_ hee.1)
      have HRQ : Hid (∀ W, RowKit.Below wc.heap.size wc W → W.rangeAt g3 (j * 40) e.cells) := Lib.hid fun W hW => range_below (hc3 j e he) hg3 hW
      have HBQ : Hid (∀ W, RowKit.Below wc.heap.size wc W → Bs W W.heap.size e.adr e.cap e.pk.body) := Lib.hid fun W hW => (hee.2.1.keep (fun g hg => hW.block g (hee.2.1.lt hg)) hW.size).bs
      have HEL := Lib.hid hee.2.2
      have HTK : Hid (d.L.take (j + 1) = d.L.take j ++ [e]) := Lib.hid (by rw [List.take_add_one, he]; rfl)
      obtain ⟨Q, hQ⟩ : ∃ Q, Q = e.cells := ⟨_, rfl⟩
      rw [← hQ] at HQP HRQ
      have HLQ := Lib.hid HQP.out.len
      have hie : e.pk.is = x.is ∧ e.pk.id = x.id := by
        have h1 := HALO.out.is e.pk (List.mem_map.2 ⟨e, HEM.out, rfl⟩)
        have h2 := HHAS.out
        unfold Ds.has at h2
        simp only [Bool.and_eq_true, beq_iff_eq] at h2
        exact ⟨by rw [h1.1, HIS.out], by rw [h1.2]; exact h2.2.2⟩
      have HAG : Hid (∀ W, RowKit.Below wc.heap.size wc W → Calls Try.prog 47 #[.agg Q.toArray, .agg P.toArray] W (BoolPost (sameB e.pk x) W)) := Lib.hid fun W hW => again47 W HQP.out HX.out (HBQ.out W hW) ((HBS1.out.below hW).mono hW.size) hie.1 hie.2
      have HFI : Hid (∀ W, Calls Try.prog 48 #[.agg Q.toArray, .agg P.toArray] W (BoolPost (!clashB e.pk x) W)) := Lib.hid fun W => fits48 W HQP.out HX.out (by have := HEL.out; omega) (by have := HL.out; omega) (HALO.out.may e.pk (List.mem_map.2 ⟨e, HEM.out, rfl⟩)) HM.out.may
      obtain ⟨sb, hsb⟩ : ∃ b, b = sameB e.pk x := ⟨_, rfl⟩
      obtain ⟨cb, hcb⟩ : ∃ b, b = clashB e.pk x := ⟨_, rfl⟩
      rw [← hsb] at HAG
      rw [← hcb] at HFI
      have HSB := Lib.hid hsb; have HCB := Lib.hid hcb
      clear he hg3 hc3 hee hQ hie hsb hcb
      go_upto_region 20 with (fail)
      have hS : RowKit.Below wc.heap.size wc wr.drew := HW.out.drew
      refine wp_region_held_drew (S := fun W => RowKit.Below wc.heap.size wc W) (by kernel_rfl) hS ?_
      clear hS
      intro HS
      refine wpAnyH_take (i := 0) (v := ?_) rfl (by kernel_rfl) (by kernel_rfl) (by kernel_rfl) (fun _ _ _ h => h) (Or.inl ⟨by go_simp, ?hy⟩) HS ?_
      case hy => intro W hW; go_simp; (try with_reducible rfl)
      try simp only [List.getElem_toArray, List.getElem_cons_zero, List.getElem_cons_succ, Act.put, List.setIfInBounds_toArray, List.set_cons_zero, List.set_cons_succ]
      refine wpAnyH_take (i := 1) (v := ?_) rfl (by kernel_rfl) (by kernel_rfl) (by kernel_rfl) (fun _ _ _ h => h) (Or.inl ⟨by go_simp, ?hy⟩) HS ?_
      case hy => intro W hW; go_simp; (try with_reducible rfl)
      try simp only [List.getElem_toArray, List.getElem_cons_zero, List.getElem_cons_succ, Act.put, List.setIfInBounds_toArray, List.set_cons_zero, List.set_cons_succ]
      refine wpAnyH_take (i := 2) (v := ?_) rfl (by kernel_rfl) (by kernel_rfl) (by kernel_rfl) (fun _ _ _ h => h) (Or.inl ⟨by go_simp, ?hy⟩) HS ?_
      case hy => intro W hW; go_simp; (try with_reducible rfl)
      try simp only [List.getElem_toArray, List.getElem_cons_zero, List.getElem_cons_succ, Act.put, List.setIfInBounds_toArray, List.set_cons_zero, List.set_cons_succ]
      refine wpAnyH_take (i := 3) (v := ?_) rfl (by kernel_rfl) (by kernel_rfl) (by kernel_rfl) (fun _ _ _ h => h) (Or.inl ⟨by go_simp, ?hy⟩) HS ?_
      case hy => intro W hW; have d := HE35.out W hW; go_simp; (try with_reducible rfl)
      try simp only [List.getElem_toArray, List.getElem_cons_zero, List.getElem_cons_succ, Act.put, List.setIfInBounds_toArray, List.set_cons_zero, List.set_cons_succ]
      refine wpAnyH_take (i := 4) (v := ?_) rfl (by kernel_rfl) (by kernel_rfl) (by kernel_rfl) (fun _ _ _ h => h) (Or.inl ⟨by go_simp, ?hy⟩) HS ?_
      case hy => intro W hW; go_simp; (try with_reducible rfl)
      try simp only [List.getElem_toArray, List.getElem_cons_zero, List.getElem_cons_succ, Act.put, List.setIfInBounds_toArray, List.set_cons_zero, List.set_cons_succ]
      refine wpAnyH_take (i := 5) (v := ?_) rfl (by kernel_rfl) (by kernel_rfl) (by kernel_rfl) (fun _ _ _ h => h) (Or.inl ⟨by go_simp, ?hy⟩) HS ?_
      case hy => intro W hW; go_simp; (try with_reducible rfl)
      try simp only [List.getElem_toArray, List.getElem_cons_zero, List.getElem_cons_succ, Act.put, List.setIfInBounds_toArray, List.set_cons_zero, List.set_cons_succ]
      refine wpAnyH_take (i := 6) (v := .agg Q.toArray) rfl (by kernel_rfl) (by kernel_rfl) (by kernel_rfl) (fun _ _ _ h => h) (by refine yieldsIf_load_mid ?hw 43 (.tmp 122) ?ho g3 (j * 40) ?hx Q _ (fun W hW => HRQ.out W hW) Try.underlying43 rfl (by rw [HLQ.out]; exact HSZ.out); (case ho => rfl); (case hw => go_simp); (case hx => go_simp)) HS ?_
      try simp only [List.getElem_toArray, List.getElem_cons_zero, List.getElem_cons_succ, Act.put, List.setIfInBounds_toArray, List.set_cons_zero, List.set_cons_succ]
      refine wpAnyH_take (i := 7) (v := .agg P.toArray) rfl (by kernel_rfl) (by kernel_rfl) (by kernel_rfl) (fun _ _ _ h => h) (by refine yieldsIf_load_mid ?hw 43 (.tmp 5) ?ho b5 0 ?hx P _ (fun W hW => row_of (HX5.out W hW)) Try.underlying43 rfl (by rw [HLEN.out]; exact HSZ.out); (case ho => rfl); (case hw => go_simp); (case hx => go_simp)) HS ?_
      try simp only [List.getElem_toArray, List.getElem_cons_zero, List.getElem_cons_succ, Act.put, List.setIfInBounds_toArray, List.set_cons_zero, List.set_cons_succ]
      refine wpAnyH_ready (rs := [8]) (by kernel_rfl) (by simp) ?_
      refine AllReadyH.cons rfl (fun K hK => ?_) AllReadyH.nil
      rw [if_pos (by kernel_rfl)]
      simp only [List.getElem_toArray, List.getElem_cons_zero, List.getElem_cons_succ]
      go_simp
      refine (HAG.out _ HS).mono ?_
      rintro e3 w5 ⟨rfl, hb5⟩
      have HW5 := Lib.hid (HS.trans (hb5.mono HS.size))
      go_simp
      refine hK.out _ _ (HW5.out) (fun HS => ?_)
      clear hK
      try simp only [List.getElem_toArray, List.getElem_cons_zero, List.getElem_cons_succ, Act.put, List.setIfInBounds_toArray, List.set_cons_zero, List.set_cons_succ]
      clear hb5
      refine wpAnyH_done (by kernel_rfl) ?_ _
      have HNF : Hid ((decide (m < 32) && !((d.L.take (j + 1)).any fun e => clashB e.pk x)) = (fb && !cb)) := Lib.hid (by rw [HTK.out, HFB.out, HCB.out, List.any_append]; simp [Bool.and_assoc])
      clear HS
      cases sb with
      | true =>
        have hmp := HM.out.step HW5.out
        have X9 := Lib.hid hmp.x9
        have X6 := Lib.hid hmp.x6
        have HMP := Lib.hid hmp
        have HJ : Hid (judgeN d.abs.L x = 1) := Lib.hid (judge_1 HEM.out HSB.out.symm)
        clear hmp f35
        have R9 := Lib.hid (row_of X9.out)
        go_upto_region 21 with (fail)
        generalize hQQ : (Exit.then _ _ : Exit → Act → World → Prop) = QQ
        have HQQ := Lib.hid hQQ
        clear hQQ
        go_wp2_with (first | (refine wpList_load_mid rfl 43 (.tmp 9) ?ho b9 0 ?hx zeroP _ ?hr Try.underlying43 rfl ?hi ?_; (case ho => with_reducible rfl); (case hx => rfl); (case hr => exact R9.out); (case hi => rw [HZL.out]; exact HSZ.out); (try simp only [Act.put, List.setIfInBounds_toArray, List.set_cons_zero, List.set_cons_succ])) | (refine wpList_store_row rfl 43 (.tmp 6) (.tmp 126) ?ho b6 zeroP.toArray ?hx ?hy 43 zeroP.toArray X6.out ?hi ?hc ?h1 ?_; (case ho => with_reducible rfl); (case hx => kernel_rfl); (case hy => kernel_rfl); (case hi => rw [List.size_toArray, HZL.out]; exact HSZ.out); (case hc => simp only [List.size_toArray, HZL.out, HZL.out]); (case h1 => exact all_oneCell_toArray HZ1.out)))
        have t := Turned.setRow X6.out zeroP.toArray
        rw [← HQQ.out]
        (try simp only [Exit.inBlock, Exit.then])
        go_wp2_with fail
        (try simp only [Exit.inBlock, Exit.then])
        refine bodyPost_ret (results_row_tmp2 Try.results17 _ _ b6 43 _ (0, 0) _ rfl (t.get (lt_of_blk X6.out)) Try.underlying43 rfl size43z) rfl ?_
        exact ⟨rv1, R1, none, false, zeroP, HMP.out.mem.step (t.same X6.out _), HMP.out.adds HIS.out (.inl ⟨HJ.out, rfl, rfl, rfl⟩), rfl, fun _ => rfl, fun y hy => by cases hy⟩
      | false =>
        have HNN2 : Hid (∀ e ∈ d.L.take (j + 1), sameB e.pk x = false) := Lib.hid fun e2 he2 => by
          rw [HTK.out] at he2
          rcases List.mem_append.1 he2 with h | h
          · exact HNO.out e2 h
          · rw [List.mem_singleton] at h; rw [h]; exact HSB.out.symm
        go_wp2_with fail
        cases fb with
        | false =>
          have hS : RowKit.Below wc.heap.size wc w5.drew := HW5.out.drew
          refine wp_region_held_drew (S := fun W => RowKit.Below wc.heap.size wc W) (by kernel_rfl) hS ?_
          clear hS
          intro HS
          refine wpAnyH_take (i := 0) (v := ?_) rfl (by kernel_rfl) (by kernel_rfl) (by kernel_rfl) (fun _ _ _ h => h) (Or.inl ⟨by go_simp, ?hy⟩) HS ?_
          case hy => intro W hW; go_simp; (try with_reducible rfl)
          try simp only [List.getElem_toArray, List.getElem_cons_zero, List.getElem_cons_succ, Act.put, List.setIfInBounds_toArray, List.set_cons_zero, List.set_cons_succ]
          refine wpAnyH_take (i := 1) (v := ?_) rfl (by kernel_rfl) (by kernel_rfl) (by kernel_rfl) (fun _ _ _ h => h) (Or.inl ⟨by go_simp, ?hy⟩) HS ?_
          case hy => intro W hW; go_simp; (try with_reducible rfl)
          try simp only [List.getElem_toArray, List.getElem_cons_zero, List.getElem_cons_succ, Act.put, List.setIfInBounds_toArray, List.set_cons_zero, List.set_cons_succ]
          refine wpAnyH_take (i := 2) (v := undef) rfl (by kernel_rfl) (by kernel_rfl) (by kernel_rfl) (fun _ _ _ h => h) (Or.inr ⟨by first | (go_simp; done) | (go_simp; intro h; cases h; done) | kernel_rfl, rfl⟩) HS ?_
          try simp only [List.getElem_toArray, List.getElem_cons_zero, List.getElem_cons_succ, Act.put, List.setIfInBounds_toArray, List.set_cons_zero, List.set_cons_succ]
          refine wpAnyH_take (i := 3) (v := undef) rfl (by kernel_rfl) (by kernel_rfl) (by kernel_rfl) (fun _ _ _ h => h) (Or.inr ⟨by first | (go_simp; done) | (go_simp; intro h; cases h; done) | kernel_rfl, rfl⟩) HS ?_
          try simp only [List.getElem_toArray, List.getElem_cons_zero, List.getElem_cons_succ, Act.put, List.setIfInBounds_toArray, List.set_cons_zero, List.set_cons_succ]
          refine wpAnyH_take (i := 4) (v := undef) rfl (by kernel_rfl) (by kernel_rfl) (by kernel_rfl) (fun _ _ _ h => h) (Or.inr ⟨by first | (go_simp; done) | (go_simp; intro h; cases h; done) | kernel_rfl, rfl⟩) HS ?_
          try simp only [List.getElem_toArray, List.getElem_cons_zero, List.getElem_cons_succ, Act.put, List.setIfInBounds_toArray, List.set_cons_zero, List.set_cons_succ]
          refine wpAnyH_take (i := 5) (v := undef) rfl (by kernel_rfl) (by kernel_rfl) (by kernel_rfl) (fun _ _ _ h => h) (Or.inr ⟨by first | (go_simp; done) | (go_simp; intro h; cases h; done) | kernel_rfl, rfl⟩) HS ?_
          try simp only [List.getElem_toArray, List.getElem_cons_zero, List.getElem_cons_succ, Act.put, List.setIfInBounds_toArray, List.set_cons_zero, List.set_cons_succ]
          refine wpAnyH_take (i := 6) (v := undef) rfl (by kernel_rfl) (by kernel_rfl) (by kernel_rfl) (fun _ _ _ h => h) (Or.inr ⟨by first | (go_simp; done) | (go_simp; intro h; cases h; done) | kernel_rfl, rfl⟩) HS ?_
          try simp only [List.getElem_toArray, List.getElem_cons_zero, List.getElem_cons_succ, Act.put, List.setIfInBounds_toArray, List.set_cons_zero, List.set_cons_succ]
          refine wpAnyH_take (i := 7) (v := undef) rfl (by kernel_rfl) (by kernel_rfl) (by kernel_rfl) (fun _ _ _ h => h) (Or.inr ⟨by first | (go_simp; done) | (go_simp; intro h; cases h; done) | kernel_rfl, rfl⟩) HS ?_
          try simp only [List.getElem_toArray, List.getElem_cons_zero, List.getElem_cons_succ, Act.put, List.setIfInBounds_toArray, List.set_cons_zero, List.set_cons_succ]
          refine wpAnyH_take (i := 8) (v := undef) rfl (by kernel_rfl) (by kernel_rfl) (by kernel_rfl) (fun _ _ _ h => h) (Or.inr ⟨by first | (go_simp; done) | (go_simp; intro h; cases h; done) | kernel_rfl, rfl⟩) HS ?_
          try simp only [List.getElem_toArray, List.getElem_cons_zero, List.getElem_cons_succ, Act.put, List.setIfInBounds_toArray, List.set_cons_zero, List.set_cons_succ]
          refine wpAnyH_take (i := 9) (v := undef) rfl (by kernel_rfl) (by kernel_rfl) (by kernel_rfl) (fun _ _ _ h => h) (Or.inr ⟨by first | (go_simp; done) | (go_simp; intro h; cases h; done) | kernel_rfl, rfl⟩) HS ?_
          try simp only [List.getElem_toArray, List.getElem_cons_zero, List.getElem_cons_succ, Act.put, List.setIfInBounds_toArray, List.set_cons_zero, List.set_cons_succ]
          refine wpAnyH_take (i := 10) (v := undef) rfl (by kernel_rfl) (by kernel_rfl) (by kernel_rfl) (fun _ _ _ h => h) (Or.inr ⟨by first | (go_simp; done) | (go_simp; intro h; cases h; done) | kernel_rfl, rfl⟩) HS ?_
          try simp only [List.getElem_toArray, List.getElem_cons_zero, List.getElem_cons_succ, Act.put, List.setIfInBounds_toArray, List.set_cons_zero, List.set_cons_succ]
          refine wpAnyH_take (i := 11) (v := ?_) rfl (by kernel_rfl) (by kernel_rfl) (by kernel_rfl) (fun _ _ _ h => h) (Or.inl ⟨by go_simp, ?hy⟩) HS ?_
          case hy => intro W hW; go_simp; (try with_reducible rfl)
          try simp only [List.getElem_toArray, List.getElem_cons_zero, List.getElem_cons_succ, Act.put, List.setIfInBounds_toArray, List.set_cons_zero, List.set_cons_succ]
          refine wpAnyH_take (i := 12) (v := ?_) rfl (by kernel_rfl) (by kernel_rfl) (by kernel_rfl) (fun _ _ _ h => h) (Or.inl ⟨by go_simp, ?hy⟩) HS ?_
          case hy => intro W hW; go_simp; (try with_reducible rfl)
          try simp only [List.getElem_toArray, List.getElem_cons_zero, List.getElem_cons_succ, Act.put, List.setIfInBounds_toArray, List.set_cons_zero, List.set_cons_succ]
          refine wpAnyH_done (by kernel_rfl) ?_ _
          have HW6 := Lib.hid HS
          clear HS
          go_wp2_with fail
          go_roundw
          case rel => exact ⟨j + 1, by omega, by go_num, by rw [HNF.out]; rfl, HNN2.out, HW6.out⟩
          case measure => simp [intOf]; omega
        | true =>
          have hS : RowKit.Below wc.heap.size wc w5.drew := HW5.out.drew
          refine wp_region_held_drew (S := fun W => RowKit.Below wc.heap.size wc W) (by kernel_rfl) hS ?_
          clear hS
          intro HS
          refine wpAnyH_take (i := 0) (v := ?_) rfl (by kernel_rfl) (by kernel_rfl) (by kernel_rfl) (fun _ _ _ h => h) (Or.inl ⟨by go_simp, ?hy⟩) HS ?_
          case hy => intro W hW; go_simp; (try with_reducible rfl)
          try simp only [List.getElem_toArray, List.getElem_cons_zero, List.getElem_cons_succ, Act.put, List.setIfInBounds_toArray, List.set_cons_zero, List.set_cons_succ]
          refine wpAnyH_take (i := 1) (v := ?_) rfl (by kernel_rfl) (by kernel_rfl) (by kernel_rfl) (fun _ _ _ h => h) (Or.inl ⟨by go_simp, ?hy⟩) HS ?_
          case hy => intro W hW; go_simp; (try with_reducible rfl)
          try simp only [List.getElem_toArray, List.getElem_cons_zero, List.getElem_cons_succ, Act.put, List.setIfInBounds_toArray, List.set_cons_zero, List.set_cons_succ]
          refine wpAnyH_take (i := 2) (v := ?_) rfl (by kernel_rfl) (by kernel_rfl) (by kernel_rfl) (fun _ _ _ h => h) (Or.inl ⟨by go_simp, ?hy⟩) HS ?_
          case hy => intro W hW; go_simp; (try with_reducible rfl)
          try simp only [List.getElem_toArray, List.getElem_cons_zero, List.getElem_cons_succ, Act.put, List.setIfInBounds_toArray, List.set_cons_zero, List.set_cons_succ]
          refine wpAnyH_take (i := 3) (v := ?_) rfl (by kernel_rfl) (by kernel_rfl) (by kernel_rfl) (fun _ _ _ h => h) (Or.inl ⟨by go_simp, ?hy⟩) HS ?_
          case hy => intro W hW; go_simp; (try with_reducible rfl)
          try simp only [List.getElem_toArray, List.getElem_cons_zero, List.getElem_cons_succ, Act.put, List.setIfInBounds_toArray, List.set_cons_zero, List.set_cons_succ]
          refine wpAnyH_take (i := 4) (v := ?_) rfl (by kernel_rfl) (by kernel_rfl) (by kernel_rfl) (fun _ _ _ h => h) (Or.inl ⟨by go_simp, ?hy⟩) HS ?_
          case hy => intro W hW; go_simp; (try with_reducible rfl)
          try simp only [List.getElem_toArray, List.getElem_cons_zero, List.getElem_cons_succ, Act.put, List.setIfInBounds_toArray, List.set_cons_zero, List.set_cons_succ]
          refine wpAnyH_take (i := 5) (v := ?_) rfl (by kernel_rfl) (by kernel_rfl) (by kernel_rfl) (fun _ _ _ h => h) (Or.inl ⟨by go_simp, ?hy⟩) HS ?_
          case hy => intro W hW; have d := HE35.out W hW; go_simp; (try with_reducible rfl)
          try simp only [List.getElem_toArray, List.getElem_cons_zero, List.getElem_cons_succ, Act.put, List.setIfInBounds_toArray, List.set_cons_zero, List.set_cons_succ]
          refine wpAnyH_take (i := 6) (v := ?_) rfl (by kernel_rfl) (by kernel_rfl) (by kernel_rfl) (fun _ _ _ h => h) (Or.inl ⟨by go_simp, ?hy⟩) HS ?_
          case hy => intro W hW; go_simp; (try with_reducible rfl)
          try simp only [List.getElem_toArray, List.getElem_cons_zero, List.getElem_cons_succ, Act.put, List.setIfInBounds_toArray, List.set_cons_zero, List.set_cons_succ]
          refine wpAnyH_take (i := 7) (v := ?_) rfl (by kernel_rfl) (by kernel_rfl) (by kernel_rfl) (fun _ _ _ h => h) (Or.inl ⟨by go_simp, ?hy⟩) HS ?_
          case hy => intro W hW; go_simp; (try with_reducible rfl)
          try simp only [List.getElem_toArray, List.getElem_cons_zero, List.getElem_cons_succ, Act.put, List.setIfInBounds_toArray, List.set_cons_zero, List.set_cons_succ]
          refine wpAnyH_take (i := 8) (v := .agg Q.toArray) rfl (by kernel_rfl) (by kernel_rfl) (by kernel_rfl) (fun _ _ _ h => h) (by refine yieldsIf_load_mid ?hw 43 (.tmp 134) ?ho g3 (j * 40) ?hx Q _ (fun W hW => HRQ.out W hW) Try.underlying43 rfl (by rw [HLQ.out]; exact HSZ.out); (case ho => rfl); (case hw => go_simp); (case hx => go_simp)) HS ?_
          try simp only [List.getElem_toArray, List.getElem_cons_zero, List.getElem_cons_succ, Act.put, List.setIfInBounds_toArray, List.set_cons_zero, List.set_cons_succ]
          refine wpAnyH_take (i := 9) (v := .agg P.toArray) rfl (by kernel_rfl) (by kernel_rfl) (by kernel_rfl) (fun _ _ _ h => h) (by refine yieldsIf_load_mid ?hw 43 (.tmp 5) ?ho b5 0 ?hx P _ (fun W hW => row_of (HX5.out W hW)) Try.underlying43 rfl (by rw [HLEN.out]; exact HSZ.out); (case ho => rfl); (case hw => go_simp); (case hx => go_simp)) HS ?_
          try simp only [List.getElem_toArray, List.getElem_cons_zero, List.getElem_cons_succ, Act.put, List.setIfInBounds_toArray, List.set_cons_zero, List.set_cons_succ]
          refine wpAnyH_ready (rs := [10]) (by kernel_rfl) (by simp) ?_
          refine AllReadyH.cons rfl (fun K hK => ?_) AllReadyH.nil
          rw [if_pos (by kernel_rfl)]
          simp only [List.getElem_toArray, List.getElem_cons_zero, List.getElem_cons_succ]
          go_simp
          refine (HFI.out _).mono ?_
          rintro e3 w6 ⟨rfl, hb6⟩
          have HW6 := Lib.hid (HS.trans (hb6.mono HS.size))
          go_simp
          refine hK.out _ _ (HW6.out) (fun HS => ?_)
          clear hK
          try simp only [List.getElem_toArray, List.getElem_cons_zero, List.getElem_cons_succ, Act.put, List.setIfInBounds_toArray, List.set_cons_zero, List.set_cons_succ]
          clear hb6
          refine wpAnyH_take (i := 11) (v := ?_) rfl (by kernel_rfl) (by kernel_rfl) (by kernel_rfl) (fun _ _ _ h => h) (Or.inl ⟨by go_simp, ?hy⟩) HS ?_
          case hy => intro W hW; go_simp; (try with_reducible rfl)
          try simp only [List.getElem_toArray, List.getElem_cons_zero, List.getElem_cons_succ, Act.put, List.setIfInBounds_toArray, List.set_cons_zero, List.set_cons_succ]
          refine wpAnyH_take (i := 12) (v := ?_) rfl (by kernel_rfl) (by kernel_rfl) (by kernel_rfl) (fun _ _ _ h => h) (Or.inl ⟨by go_simp, ?hy⟩) HS ?_
          case hy => intro W hW; go_simp; (try with_reducible rfl)
          try simp only [List.getElem_toArray, List.getElem_cons_zero, List.getElem_cons_succ, Act.put, List.setIfInBounds_toArray, List.set_cons_zero, List.set_cons_succ]
          refine wpAnyH_done (by kernel_rfl) ?_ _
          clear HS
          go_wp2_with fail
          go_roundw
          case rel => exact ⟨j + 1, by omega, by go_num, by rw [HNF.out]; rfl, HNN2.out, HW6.out⟩
          case measure => simp [intOf]; omega
    · obtain rfl : j = m := by omega
      have HNS : Hid (∀ e ∈ d.L, sameB e.pk x = false) := Lib.hid fun e he => HNO.out e (by rw [HMM.out, List.take_length]; exact he)
      have HFF : Hid (fb = (decide (j < 32) && !(d.L.any fun e => clashB e.pk x))) := Lib.hid (by rw [HFB.out, HMM.out, List.take_length])
      have HMW := Lib.hid (HM.out.step HW.out)
      clear hlt
      go_upto_if 140 with (fail)
      go_cut [] (fun wx => judgeN d.abs.L x = 0 ∧ d.L.length ≠ 32 ∧ RMid now x mb rv R w P b5 b6 b9 wx rv1 R1 k d ∧ Bs wx wx.heap.size A c x.body)
      case first =>
        cases fb with
        | false =>
          have HJ : Hid (judgeN d.abs.L x = 2) := Lib.hid (judge_2 HNS.out (by rw [← HMM.out]; exact h32) (by rw [← HMM.out]; exact HFF.out))
          have hmw := HMW.out
          obtain ⟨cur, hcur⟩ := own_type hmw.mem.pool.row HRB.out
          have f34 := frozen_blk hcur (k * 36 + 34)
          have HSP := Lib.hid (hmw.mem.pool.spoil hmw.get HRB.out)
          have t34 := Turned.setCell hcur (k * 36 + 34) (.bool true)
          have hgk := hmw.mem.pool.kdr HRB.out
          have hd1 := hmw.mem.pool.each d (List.mem_of_getElem? hmw.get)
          obtain ⟨q5, cq5, hv5, -⟩ := own_slice2 hd1.own
          have hc5 := hmw.mem.pool.gets
          obtain ⟨A5, c5, hrv5, hg5⟩ := hc5
          obtain ⟨g5, hA5, hrb5, -, hcells5⟩ := hg5 (by rintro h0; have := hmw.get; rw [h0] at this; simp at this)
          have hgg : g5 = g := Option.some.inj (hrb5.symm.trans HRB.out)
          subst hgg
          have k34 := hcells5 k d hmw.get 34 _ (hd1.tail 1)
          have k35 := hcells5 k d hmw.get 35 _ (hd1.tail 2)
          have X9 := Lib.hid hmw.x9
          have X6 := Lib.hid hmw.x6
          have HNT := Lib.hid (fun b => hmw.not (b := b))
          have HLW := Lib.hid hmw.low
          have h56 : b6 ≠ g5 ∧ b9 ≠ g5 := by
            have hl := hmw.low
            have hr : rfoot mb rv1 R1 g5 := .inr (.inl HRB.out)
            exact ⟨fun e => hmw.not (b := b6) (by omega) (.inl (e ▸ hr)), fun e => hmw.not (b := b9) (by omega) (.inl (e ▸ hr))⟩
          have H56 := Lib.hid h56
          clear hmw hgk hd1 hv5 hrv5 hg5 hA5 hrb5 hcells5 h56
          go_upto_region 25 with (fail)
          obtain ⟨W3, hW3⟩ : ∃ W, W = wr.setCell ⟨g5, k * 36 + 34, none⟩ (.bool true) := ⟨_, rfl⟩
          rw [← hW3] at t34 HSP ⊢
          have h3 := t34.get (lt_of_blk hcur)
          have g35 := frozen_blk h3 (k * 36 + 35)
          have e35 : W3.cell? ⟨g5, k * 36 + 35, none⟩ = some d.v := by
            rw [cell_blk h3]
            rw [cell_blk hcur] at k35
            rw [Array.getElem?_setIfInBounds_ne (by omega)]; exact k35
          clear hW3 hcur t34 h3 f34 k34 k35 f35
          go_upto_region 26 with (fail)
          obtain ⟨W4, hW4⟩ : ∃ W, W = W3.setCell ⟨g5, k * 36 + 35, none⟩ (.slice none 0 0) := ⟨_, rfl⟩
          rw [← hW4] at HSP ⊢
          obtain ⟨hm4, o4, t4⟩ := HSP.out
          have Y9 : Hid (W4.heap[b9]? = some (.cells zeroP.toArray 43 (0, 0))) := Lib.hid ((t4.other H56.out.2).trans X9.out)
          have Y6 : Hid (W4.heap[b6]? = some (.cells zeroP.toArray 43 (0, 0))) := Lib.hid ((t4.other H56.out.1).trans X6.out)
          have HM4 := Lib.hid hm4
          clear hW4 HSP hm4 t4 e35 g35
          have R9 := Lib.hid (row_of Y9.out)
          go_wp2_with (first | (refine wpList_load_mid rfl 43 (.tmp 9) ?ho b9 0 ?hx zeroP _ ?hr Try.underlying43 rfl ?hi ?_; (case ho => with_reducible rfl); (case hx => rfl); (case hr => exact R9.out); (case hi => rw [HZL.out]; exact HSZ.out); (try simp only [Act.put, List.setIfInBounds_toArray, List.set_cons_zero, List.set_cons_succ])) | (refine wpList_store_row rfl 43 (.tmp 6) (.tmp 147) ?ho b6 zeroP.toArray ?hx ?hy 43 zeroP.toArray Y6.out ?hi ?hc ?h1 ?_; (case ho => with_reducible rfl); (case hx => kernel_rfl); (case hy => kernel_rfl); (case hi => rw [List.size_toArray, HZL.out]; exact HSZ.out); (case hc => simp only [List.size_toArray, HZL.out, HZL.out]); (case h1 => exact all_oneCell_toArray HZ1.out)))
          have t := Turned.setRow Y6.out zeroP.toArray
          (try simp only [Exit.inBlock, Exit.then])
          refine bodyPost_ret (results_row_tmp2 Try.results17 _ _ b6 43 _ (0, 0) _ rfl (t.get (lt_of_blk Y6.out)) Try.underlying43 rfl size43z) rfl ?_
          exact ⟨rv1, _, none, true, zeroP, (HMW.out.mem.trans HM4.out).step (t.same Y6.out _), HMW.out.adds HIS.out (.inr (.inl ⟨HJ.out, by rw [set_abs]; rfl, rfl, rfl⟩)), rfl, fun _ => rfl, fun y hy => by cases hy⟩
        | true =>
          have HJ : Hid (judgeN d.abs.L x = 0 ∧ d.L.length ≠ 32) := Lib.hid (judge_0 HNS.out (by rw [← HMM.out]; exact HFF.out))
          have HBW : Hid (Bs wr wr.heap.size A c x.body) := Lib.hid ((HBS1.out.below HW.out).mono HW.out.size)
          go_wp2_with fail
          go_meet
          exact ⟨HJ.out.1, HJ.out.2, HMW.out, HBW.out⟩
      case rest =>
        obtain ⟨hj1, hj2, hmw, hbw⟩ := hcut
        rename_i KK hKK
        exact hKK _ _ (tail27 _ hmw HX.out hbw HL.out HRB.out HALO.out HHAS.out ⟨hj1, hj2⟩ HIS.out HV.out HMM.out)
end Go.Proofs.Ytjldcblklbikaaa
