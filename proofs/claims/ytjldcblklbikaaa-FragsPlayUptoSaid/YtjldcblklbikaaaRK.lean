/- The reference: a part comes: the walk. No condition but that the pool is one, its parts stand alone, and the part's body is shorter than a million bytes. (Written out by exp.py.) -/
import Derived.Test.YtjldcblklbikaaaRKt
namespace Go.Proofs.Ytjldcblklbikaaa
open Go.RowKit
set_option linter.unusedVariables false
set_option linter.unusedSimpArgs false
set_option maxRecDepth 100000 in
set_option maxHeartbeats 8000000 in
theorem radd17 {P : List Value} {x : Pk} {A : Option Addr} {c mb now : Nat} {rv : Value} {R : List Dg} (w : World) (h : RefAt w mb rv R) (hgd : Good (R.map Dg.abs)) (hx : PkAt P x A c) (hb : Bs w w.heap.size A c x.body) (hl : x.body.length ≤ 1000000) (hb5 : x.body ≠ [] → ∀ g o, A = some ⟨g, o, none⟩ → ¬ rfoot mb rv R g) (hn : now < 18446744073709551616) :
    Calls Try.prog 17 #[.pointer (some ⟨mb, 0, none⟩), .int .u64 (now : Int), .agg P.toArray] w (RefRes mb rv R now x w) := by
  have HB5 := Lib.hid hb5
  clear hb5
  obtain ⟨Z, hZ⟩ : ∃ Z : List Value, Z = zeroP := ⟨_, rfl⟩
  have hZ2 := zeroP_lit
  rw [← hZ] at hZ2
  have HZL0 : Hid (Z.length = 40) := Lib.hid (by rw [hZ]; exact zeroP_length)
  have HZ10 : Hid (∀ v ∈ Z, v.oneCell' = true) := Lib.hid (by rw [hZ]; exact zeroP_one)
  obtain ⟨V1, hV1⟩ : ∃ V, V = w.alloc (.cells P.toArray 43) := ⟨_, rfl⟩
  obtain ⟨V2, hV2⟩ : ∃ V, V = V1.alloc (.cells Z.toArray 43) := ⟨_, rfl⟩
  obtain ⟨V, hV⟩ : ∃ V, V = V2.alloc (.cells Z.toArray 43) := ⟨_, rfl⟩
  have h01 : RowKit.Below w.heap.size w V1 := by rw [hV1]; exact (Below.refl _ _).alloc (Nat.le_refl _) _
  have h12 : RowKit.Below V1.heap.size V1 V2 := by rw [hV2]; exact (Below.refl _ _).alloc (Nat.le_refl _) _
  have h23 : RowKit.Below V2.heap.size V2 V := by rw [hV]; exact (Below.refl _ _).alloc (Nat.le_refl _) _
  have s1 : V1.heap.size = w.heap.size + 1 := by rw [hV1]; simp
  have s2 : V2.heap.size = w.heap.size + 2 := by rw [hV2]; simp [s1]
  have s3 : V.heap.size = w.heap.size + 3 := by rw [hV]; simp [s2]
  have hal : RowKit.Below w.heap.size w V := h01.trans ((h12.trans (h23.mono (by omega))).mono (by omega))
  obtain ⟨b5, hb5⟩ : ∃ b, b = w.heap.size := ⟨_, rfl⟩
  obtain ⟨b6, hb6⟩ : ∃ b, b = w.heap.size + 1 := ⟨_, rfl⟩
  obtain ⟨b9, hb9⟩ : ∃ b, b = w.heap.size + 2 := ⟨_, rfl⟩
  have x5 : V.heap[b5]? = some (.cells P.toArray 43 (0, 0)) := by rw [h23.block _ (by omega), h12.block _ (by omega), hb5, hV1]; exact heap_alloc_new w _
  have x6 : V.heap[b6]? = some (.cells zeroP.toArray 43 (0, 0)) := by rw [h23.block _ (by omega), hb6, ← s1, hV2, hZ]; exact heap_alloc_new V1 _
  have x9 : V.heap[b9]? = some (.cells zeroP.toArray 43 (0, 0)) := by rw [hb9, ← s2, hV, hZ]; exact heap_alloc_new V2 _
  have HAB : Hid (RB w P b5 b6 b9 V) := Lib.hid ⟨hal, x5, x6, x9⟩
  have HLOW : Hid (w.heap.size ≤ b5 ∧ b5 < b6 ∧ b6 < b9) := Lib.hid (by omega)
  have HSZ := Lib.hid size43
  have HX := Lib.hid hx
  have HLEN := Lib.hid hx.len
  have HONE := Lib.hid hx.one
  have HZL := Lib.hid zeroP_length
  have HZ1 := Lib.hid zeroP_one
  have HBS := Lib.hid hb
  have HL := Lib.hid hl
  have HNOW := Lib.hid hn
  have HP := Lib.hid h
  have HGD := Lib.hid hgd
  have c34 := box_cell x5 (hx.tail 2)
  obtain ⟨is, his⟩ : ∃ b, b = x.is := ⟨_, rfl⟩
  rw [← his] at c34
  have HIS := Lib.hid his
  have HD : Hid ((w.alloc (.cells P.toArray 43)).alloc (.cells Z.toArray 43) = V2) := Lib.hid (by rw [hV2, hV1])
  have HDV : Hid (V2.alloc (.cells Z.toArray 43) = V) := Lib.hid hV.symm
  have HSS : Hid (w.heap.size = b5 ∧ w.heap.size + 1 = b6 ∧ w.heap.size + 1 + 1 = b9) := Lib.hid (by omega)
  clear hV1 hV2 hV h01 h12 h23 s1 s2 s3 hal hb5 hb6 hb9 x5 x6 x9 hZ h hx hb hl hn hgd his
  go_enter Try.func17, Try.ntmps17
  go_upto_region 2 with (refine wpList_store_new rfl 43 (.tmp 9) (.tmp 16) ?ho _ _ Z.toArray 43 ?hx ?hy ?hi ?hc ?h1 ?_; (case ho => with_reducible rfl); (case hx => show Value.pointer _ = Value.pointer _; simp); (case hy => rfl); (case hi => rw [List.size_toArray, HZL0.out]; exact HSZ.out); (case hc => first | rfl | exact Eq.trans (b := 40) rfl (by rw [List.size_toArray, HZL0.out])); (case h1 => exact all_oneCell_toArray HZ10.out))
  clear hZ2
  rw [HD.out, HDV.out, HSS.out.2.2, HSS.out.2.1, HSS.out.1]
  clear HD HDV HSS HZL0 HZ10
  cases is with
  | false =>
    have R9 := Lib.hid (row_of HAB.out.x9)
    go_wp2_with (first | (refine wpList_load_mid rfl 43 (.tmp 9) ?ho b9 0 ?hx zeroP _ ?hr Try.underlying43 rfl ?hi ?_; (case ho => with_reducible rfl); (case hx => rfl); (case hr => exact R9.out); (case hi => rw [HZL.out]; exact HSZ.out); (try simp only [Act.put, List.setIfInBounds_toArray, List.set_cons_zero, List.set_cons_succ])) | (refine wpList_store_row rfl 43 (.tmp 6) (.tmp 21) ?ho b6 zeroP.toArray ?hx ?hy 43 zeroP.toArray HAB.out.x6 ?hi ?hc ?h1 ?_; (case ho => with_reducible rfl); (case hx => kernel_rfl); (case hy => kernel_rfl); (case hi => rw [List.size_toArray, HZL.out]; exact HSZ.out); (case hc => simp only [List.size_toArray, HZL.out, HZL.out]); (case h1 => exact all_oneCell_toArray HZ1.out)))
    have t := Turned.setRow HAB.out.x6 zeroP.toArray
    (try simp only [Exit.inBlock, Exit.then])
    refine bodyPost_ret (results_row_tmp2 Try.results17 _ _ b6 43 _ (0, 0) _ rfl (t.get (lt_of_blk HAB.out.x6)) Try.underlying43 rfl size43z) rfl ?_
    exact ⟨rv, R, none, true, zeroP, RefMem.below HP.out (HAB.out.step (t.same HAB.out.x6 _)).old, .inl ⟨HIS.out.symm, rfl, rfl, rfl⟩, rfl, fun _ => rfl, fun y hy => by cases hy⟩
  | true =>
    have H44 := Lib.hid (where44 V (HP.out.below HAB.out.old) HX.out)
    have R5 := Lib.hid (row_of HAB.out.x5)
    go_wp2_with (first | (refine wpList_load_mid rfl 43 (.tmp 5) ?ho b5 0 ?hx P _ ?hr Try.underlying43 rfl ?hi ?_; (case ho => with_reducible rfl); (case hx => rfl); (case hr => exact R5.out); (case hi => rw [HLEN.out]; exact HSZ.out); (try simp only [Act.put, List.setIfInBounds_toArray, List.set_cons_zero, List.set_cons_succ])))
    refine (H44.out).mono ?_
    rintro e w1 ⟨r, hr, rfl, hb1⟩
    have HAB1 := Lib.hid (HAB.out.step hb1)
    have HR := Lib.hid hr
    have R51 := Lib.hid (row_of HAB1.out.x5)
    obtain ⟨zi, hzi⟩ : ∃ z, z = numK r := ⟨_, rfl⟩
    rw [← hzi]
    have HZI := Lib.hid hzi
    clear hb1 hr H44 c34 hzi
    have H45 := Lib.hid (may45 w1 HX.out (by have := HL.out; omega))
    go_wp2_with (first | (refine wpList_load_mid rfl 43 (.tmp 5) ?ho b5 0 ?hx P _ ?hr Try.underlying43 rfl ?hi ?_; (case ho => with_reducible rfl); (case hx => rfl); (case hr => exact R51.out); (case hi => rw [HLEN.out]; exact HSZ.out); (try simp only [Act.put, List.setIfInBounds_toArray, List.set_cons_zero, List.set_cons_succ])))
    refine (H45.out).mono ?_
    rintro e w2 ⟨rfl, hb2⟩
    have HAB2 := Lib.hid (HAB1.out.step hb2)
    obtain ⟨m1, hm1⟩ : ∃ b, b = mayB x := ⟨_, rfl⟩
    rw [← hm1]
    have HM1 := Lib.hid hm1
    clear hb2 H45 hm1
    go_upto_if 27 with (fail)
    go_cut [] (fun wx => mayB x = true ∧ RB w P b5 b6 b9 wx)
    case first =>
      cases m1 with
      | true =>
        go_wp2_with fail
        go_meet
        exact ⟨HM1.out.symm, HAB2.out⟩
      | false =>
        cases r with
        | none =>
          obtain rfl : zi = -1 := HZI.out
          have R9 := Lib.hid (row_of HAB2.out.x9)
          go_wp2_with (first | (refine wpList_load_mid rfl 43 (.tmp 9) ?ho b9 0 ?hx zeroP _ ?hr Try.underlying43 rfl ?hi ?_; (case ho => with_reducible rfl); (case hx => rfl); (case hr => exact R9.out); (case hi => rw [HZL.out]; exact HSZ.out); (try simp only [Act.put, List.setIfInBounds_toArray, List.set_cons_zero, List.set_cons_succ])) | (refine wpList_store_row rfl 43 (.tmp 6) (.tmp 44) ?ho b6 zeroP.toArray ?hx ?hy 43 zeroP.toArray HAB2.out.x6 ?hi ?hc ?h1 ?_; (case ho => with_reducible rfl); (case hx => kernel_rfl); (case hy => kernel_rfl); (case hi => rw [List.size_toArray, HZL.out]; exact HSZ.out); (case hc => simp only [List.size_toArray, HZL.out, HZL.out]); (case h1 => exact all_oneCell_toArray HZ1.out)))
          have t := Turned.setRow HAB2.out.x6 zeroP.toArray
          (try simp only [Exit.inBlock, Exit.then])
          refine bodyPost_ret (results_row_tmp2 Try.results17 _ _ b6 43 _ (0, 0) _ rfl (t.get (lt_of_blk HAB2.out.x6)) Try.underlying43 rfl size43z) rfl ?_
          exact ⟨rv, R, none, true, zeroP, RefMem.below HP.out (HAB2.out.step (t.same HAB2.out.x6 _)).old, .inr (.inl ⟨HIS.out.symm, HM1.out.symm, .inl ⟨HR.out.abs, rfl⟩, rfl, rfl⟩), rfl, fun _ => rfl, fun y hy => by cases hy⟩
        | some k =>
          obtain rfl : zi = (k : Int) := HZI.out
          obtain ⟨d, hd, -, -⟩ := id HR.out
          have hp2 := HP.out.below HAB2.out.old
          obtain ⟨A1, c1, hrv, hg1⟩ := hp2.gets
          obtain ⟨g, rfl, hrb, hgl, hcells⟩ := hg1 (by rintro rfl; simp at hd)
          have d0 : w2.cell? ⟨mb, 0, none⟩ = some (.slice (some ⟨g, 0, none⟩) R.length c1) := by rw [cell_blk hp2.blk, hrv]; rfl
          obtain ⟨cur, hcur⟩ := own_type hp2.row hrb
          have hkl := (List.getElem?_eq_some_iff.1 hd).1
          have h4 := hp2.four
          have f34 := frozen_blk hcur (k * 36 + 34)
          have f35 := frozen_blk hcur (k * 36 + 35)
          have hda := hp2.each d (List.mem_of_getElem? hd)
          have k34 := hcells k d hd 34 _ (hda.tail 1)
          have k35 := hcells k d hd 35 _ (hda.tail 2)
          obtain ⟨cap, hdv, -⟩ : ∃ q, ∃ cq, d.v = .slice q d.L.length cq := by
            obtain ⟨q, cq, h, -⟩ := own_slice2 hda.own
            exact ⟨q, cq, h⟩
          have HSP := Lib.hid (hp2.spoil hd hrb)
          have HD := Lib.hid hd
          obtain ⟨n, hn⟩ : ∃ n, n = R.length := ⟨_, rfl⟩
          rw [← hn] at d0 hkl h4
          have hmg : mb ≠ g := fun e => by have := hp2.kdm.one (e ▸ hp2.kdr hrb); omega
          have HMG := Lib.hid hmg
          have HRB := Lib.hid hrb
          have t34 := Turned.setCell hcur (k * 36 + 34) (.bool true)
          have HB2m := Lib.hid hp2.blk
          clear hrv hg1 hcells hd hn hda hp2 hmg hrb hgl
          go_upto_region 8 with (fail)
          obtain ⟨W3, hW3⟩ : ∃ W, W = w2.setCell ⟨g, k * 36 + 34, none⟩ (.bool true) := ⟨_, rfl⟩
          rw [← hW3] at t34 HSP ⊢
          have e0 : W3.cell? ⟨mb, 0, none⟩ = some (.slice (some ⟨g, 0, none⟩) n c1) := (World.cell?_of_block (w := w2) (a := ⟨mb, 0, none⟩) (t34.other HMG.out)).trans d0
          have h3 := t34.get (lt_of_blk hcur)
          have g35 := frozen_blk h3 (k * 36 + 35)
          have e35 : W3.cell? ⟨g, k * 36 + 35, none⟩ = some d.v := by
            rw [cell_blk h3]
            rw [cell_blk hcur] at k35
            rw [Array.getElem?_setIfInBounds_ne (by omega)]; exact k35
          have h56 : b5 ≠ g ∧ b6 ≠ g ∧ b9 ≠ g := by
            have hgl := own_lt HP.out.row HRB.out
            have := HLOW.out
            omega
          clear hW3 hcur t34 h3 d0 f34 f35 k34 k35
          go_upto_region 9 with (fail)
          obtain ⟨W4, hW4⟩ : ∃ W, W = W3.setCell ⟨g, k * 36 + 35, none⟩ (.slice none 0 0) := ⟨_, rfl⟩
          rw [← hW4] at HSP ⊢
          obtain ⟨hm4, o4, t4⟩ := HSP.out
          have X9 : Hid (W4.heap[b9]? = some (.cells zeroP.toArray 43 (0, 0))) := Lib.hid ((t4.other h56.2.2).trans HAB2.out.x9)
          have X6 : Hid (W4.heap[b6]? = some (.cells zeroP.toArray 43 (0, 0))) := Lib.hid ((t4.other h56.2.1).trans HAB2.out.x6)
          have HM4 := Lib.hid hm4
          clear hW4 HSP hm4 t4 e0 g35 e35 h56
          have R9 := Lib.hid (row_of X9.out)
          go_wp2_with (first | (refine wpList_load_mid rfl 43 (.tmp 9) ?ho b9 0 ?hx zeroP _ ?hr Try.underlying43 rfl ?hi ?_; (case ho => with_reducible rfl); (case hx => rfl); (case hr => exact R9.out); (case hi => rw [HZL.out]; exact HSZ.out); (try simp only [Act.put, List.setIfInBounds_toArray, List.set_cons_zero, List.set_cons_succ])) | (refine wpList_store_row rfl 43 (.tmp 6) (.tmp 44) ?ho b6 zeroP.toArray ?hx ?hy 43 zeroP.toArray X6.out ?hi ?hc ?h1 ?_; (case ho => with_reducible rfl); (case hx => kernel_rfl); (case hy => kernel_rfl); (case hi => rw [List.size_toArray, HZL.out]; exact HSZ.out); (case hc => simp only [List.size_toArray, HZL.out, HZL.out]); (case h1 => exact all_oneCell_toArray HZ1.out)))
          have t := Turned.setRow X6.out zeroP.toArray
          (try simp only [Exit.inBlock, Exit.then])
          refine bodyPost_ret (results_row_tmp2 Try.results17 _ _ b6 43 _ (0, 0) _ rfl (t.get (lt_of_blk X6.out)) Try.underlying43 rfl size43z) rfl ?_
          have HSD : Hid ((R.map Dg.abs)[k]? = some d.abs) := Lib.hid (by rw [List.getElem?_map, HD.out]; rfl)
          exact ⟨rv, _, none, true, zeroP, ((RefMem.below HP.out HAB2.out.old).trans HM4.out).step (t.same X6.out _), .inr (.inl ⟨HIS.out.symm, HM1.out.symm, .inr ⟨k, d.abs, HR.out.abs, HSD.out, by rw [set_abs]; rfl⟩, rfl, rfl⟩), rfl, fun _ => rfl, fun y hy => by cases hy⟩
    case rest =>
      obtain ⟨hmay, hab3⟩ := hcut
      have HMAY := Lib.hid hmay; have HAB3 := Lib.hid hab3
      have hp3 := HP.out.below hab3.old
      obtain ⟨A1, c1, hrv, hg1⟩ := hp3.gets
      have d0 : wc.cell? ⟨mb, 0, none⟩ = some (.slice A1 R.length c1) := by rw [cell_blk hp3.blk, hrv]; rfl
      have h4 := hp3.four
      have HRV := Lib.hid hrv
      have HG1 := Lib.hid hg1
      obtain ⟨n, hn⟩ : ∃ n, n = R.length := ⟨_, rfl⟩
      rw [← hn] at d0 h4
      have HNN := Lib.hid hn
      have HAE : Hid (∀ k d, R[k]? = some d → RgAt wc d) := Lib.hid fun k d hd => hp3.each d (List.mem_of_getElem? hd)
      clear hmay hab3 hp3 hrv hg1 hn
      obtain ⟨stp, hstp⟩ : ∃ b : Bool, b = stopB R n r := ⟨_, rfl⟩
      have HSTP := Lib.hid hstp
      clear hstp
      go_upto_region 10 with (fail)
      go_cut [68] (fun v wx => v = .bool stp ∧ wc = wx)
      case first =>
        cases r with
        | none =>
          obtain rfl : zi = -1 := HZI.out
          by_cases hn4 : n = 4
          · subst hn4
            have HS2 : Hid (stp = true) := Lib.hid HSTP.out
            go_wp2_with fail
            go_meet
            exact ⟨by rw [HS2.out], rfl⟩
          · have hn5 : ¬ (n : Int) ≥ 4 := by omega
            have HS2 : Hid (stp = false) := Lib.hid (by rw [HSTP.out]; exact decide_eq_false hn4)
            clear hn4
            go_wp2_with fail
            go_meet
            exact ⟨by rw [HS2.out], rfl⟩
        | some k =>
          obtain rfl : zi = (k : Int) := HZI.out
          obtain ⟨d, hd, -, -⟩ := id HR.out
          obtain ⟨g, rfl, hrb, hgl, hcells⟩ := HG1.out (by rintro rfl; simp at hd)
          have hda := HAE.out k d hd
          have k34 := hcells k d hd 34 _ (hda.tail 1)
          have hkl : k < n := by rw [HNN.out]; exact (List.getElem?_eq_some_iff.1 hd).1
          obtain ⟨bd, hbd⟩ : ∃ b, b = d.bad := ⟨_, rfl⟩
          rw [← hbd] at k34
          have HS2 : Hid (stp = bd) := Lib.hid (by rw [HSTP.out, hbd, stopB_some hd])
          clear hd hda hcells hbd hrb
          go_wp2_with fail
          go_meet
          exact ⟨by rw [HS2.out], rfl⟩
      case rest =>
        obtain ⟨rfl, rfl⟩ := hcut
        cases stp with
        | true =>
          have R9 := Lib.hid (row_of HAB3.out.x9)
          go_wp2_with (first | (refine wpList_load_mid rfl 43 (.tmp 9) ?ho b9 0 ?hx zeroP _ ?hr Try.underlying43 rfl ?hi ?_; (case ho => with_reducible rfl); (case hx => rfl); (case hr => exact R9.out); (case hi => rw [HZL.out]; exact HSZ.out); (try simp only [Act.put, List.setIfInBounds_toArray, List.set_cons_zero, List.set_cons_succ])) | (refine wpList_store_row rfl 43 (.tmp 6) (.tmp 69) ?ho b6 zeroP.toArray ?hx ?hy 43 zeroP.toArray HAB3.out.x6 ?hi ?hc ?h1 ?_; (case ho => with_reducible rfl); (case hx => kernel_rfl); (case hy => kernel_rfl); (case hi => rw [List.size_toArray, HZL.out]; exact HSZ.out); (case hc => simp only [List.size_toArray, HZL.out, HZL.out]); (case h1 => exact all_oneCell_toArray HZ1.out)))
          have t := Turned.setRow HAB3.out.x6 zeroP.toArray
          (try simp only [Exit.inBlock, Exit.then])
          refine bodyPost_ret (results_row_tmp2 Try.results17 _ _ b6 43 _ (0, 0) _ rfl (t.get (lt_of_blk HAB3.out.x6)) Try.underlying43 rfl size43z) rfl ?_
          refine ⟨rv, R, none, true, zeroP, RefMem.below HP.out (HAB3.out.step (t.same HAB3.out.x6 _)).old, ?_, rfl, fun _ => rfl, fun y hy => by cases hy⟩
          cases r with
          | none =>
            have hn4 : n = 4 := of_decide_eq_true HSTP.out.symm
            exact .inr (.inr (.inr (.inl ⟨HIS.out.symm, HMAY.out, HR.out.abs, by rw [List.length_map, ← HNN.out, hn4], rfl, rfl, rfl⟩)))
          | some k =>
            obtain ⟨d, hd, -, -⟩ := id HR.out
            have hb : d.bad = true := by rw [← stopB_some (n := n) hd, ← HSTP.out]
            exact .inr (.inr (.inl ⟨HIS.out.symm, HMAY.out, ⟨k, d.abs, HR.out.abs, by rw [List.getElem?_map, hd]; rfl, hb⟩, rfl, rfl, rfl⟩))
        | false =>
          go_upto_if 71 with (fail)
          go_cut [10] (fun v wx => ∃ rv1 R1 k d, v = .int .i64 (k : Nat) ∧ RMid now x mb rv R w P b5 b6 b9 wx rv1 R1 k d)
          case first =>
            cases r with
            | some k =>
              obtain rfl : zi = (k : Int) := HZI.out
              obtain ⟨d, hd, -, -⟩ := id HR.out
              have HRM : Hid (RMid now x mb rv R w P b5 b6 b9 wc rv R k d) := Lib.hid ⟨RefMem.below HP.out HAB3.out.old, HAB3.out.x5, HAB3.out.x6, HAB3.out.x9, hd, by rw [← stopB_some (n := n) hd, ← HSTP.out], fun i hi => .inl (HP.out.lt hi), HLOW.out, HMAY.out, .inl ⟨HR.out.abs, rfl⟩⟩
              clear hd
              go_wp2_with fail
              go_meet
              exact ⟨_, _, _, _, rfl, HRM.out⟩
            | none =>
              obtain rfl : zi = -1 := HZI.out
              have HN4 : Hid (n ≠ 4) := Lib.hid fun h => by
                have := HSTP.out
                rw [h] at this
                cases this
              go_upto_region 14 with (fail)
              have hop := HX.out.ok
              obtain ⟨W6, hW6⟩ : ∃ W, W = wc.drew := ⟨_, rfl⟩
              have h56 : RowKit.Below wc.heap.size wc W6 := by rw [hW6]; exact (Below.refl _ _).drew
              have HAB6 := Lib.hid (HAB3.out.step h56)
              have g6 : W6.cell? ⟨mb, 0, none⟩ = some (.slice A1 n c1) := (h56.cell (p := ⟨mb, 0, none⟩) (lt_of_cell d0)).trans d0
              obtain ⟨ov, hov⟩ : ∃ o, o = addU now 60000 := ⟨_, rfl⟩
              have HOV := Lib.hid hov
              have HADD : Hid (∀ W, Calls Try.prog 46 #[.int .u64 (now : Int), .int .u64 (60000 : Int)] W fun e w' => e = .returned (.int .u64 (ov : Int)) ∧ W = w') := Lib.hid (fun W => by rw [hov]; exact add46 W (a := now) (b := 60000) HNOW.out (by omega))
              obtain ⟨FC, hFC⟩ : ∃ F, F = freshC x ov := ⟨_, rfl⟩
              have HFCE := Lib.hid hFC
              have HFCL : Hid (FC.length = 36) := Lib.hid (by rw [hFC]; exact freshC_len hop)
              have HFC1 : Hid (∀ v ∈ FC, v.oneCell' = true) := Lib.hid (by rw [hFC]; exact freshC_one hop)
              have HFILL : Hid (Instr.fill (fun i => some (i * 36, 36)) ((Array.range (1 * 36)).map ((Value.agg zeroD.toArray).cells[· % (Value.agg zeroD.toArray).cells.size]!)) [(0, .agg FC.toArray)] = some FC.toArray) := Lib.hid (by rw [hFC]; exact fill81 hop.src hop.dst)
              have HBU := Lib.hid (built81 (i := x.id) (o := ov) hop.src hop.dst)
              obtain ⟨xi, hxi⟩ : ∃ n, n = x.id := ⟨_, rfl⟩
              have HT35 : Hid (P[35]? = some (.int .u32 (xi : Int))) := Lib.hid (by rw [hxi]; exact HX.out.tail 3)
              have HFCN : Hid (nmL x.src x.dst x.id ++ [Value.int .u64 (ov : Int), Value.bool false, Value.slice none 0 0] = FC) := Lib.hid (by rw [hFC]; rfl)
              rw [HFCN.out, ← hxi] at HBU
              have HSL : Hid ((row8 x.src).length = 16) := Lib.hid (by rw [row8_length, hop.src])
              have HDL : Hid ((row8 x.dst).length = 16) := Lib.hid (by rw [row8_length, hop.dst])
              have HRS : Hid (∀ W : World, W.heap[b5]? = some (.cells P.toArray 43 (0, 0)) → W.rangeAt b5 0 (row8 x.src) ∧ W.rangeAt b5 16 (row8 x.dst)) := Lib.hid fun W hW => HX.out.rs (row_of hW)
              obtain ⟨X1, hX1⟩ : ∃ S, S = row8 x.src := ⟨_, rfl⟩
              obtain ⟨X2, hX2⟩ : ∃ S, S = row8 x.dst := ⟨_, rfl⟩
              rw [← hX1] at HBU HSL HRS
              rw [← hX2] at HBU HDL HRS
              have h67 : RowKit.Below W6.heap.size W6 (W6.alloc (.cells FC.toArray 81)) := (Below.refl _ _).alloc (Nat.le_refl _) _
              have g7 : (W6.alloc (.cells FC.toArray 81)).cell? ⟨mb, 0, none⟩ = some (.slice A1 n c1) := (h67.cell (p := ⟨mb, 0, none⟩) (lt_of_cell g6)).trans g6
              have HS7 : Hid ((W6.alloc (.cells FC.toArray 81)).heap[b5]? = some (.cells P.toArray 43 (0, 0))) := Lib.hid ((h67.block b5 (lt_of_blk HAB6.out.x5)).trans HAB6.out.x5)
              have HROW : Hid ((W6.alloc (.cells FC.toArray 81)).ownsRow 0 81 36 (.slice A1 n c1) n (R.flatMap Dg.cells)) := Lib.hid (by
                have := (HP.out.below (HAB6.out.step h67).old).row
                rw [HRV.out, ← HNN.out] at this
                exact this)
              have HNR : Hid (Value.ownBlock (.slice A1 n c1) = rv.ownBlock) := Lib.hid (by rw [HRV.out, HNN.out])
              have HC2 : Hid (∀ j u, FC[j]? = some u → (W6.alloc (.cells FC.toArray 81)).cell? ((⟨W6.heap.size, 0, none⟩ : Addr).add j) = some u) := Lib.hid (by
                intro j u hj
                rw [Addr.add_mid, Nat.zero_add]
                have c := cell_blk (heap_alloc_new W6 (.cells FC.toArray 81)) j
                exact c.trans (by simpa using hj))
              have HN4R : Hid (R.length ≠ 4) := Lib.hid (by rw [← HNN.out]; exact HN4.out)
              have H36 := Lib.hid size36
              obtain ⟨i81, hi, hz0, hz1, hz2⟩ := info_parts info81
              have hS : W6.heap[b5]? = some (.cells P.toArray 43 (0, 0)) := HAB6.out.x5
              rw [hW6] at hS
              clear h67 h56 hop hov hFC hxi hX1 hX2 d0
              refine wp_region_held_drew (S := fun W => W.heap[b5]? = some (.cells P.toArray 43 (0, 0))) (by kernel_rfl) hS ?_
              rw [← hW6]
              clear hS hW6
              intro HS
              refine wpAnyH_take (i := 0) (v := ?_) rfl (by kernel_rfl) (by kernel_rfl) (by kernel_rfl) (fun _ _ _ h => h) (Or.inl ⟨by go_simp, ?hy⟩) HS ?_
              case hy => intro W hW; go_simp; (try with_reducible rfl)
              try simp only [List.getElem_toArray, List.getElem_cons_zero, List.getElem_cons_succ, Act.put, List.setIfInBounds_toArray, List.set_cons_zero, List.set_cons_succ]
              refine wpAnyH_take (i := 1) (v := ?_) rfl (by kernel_rfl) (by kernel_rfl) (by kernel_rfl) (fun _ _ _ h => h) (Or.inl ⟨by go_simp, ?hy⟩) HS ?_
              case hy => intro W hW; go_simp; (try with_reducible rfl)
              try simp only [List.getElem_toArray, List.getElem_cons_zero, List.getElem_cons_succ, Act.put, List.setIfInBounds_toArray, List.set_cons_zero, List.set_cons_succ]
              refine wpAnyH_take (i := 2) (v := ?_) rfl (by kernel_rfl) (by kernel_rfl) (by kernel_rfl) (fun _ _ _ h => h) (Or.inl ⟨by go_simp, ?hy⟩) HS ?_
              case hy => intro W hW; go_simp; (try with_reducible rfl)
              try simp only [List.getElem_toArray, List.getElem_cons_zero, List.getElem_cons_succ, Act.put, List.setIfInBounds_toArray, List.set_cons_zero, List.set_cons_succ]
              refine wpAnyH_take (i := 3) (v := ?_) rfl (by kernel_rfl) (by kernel_rfl) (by kernel_rfl) (fun _ _ _ h => h) (Or.inl ⟨by go_simp, ?hy⟩) HS ?_
              case hy => intro W hW; go_simp; (try with_reducible rfl)
              try simp only [List.getElem_toArray, List.getElem_cons_zero, List.getElem_cons_succ, Act.put, List.setIfInBounds_toArray, List.set_cons_zero, List.set_cons_succ]
              refine wpAnyH_take (i := 5) (v := ?_) rfl (by kernel_rfl) (by kernel_rfl) (by kernel_rfl) (fun _ _ _ h => h) (Or.inl ⟨by go_simp, ?hy⟩) HS ?_
              case hy => intro W hW; go_simp; (try with_reducible rfl)
              try simp only [List.getElem_toArray, List.getElem_cons_zero, List.getElem_cons_succ, Act.put, List.setIfInBounds_toArray, List.set_cons_zero, List.set_cons_succ]
              refine wpAnyH_take (i := 6) (v := .agg X1.toArray) rfl (by kernel_rfl) (by kernel_rfl) (by kernel_rfl) (fun _ _ _ h => h) (by refine yieldsIf_load_mid ?hw 36 (.tmp 82) ?ho b5 0 ?hx X1 _ (fun W hW => (HRS.out W hW).1) Try.underlying36 rfl (by rw [HSL.out]; exact H36.out); (case ho => rfl); (case hw => go_simp); (case hx => go_simp)) HS ?_
              try simp only [List.getElem_toArray, List.getElem_cons_zero, List.getElem_cons_succ, Act.put, List.setIfInBounds_toArray, List.set_cons_zero, List.set_cons_succ]
              refine wpAnyH_take (i := 7) (v := ?_) rfl (by kernel_rfl) (by kernel_rfl) (by kernel_rfl) (fun _ _ _ h => h) (Or.inl ⟨by go_simp, ?hy⟩) HS ?_
              case hy => intro W hW; go_simp; (try with_reducible rfl)
              try simp only [List.getElem_toArray, List.getElem_cons_zero, List.getElem_cons_succ, Act.put, List.setIfInBounds_toArray, List.set_cons_zero, List.set_cons_succ]
              refine wpAnyH_take (i := 8) (v := .agg X2.toArray) rfl (by kernel_rfl) (by kernel_rfl) (by kernel_rfl) (fun _ _ _ h => h) (by refine yieldsIf_load_mid ?hw 36 (.tmp 84) ?ho b5 16 ?hx X2 _ (fun W hW => (HRS.out W hW).2) Try.underlying36 rfl (by rw [HDL.out]; exact H36.out); (case ho => rfl); (case hw => go_simp); (case hx => go_simp)) HS ?_
              try simp only [List.getElem_toArray, List.getElem_cons_zero, List.getElem_cons_succ, Act.put, List.setIfInBounds_toArray, List.set_cons_zero, List.set_cons_succ]
              refine wpAnyH_take (i := 9) (v := ?_) rfl (by kernel_rfl) (by kernel_rfl) (by kernel_rfl) (fun _ _ _ h => h) (Or.inl ⟨by go_simp, ?hy⟩) HS ?_
              case hy => intro W hW; go_simp; (try with_reducible rfl)
              try simp only [List.getElem_toArray, List.getElem_cons_zero, List.getElem_cons_succ, Act.put, List.setIfInBounds_toArray, List.set_cons_zero, List.set_cons_succ]
              refine wpAnyH_take (i := 10) (v := ?_) rfl (by kernel_rfl) (by kernel_rfl) (by kernel_rfl) (fun _ _ _ h => h) (Or.inl ⟨by go_simp, ?hy⟩) HS ?_
              case hy => intro W hW; go_simp; (try with_reducible rfl)
              try simp only [List.getElem_toArray, List.getElem_cons_zero, List.getElem_cons_succ, Act.put, List.setIfInBounds_toArray, List.set_cons_zero, List.set_cons_succ]
              refine wpAnyH_take (i := 11) (v := ?_) rfl (by kernel_rfl) (by kernel_rfl) (by kernel_rfl) (fun _ _ _ h => h) (Or.inl ⟨by go_simp, ?hy⟩) HS ?_
              case hy => intro W hW; have d := box_cell hW HT35.out; go_simp; (try with_reducible rfl)
              try simp only [List.getElem_toArray, List.getElem_cons_zero, List.getElem_cons_succ, Act.put, List.setIfInBounds_toArray, List.set_cons_zero, List.set_cons_succ]
              refine wpAnyH_take (i := 12) (v := ?_) rfl (by kernel_rfl) (by kernel_rfl) (by kernel_rfl) (fun _ _ _ h => h) (Or.inl ⟨by go_simp, ?hy⟩) HS ?_
              case hy => intro W hW; go_simp; (try with_reducible rfl)
              try simp only [List.getElem_toArray, List.getElem_cons_zero, List.getElem_cons_succ, Act.put, List.setIfInBounds_toArray, List.set_cons_zero, List.set_cons_succ]
              refine wpAnyH_ready (rs := [4, 13]) (by kernel_rfl) (by simp) ?_
              refine AllReadyH.cons rfl (fun K hK => ?_) (AllReadyH.cons rfl (fun K hK => ?_) AllReadyH.nil)
              · skip
                rw [if_pos (by kernel_rfl)]
                simp only [List.getElem_toArray, List.getElem_cons_zero, List.getElem_cons_succ]
                go_simp
                refine hK.out _ _ (HS) (fun HS => ?_)
                clear hK
                try simp only [List.getElem_toArray, List.getElem_cons_zero, List.getElem_cons_succ, Act.put, List.setIfInBounds_toArray, List.set_cons_zero, List.set_cons_succ]
                refine wpAnyH_ready (rs := [13]) (by kernel_rfl) (by simp) ?_
                refine AllReadyH.cons rfl (fun K hK => ?_) AllReadyH.nil
                rw [if_pos (by kernel_rfl)]
                simp only [List.getElem_toArray, List.getElem_cons_zero, List.getElem_cons_succ]
                go_simp
                refine (HADD.out _).mono ?_
                rintro e w7 ⟨rfl, rfl⟩
                go_simp
                refine hK.out _ _ (HS) (fun HS => ?_)
                clear hK
                try simp only [List.getElem_toArray, List.getElem_cons_zero, List.getElem_cons_succ, Act.put, List.setIfInBounds_toArray, List.set_cons_zero, List.set_cons_succ]
                refine wpAnyH_ready (rs := [14]) (by kernel_rfl) (by simp) ?_
                refine AllReadyH.cons rfl (fun K hK => ?_) AllReadyH.nil
                rw [if_pos (by kernel_rfl)]
                simp only [List.getElem_toArray, List.getElem_cons_zero, List.getElem_cons_succ]
                refine wp_build4 81 0 1 2 3 (.tmp 83) (.tmp 85) (.tmp 88) (.tmp 90) rfl (.agg X1.toArray) (.agg X2.toArray) (.int .u32 (xi : Int)) (.int .u64 (ov : Int)) rfl rfl rfl rfl FC.toArray HBU.out ?_
                refine hK.out _ _ (HS) (fun HS => ?_)
                clear hK
                try simp only [List.getElem_toArray, List.getElem_cons_zero, List.getElem_cons_succ, Act.put, List.setIfInBounds_toArray, List.set_cons_zero, List.set_cons_succ]
                refine wpAnyH_ready (rs := [15]) (by kernel_rfl) (by simp) ?_
                refine AllReadyH.cons rfl (fun K hK => ?_) AllReadyH.nil
                rw [if_pos (by kernel_rfl)]
                simp only [List.getElem_toArray, List.getElem_cons_zero, List.getElem_cons_succ]
                refine wp_bs1r 28 81 1 0 (.tmp 91) rfl (.agg FC.toArray) rfl FC.toArray i81 _ Try.underlying28 hi hz0 (by rw [hz1]; decide) (by rw [hz1]; decide) (by rw [hz1]; exact HFILL.out) ?_
                refine hK.out _ _ (HS7.out) (fun HS => ?_)
                clear hK
                try simp only [List.getElem_toArray, List.getElem_cons_zero, List.getElem_cons_succ, Act.put, List.setIfInBounds_toArray, List.set_cons_zero, List.set_cons_succ]
                refine wpAnyH_ready (rs := [16]) (by kernel_rfl) (by simp) ?_
                refine AllReadyH.cons rfl (fun K hK => ?_) AllReadyH.nil
                rw [if_pos (by kernel_rfl)]
                simp only [List.getElem_toArray, List.getElem_cons_zero, List.getElem_cons_succ]
                refine wp_append_own2 _ _ _ 28 rfl 0 81 i81 _ 36 80 Try.underlying28 hi hz0 hz1 hz2 (by kernel_rfl) (by decide) (.slice A1 n c1) n (R.flatMap Dg.cells) rfl HROW.out ⟨W6.heap.size, 0, none⟩ 1 1 FC (by decide) rfl (by rw [HFCL.out]) HC2.out HFC1.out (by unfold maxLen; omega) (by omega) (Nat.zero_le _) ?_
                intro v' w8 ho hg hwh
                obtain ⟨hb8, hx58, hmid⟩ := rmid_fresh (now := now) HP.out HX.out.ok HAB6.out HLOW.out HOV.out HNOW.out HN4R.out HR.out.abs HMAY.out (by rw [← HNN.out, ← HFCE.out]; exact ho) (by rw [← HNR.out, ← HFCE.out]; exact hg) (by rw [← HNR.out, ← HFCE.out]; exact hwh)
                obtain ⟨q2, c2, hv2, -⟩ := own_slice2 ho
                rw [hv2] at hmid ⊢
                have k8 : w8.cell? ⟨mb, 0, none⟩ = some (.slice A1 n c1) := by rw [cell_blk hb8, HRV.out, HNN.out]; rfl
                have f8 := frozen_blk hb8 0
                have HMID := Lib.hid hmid
                have HX58 := Lib.hid hx58
                clear ho hg hwh hv2 hmid hb8 hx58
                refine hK.out _ _ HX58.out (fun HS => ?_)
                clear hK
                try simp only [List.getElem_toArray, List.getElem_cons_zero, List.getElem_cons_succ, Act.put, List.setIfInBounds_toArray, List.set_cons_zero, List.set_cons_succ]
                refine wpAnyH_take (i := 17) (v := ?_) rfl (by kernel_rfl) (by kernel_rfl) (by kernel_rfl) (fun _ _ _ h => h) (Or.inl ⟨by go_simp, ?hy⟩) HS ?_
                case hy => intro W hW; go_simp; (try with_reducible rfl)
                try simp only [List.getElem_toArray, List.getElem_cons_zero, List.getElem_cons_succ, Act.put, List.setIfInBounds_toArray, List.set_cons_zero, List.set_cons_succ]
                refine wpAnyH_take (i := 18) (v := ?_) rfl (by kernel_rfl) (by kernel_rfl) (by kernel_rfl) (fun _ _ _ h => h) (Or.inl ⟨by go_simp, ?hy⟩) HS ?_
                case hy => intro W hW; go_simp; (try with_reducible rfl)
                try simp only [List.getElem_toArray, List.getElem_cons_zero, List.getElem_cons_succ, Act.put, List.setIfInBounds_toArray, List.set_cons_zero, List.set_cons_succ]
                refine wpAnyH_ready (rs := [19]) (by kernel_rfl) (by simp) ?_
                refine AllReadyH.cons rfl (fun K hK => ?_) AllReadyH.nil
                rw [if_pos (by kernel_rfl)]
                simp only [List.getElem_toArray, List.getElem_cons_zero, List.getElem_cons_succ]
                go_simp
                refine hK.out _ _ HMID.out.x5 (fun HS => ?_)
                clear hK
                try simp only [List.getElem_toArray, List.getElem_cons_zero, List.getElem_cons_succ, Act.put, List.setIfInBounds_toArray, List.set_cons_zero, List.set_cons_succ]
                refine wpAnyH_done (by kernel_rfl) ?_ _
                go_wp2_with fail
                go_meet
                exact ⟨_, _, _, _, by rw [HNN.out], HMID.out⟩
              · skip
                rw [if_pos (by kernel_rfl)]
                simp only [List.getElem_toArray, List.getElem_cons_zero, List.getElem_cons_succ]
                go_simp
                refine (HADD.out _).mono ?_
                rintro e w7 ⟨rfl, rfl⟩
                go_simp
                refine hK.out _ _ (HS) (fun HS => ?_)
                clear hK
                try simp only [List.getElem_toArray, List.getElem_cons_zero, List.getElem_cons_succ, Act.put, List.setIfInBounds_toArray, List.set_cons_zero, List.set_cons_succ]
                refine wpAnyH_ready (rs := [4, 14]) (by kernel_rfl) (by simp) ?_
                refine AllReadyH.cons rfl (fun K hK => ?_) (AllReadyH.cons rfl (fun K hK => ?_) AllReadyH.nil)
                · skip
                  rw [if_pos (by kernel_rfl)]
                  simp only [List.getElem_toArray, List.getElem_cons_zero, List.getElem_cons_succ]
                  go_simp
                  refine hK.out _ _ (HS) (fun HS => ?_)
                  clear hK
                  try simp only [List.getElem_toArray, List.getElem_cons_zero, List.getElem_cons_succ, Act.put, List.setIfInBounds_toArray, List.set_cons_zero, List.set_cons_succ]
                  refine wpAnyH_ready (rs := [14]) (by kernel_rfl) (by simp) ?_
                  refine AllReadyH.cons rfl (fun K hK => ?_) AllReadyH.nil
                  rw [if_pos (by kernel_rfl)]
                  simp only [List.getElem_toArray, List.getElem_cons_zero, List.getElem_cons_succ]
                  refine wp_build4 81 0 1 2 3 (.tmp 83) (.tmp 85) (.tmp 88) (.tmp 90) rfl (.agg X1.toArray) (.agg X2.toArray) (.int .u32 (xi : Int)) (.int .u64 (ov : Int)) rfl rfl rfl rfl FC.toArray HBU.out ?_
                  refine hK.out _ _ (HS) (fun HS => ?_)
                  clear hK
                  try simp only [List.getElem_toArray, List.getElem_cons_zero, List.getElem_cons_succ, Act.put, List.setIfInBounds_toArray, List.set_cons_zero, List.set_cons_succ]
                  refine wpAnyH_ready (rs := [15]) (by kernel_rfl) (by simp) ?_
                  refine AllReadyH.cons rfl (fun K hK => ?_) AllReadyH.nil
                  rw [if_pos (by kernel_rfl)]
                  simp only [List.getElem_toArray, List.getElem_cons_zero, List.getElem_cons_succ]
                  refine wp_bs1r 28 81 1 0 (.tmp 91) rfl (.agg FC.toArray) rfl FC.toArray i81 _ Try.underlying28 hi hz0 (by rw [hz1]; decide) (by rw [hz1]; decide) (by rw [hz1]; exact HFILL.out) ?_
                  refine hK.out _ _ (HS7.out) (fun HS => ?_)
                  clear hK
                  try simp only [List.getElem_toArray, List.getElem_cons_zero, List.getElem_cons_succ, Act.put, List.setIfInBounds_toArray, List.set_cons_zero, List.set_cons_succ]
                  refine wpAnyH_ready (rs := [16]) (by kernel_rfl) (by simp) ?_
                  refine AllReadyH.cons rfl (fun K hK => ?_) AllReadyH.nil
                  rw [if_pos (by kernel_rfl)]
                  simp only [List.getElem_toArray, List.getElem_cons_zero, List.getElem_cons_succ]
                  refine wp_append_own2 _ _ _ 28 rfl 0 81 i81 _ 36 80 Try.underlying28 hi hz0 hz1 hz2 (by kernel_rfl) (by decide) (.slice A1 n c1) n (R.flatMap Dg.cells) rfl HROW.out ⟨W6.heap.size, 0, none⟩ 1 1 FC (by decide) rfl (by rw [HFCL.out]) HC2.out HFC1.out (by unfold maxLen; omega) (by omega) (Nat.zero_le _) ?_
                  intro v' w8 ho hg hwh
                  obtain ⟨hb8, hx58, hmid⟩ := rmid_fresh (now := now) HP.out HX.out.ok HAB6.out HLOW.out HOV.out HNOW.out HN4R.out HR.out.abs HMAY.out (by rw [← HNN.out, ← HFCE.out]; exact ho) (by rw [← HNR.out, ← HFCE.out]; exact hg) (by rw [← HNR.out, ← HFCE.out]; exact hwh)
                  obtain ⟨q2, c2, hv2, -⟩ := own_slice2 ho
                  rw [hv2] at hmid ⊢
                  have k8 : w8.cell? ⟨mb, 0, none⟩ = some (.slice A1 n c1) := by rw [cell_blk hb8, HRV.out, HNN.out]; rfl
                  have f8 := frozen_blk hb8 0
                  have HMID := Lib.hid hmid
                  have HX58 := Lib.hid hx58
                  clear ho hg hwh hv2 hmid hb8 hx58
                  refine hK.out _ _ HX58.out (fun HS => ?_)
                  clear hK
                  try simp only [List.getElem_toArray, List.getElem_cons_zero, List.getElem_cons_succ, Act.put, List.setIfInBounds_toArray, List.set_cons_zero, List.set_cons_succ]
                  refine wpAnyH_take (i := 17) (v := ?_) rfl (by kernel_rfl) (by kernel_rfl) (by kernel_rfl) (fun _ _ _ h => h) (Or.inl ⟨by go_simp, ?hy⟩) HS ?_
                  case hy => intro W hW; go_simp; (try with_reducible rfl)
                  try simp only [List.getElem_toArray, List.getElem_cons_zero, List.getElem_cons_succ, Act.put, List.setIfInBounds_toArray, List.set_cons_zero, List.set_cons_succ]
                  refine wpAnyH_take (i := 18) (v := ?_) rfl (by kernel_rfl) (by kernel_rfl) (by kernel_rfl) (fun _ _ _ h => h) (Or.inl ⟨by go_simp, ?hy⟩) HS ?_
                  case hy => intro W hW; go_simp; (try with_reducible rfl)
                  try simp only [List.getElem_toArray, List.getElem_cons_zero, List.getElem_cons_succ, Act.put, List.setIfInBounds_toArray, List.set_cons_zero, List.set_cons_succ]
                  refine wpAnyH_ready (rs := [19]) (by kernel_rfl) (by simp) ?_
                  refine AllReadyH.cons rfl (fun K hK => ?_) AllReadyH.nil
                  rw [if_pos (by kernel_rfl)]
                  simp only [List.getElem_toArray, List.getElem_cons_zero, List.getElem_cons_succ]
                  go_simp
                  refine hK.out _ _ HMID.out.x5 (fun HS => ?_)
                  clear hK
                  try simp only [List.getElem_toArray, List.getElem_cons_zero, List.getElem_cons_succ, Act.put, List.setIfInBounds_toArray, List.set_cons_zero, List.set_cons_succ]
                  refine wpAnyH_done (by kernel_rfl) ?_ _
                  go_wp2_with fail
                  go_meet
                  exact ⟨_, _, _, _, by rw [HNN.out], HMID.out⟩
                · skip
                  rw [if_pos (by kernel_rfl)]
                  simp only [List.getElem_toArray, List.getElem_cons_zero, List.getElem_cons_succ]
                  refine wp_build4 81 0 1 2 3 (.tmp 83) (.tmp 85) (.tmp 88) (.tmp 90) rfl (.agg X1.toArray) (.agg X2.toArray) (.int .u32 (xi : Int)) (.int .u64 (ov : Int)) rfl rfl rfl rfl FC.toArray HBU.out ?_
                  refine hK.out _ _ (HS) (fun HS => ?_)
                  clear hK
                  try simp only [List.getElem_toArray, List.getElem_cons_zero, List.getElem_cons_succ, Act.put, List.setIfInBounds_toArray, List.set_cons_zero, List.set_cons_succ]
                  refine wpAnyH_ready (rs := [4, 15]) (by kernel_rfl) (by simp) ?_
                  refine AllReadyH.cons rfl (fun K hK => ?_) (AllReadyH.cons rfl (fun K hK => ?_) AllReadyH.nil)
                  · skip
                    rw [if_pos (by kernel_rfl)]
                    simp only [List.getElem_toArray, List.getElem_cons_zero, List.getElem_cons_succ]
                    go_simp
                    refine hK.out _ _ (HS) (fun HS => ?_)
                    clear hK
                    try simp only [List.getElem_toArray, List.getElem_cons_zero, List.getElem_cons_succ, Act.put, List.setIfInBounds_toArray, List.set_cons_zero, List.set_cons_succ]
                    refine wpAnyH_ready (rs := [15]) (by kernel_rfl) (by simp) ?_
                    refine AllReadyH.cons rfl (fun K hK => ?_) AllReadyH.nil
                    rw [if_pos (by kernel_rfl)]
                    simp only [List.getElem_toArray, List.getElem_cons_zero, List.getElem_cons_succ]
                    refine wp_bs1r 28 81 1 0 (.tmp 91) rfl (.agg FC.toArray) rfl FC.toArray i81 _ Try.underlying28 hi hz0 (by rw [hz1]; decide) (by rw [hz1]; decide) (by rw [hz1]; exact HFILL.out) ?_
                    refine hK.out _ _ (HS7.out) (fun HS => ?_)
                    clear hK
                    try simp only [List.getElem_toArray, List.getElem_cons_zero, List.getElem_cons_succ, Act.put, List.setIfInBounds_toArray, List.set_cons_zero, List.set_cons_succ]
                    refine wpAnyH_ready (rs := [16]) (by kernel_rfl) (by simp) ?_
                    refine AllReadyH.cons rfl (fun K hK => ?_) AllReadyH.nil
                    rw [if_pos (by kernel_rfl)]
                    simp only [List.getElem_toArray, List.getElem_cons_zero, List.getElem_cons_succ]
                    refine wp_append_own2 _ _ _ 28 rfl 0 81 i81 _ 36 80 Try.underlying28 hi hz0 hz1 hz2 (by kernel_rfl) (by decide) (.slice A1 n c1) n (R.flatMap Dg.cells) rfl HROW.out ⟨W6.heap.size, 0, none⟩ 1 1 FC (by decide) rfl (by rw [HFCL.out]) HC2.out HFC1.out (by unfold maxLen; omega) (by omega) (Nat.zero_le _) ?_
                    intro v' w8 ho hg hwh
                    obtain ⟨hb8, hx58, hmid⟩ := rmid_fresh (now := now) HP.out HX.out.ok HAB6.out HLOW.out HOV.out HNOW.out HN4R.out HR.out.abs HMAY.out (by rw [← HNN.out, ← HFCE.out]; exact ho) (by rw [← HNR.out, ← HFCE.out]; exact hg) (by rw [← HNR.out, ← HFCE.out]; exact hwh)
                    obtain ⟨q2, c2, hv2, -⟩ := own_slice2 ho
                    rw [hv2] at hmid ⊢
                    have k8 : w8.cell? ⟨mb, 0, none⟩ = some (.slice A1 n c1) := by rw [cell_blk hb8, HRV.out, HNN.out]; rfl
                    have f8 := frozen_blk hb8 0
                    have HMID := Lib.hid hmid
                    have HX58 := Lib.hid hx58
                    clear ho hg hwh hv2 hmid hb8 hx58
                    refine hK.out _ _ HX58.out (fun HS => ?_)
                    clear hK
                    try simp only [List.getElem_toArray, List.getElem_cons_zero, List.getElem_cons_succ, Act.put, List.setIfInBounds_toArray, List.set_cons_zero, List.set_cons_succ]
                    refine wpAnyH_take (i := 17) (v := ?_) rfl (by kernel_rfl) (by kernel_rfl) (by kernel_rfl) (fun _ _ _ h => h) (Or.inl ⟨by go_simp, ?hy⟩) HS ?_
                    case hy => intro W hW; go_simp; (try with_reducible rfl)
                    try simp only [List.getElem_toArray, List.getElem_cons_zero, List.getElem_cons_succ, Act.put, List.setIfInBounds_toArray, List.set_cons_zero, List.set_cons_succ]
                    refine wpAnyH_take (i := 18) (v := ?_) rfl (by kernel_rfl) (by kernel_rfl) (by kernel_rfl) (fun _ _ _ h => h) (Or.inl ⟨by go_simp, ?hy⟩) HS ?_
                    case hy => intro W hW; go_simp; (try with_reducible rfl)
                    try simp only [List.getElem_toArray, List.getElem_cons_zero, List.getElem_cons_succ, Act.put, List.setIfInBounds_toArray, List.set_cons_zero, List.set_cons_succ]
                    refine wpAnyH_ready (rs := [19]) (by kernel_rfl) (by simp) ?_
                    refine AllReadyH.cons rfl (fun K hK => ?_) AllReadyH.nil
                    rw [if_pos (by kernel_rfl)]
                    simp only [List.getElem_toArray, List.getElem_cons_zero, List.getElem_cons_succ]
                    go_simp
                    refine hK.out _ _ HMID.out.x5 (fun HS => ?_)
                    clear hK
                    try simp only [List.getElem_toArray, List.getElem_cons_zero, List.getElem_cons_succ, Act.put, List.setIfInBounds_toArray, List.set_cons_zero, List.set_cons_succ]
                    refine wpAnyH_done (by kernel_rfl) ?_ _
                    go_wp2_with fail
                    go_meet
                    exact ⟨_, _, _, _, by rw [HNN.out], HMID.out⟩
                  · skip
                    rw [if_pos (by kernel_rfl)]
                    simp only [List.getElem_toArray, List.getElem_cons_zero, List.getElem_cons_succ]
                    refine wp_bs1r 28 81 1 0 (.tmp 91) rfl (.agg FC.toArray) rfl FC.toArray i81 _ Try.underlying28 hi hz0 (by rw [hz1]; decide) (by rw [hz1]; decide) (by rw [hz1]; exact HFILL.out) ?_
                    refine hK.out _ _ (HS7.out) (fun HS => ?_)
                    clear hK
                    try simp only [List.getElem_toArray, List.getElem_cons_zero, List.getElem_cons_succ, Act.put, List.setIfInBounds_toArray, List.set_cons_zero, List.set_cons_succ]
                    refine wpAnyH_ready (rs := [4]) (by kernel_rfl) (by simp) ?_
                    refine AllReadyH.cons rfl (fun K hK => ?_) AllReadyH.nil
                    rw [if_pos (by kernel_rfl)]
                    simp only [List.getElem_toArray, List.getElem_cons_zero, List.getElem_cons_succ]
                    go_simp
                    refine hK.out _ _ (HS) (fun HS => ?_)
                    clear hK
                    try simp only [List.getElem_toArray, List.getElem_cons_zero, List.getElem_cons_succ, Act.put, List.setIfInBounds_toArray, List.set_cons_zero, List.set_cons_succ]
                    refine wpAnyH_ready (rs := [16]) (by kernel_rfl) (by simp) ?_
                    refine AllReadyH.cons rfl (fun K hK => ?_) AllReadyH.nil
                    rw [if_pos (by kernel_rfl)]
                    simp only [List.getElem_toArray, List.getElem_cons_zero, List.getElem_cons_succ]
                    refine wp_append_own2 _ _ _ 28 rfl 0 81 i81 _ 36 80 Try.underlying28 hi hz0 hz1 hz2 (by kernel_rfl) (by decide) (.slice A1 n c1) n (R.flatMap Dg.cells) rfl HROW.out ⟨W6.heap.size, 0, none⟩ 1 1 FC (by decide) rfl (by rw [HFCL.out]) HC2.out HFC1.out (by unfold maxLen; omega) (by omega) (Nat.zero_le _) ?_
                    intro v' w8 ho hg hwh
                    obtain ⟨hb8, hx58, hmid⟩ := rmid_fresh (now := now) HP.out HX.out.ok HAB6.out HLOW.out HOV.out HNOW.out HN4R.out HR.out.abs HMAY.out (by rw [← HNN.out, ← HFCE.out]; exact ho) (by rw [← HNR.out, ← HFCE.out]; exact hg) (by rw [← HNR.out, ← HFCE.out]; exact hwh)
                    obtain ⟨q2, c2, hv2, -⟩ := own_slice2 ho
                    rw [hv2] at hmid ⊢
                    have k8 : w8.cell? ⟨mb, 0, none⟩ = some (.slice A1 n c1) := by rw [cell_blk hb8, HRV.out, HNN.out]; rfl
                    have f8 := frozen_blk hb8 0
                    have HMID := Lib.hid hmid
                    have HX58 := Lib.hid hx58
                    clear ho hg hwh hv2 hmid hb8 hx58
                    refine hK.out _ _ HX58.out (fun HS => ?_)
                    clear hK
                    try simp only [List.getElem_toArray, List.getElem_cons_zero, List.getElem_cons_succ, Act.put, List.setIfInBounds_toArray, List.set_cons_zero, List.set_cons_succ]
                    refine wpAnyH_take (i := 17) (v := ?_) rfl (by kernel_rfl) (by kernel_rfl) (by kernel_rfl) (fun _ _ _ h => h) (Or.inl ⟨by go_simp, ?hy⟩) HS ?_
                    case hy => intro W hW; go_simp; (try with_reducible rfl)
                    try simp only [List.getElem_toArray, List.getElem_cons_zero, List.getElem_cons_succ, Act.put, List.setIfInBounds_toArray, List.set_cons_zero, List.set_cons_succ]
                    refine wpAnyH_take (i := 18) (v := ?_) rfl (by kernel_rfl) (by kernel_rfl) (by kernel_rfl) (fun _ _ _ h => h) (Or.inl ⟨by go_simp, ?hy⟩) HS ?_
                    case hy => intro W hW; go_simp; (try with_reducible rfl)
                    try simp only [List.getElem_toArray, List.getElem_cons_zero, List.getElem_cons_succ, Act.put, List.setIfInBounds_toArray, List.set_cons_zero, List.set_cons_succ]
                    refine wpAnyH_ready (rs := [19]) (by kernel_rfl) (by simp) ?_
                    refine AllReadyH.cons rfl (fun K hK => ?_) AllReadyH.nil
                    rw [if_pos (by kernel_rfl)]
                    simp only [List.getElem_toArray, List.getElem_cons_zero, List.getElem_cons_succ]
                    go_simp
                    refine hK.out _ _ HMID.out.x5 (fun HS => ?_)
                    clear hK
                    try simp only [List.getElem_toArray, List.getElem_cons_zero, List.getElem_cons_succ, Act.put, List.setIfInBounds_toArray, List.set_cons_zero, List.set_cons_succ]
                    refine wpAnyH_done (by kernel_rfl) ?_ _
                    go_wp2_with fail
                    go_meet
                    exact ⟨_, _, _, _, by rw [HNN.out], HMID.out⟩
          case rest =>
            obtain ⟨rv1, R1, k, d, rfl, hmid⟩ := hcut
            rename_i KK hKK
            exact hKK _ _ (tail15 wc hmid HGD.out HX.out (HBS.out.keptR2 HB5.out hmid.mem.kept) HL.out HIS.out.symm)
end Go.Proofs.Ytjldcblklbikaaa
