/- GroupsCount: the walk. No condition beyond those named. (Written out by exp.py.) -/
import Derived.Test.YthbkjhacnnoolaaDoorHC
namespace Go.Proofs.YthbkjhacnnoolaaDoor
open Go.RowKit Go.Maps
set_option linter.unusedVariables false
set_option linter.unusedSimpArgs false
/-- the bytes that come in -/
def BytesIn (w : World) (p : Option Addr) (len : Nat) (s : Nat → Nat) : Prop :=
  ∀ i, i < len → ∃ b o, p = some ⟨b, o, none⟩ ∧ b < w.heap.size ∧ w.cell? ⟨b, o + i, none⟩ = some (.int .u8 (s i : Int)) ∧ s i < 256
theorem gm_new {w W : World} {t mj ma mc : Nat} (hkn : Kn w) (h : Tab W t mj ma mc 0 0 (.map [])) (q1 : w.heap.size ≤ t) (q2 : w.heap.size ≤ mj) (q3 : w.heap.size ≤ ma) (q4 : w.heap.size ≤ mc) (hb : Below w.heap.size w W) :
    GM w (W.alloc (.map #[] 0)) t mj ma mc W.heap.size 0 0 0 (.map []) (.map []) := by
  have hal : Below W.heap.size W (W.alloc (.map #[] 0)) := (Below.refl _ _).alloc (Nat.le_refl _) _
  have e0 := lt_of_blk h.tb.blk
  have e1 := h.j.lt
  have e2 := h.a.lt
  have e3 : mc < W.heap.size := h.c.elim fun D q => q.lt
  exact ⟨hb.trans (hal.mono hb.size), ⟨(hal.block _ e0).trans h.tb.blk⟩, owns_below h.j hal, owns_below h.a hal, h.c.imp fun D q => owns_below q hal, World.ownsMap_made W Tryd.prog 26 (plainElem (H := Unit) Tryd.prog 3),
    q1, q2, q3, q4, hb.size, h.ja, h.jc, h.ac, h.tj, h.ta, h.tc, by omega, by omega, by omega, by omega, hkn⟩
set_option maxRecDepth 100000 in
set_option maxHeartbeats 20000000 in
theorem count_yes (p : Option Addr) (len cap : Nat) (s : Nat → Nat) (w : World) (hkn : Kn w) (hA : BytesIn w p len s) (hlen : len ≤ 150)
    (hlv : ∀ W, Below w.heap.size w W → Calls Tryd.prog 15 #[] W fun e w' => e = .returned (.bool true) ∧ Below W.heap.size W w') :
    Calls Tryd.prog 5 #[.slice p len cap] w fun e w' => e = .returned (.bool true) ∧ Below w.heap.size w w' := by
  have t1 : decide ((150 : Int) < len) = false := by simp; omega
  have hmm := @run_makeMap Tryd.prog
  have h8 := new8 w
  go_enter Tryd.func5, Tryd.ntmps5
  go_upto_region 4 with (go_at_call 8; refine h8.mono ?_; rintro e W ⟨t, mj, ma, mc, rfl, hT, q1, q2, q3, q4, hb⟩)
  clear h8
  go_upto_region 5 with (fail)
  obtain ⟨mm, hmmE⟩ : ∃ mm, mm = W.heap.size := ⟨_, rfl⟩
  have hG0 : GM w (W.alloc (.map #[] 0)) t mj ma mc mm 0 0 0 (.map []) (.map []) := by rw [hmmE]; exact gm_new hkn hT q1 q2 q3 q4 hb
  have HG0 := Lib.hid hG0
  obtain ⟨W1, hW1⟩ : ∃ W1, W1 = W.alloc (.map #[] 0) := ⟨_, rfl⟩
  rw [← hW1] at HG0 ⊢
  rw [← hmmE]
  clear hG0 hT q1 q2 q3 q4 hb hmmE hW1 hmm t1
  go_wp2_with fail
  go_loopw [5] (fun i wr => ∃ (i' : Nat) (J M : PD) (f : List Nat → Nat) (N K L : Nat), i' ≤ len ∧ i = .int .i64 i' ∧ GM w wr t mj ma mc mm N K L J M ∧ Rel J M f ∧ Maps.size J ≤ 24 ∧ (∀ l, f l ≤ i') ∧ N ≤ i' ∧ K ≤ 2 * i' ∧ L ≤ i') (fun i _ => len - (intOf i).toNat)
  case atStart => exact ⟨0, _, _, _, 0, 0, 0, by omega, rfl, HG0.out, rel_new, Nat.zero_le _, fun _ => Nat.le_refl _, Nat.le_refl _, Nat.le_refl _, Nat.le_refl _⟩
  case round =>
    clear HG0
    obtain ⟨i, J, M, f, N, K, L, hi, rfl, hG, hR, hS, hF, hN, hK, hL⟩ := hrel
    have HG := Lib.hid hG; have HR := Lib.hid hR; have HF := Lib.hid hF
    have HA := Lib.hid hA; have HLV := Lib.hid hlv
    clear hG hR hF hA hlv
    by_cases hlt : i < len
    · obtain ⟨b, o, rfl, hbl, hc0, hsi⟩ := HA.out i hlt
      have hc : wr.cell? ⟨b, o + i, none⟩ = some (.int .u8 (s i : Int)) := (HG.out.below.cell (p := ⟨b, o + i, none⟩) hbl).trans hc0
      have HC0 := Lib.hid hc0
      clear hc0
      have hg := group16 (s i % 64) wr (by omega)
      obtain ⟨l, hl⟩ : ∃ l, l = grp (s i % 64) := ⟨_, rfl⟩
      have hla : Adr l := by rw [hl]; exact grp_adr (by omega)
      have h255 : l.headD 0 = 255 := by rw [hl]; exact grp_head _
      rw [← hl] at hg
      have HLA := Lib.hid hla; have H255 := Lib.hid h255
      clear hl hla h255
      have tl : decide ((i : Int) < len) = true := by simp; omega
      obtain ⟨X, hX⟩ : ∃ X, X = row8 l := ⟨_, rfl⟩
      have HXL : Hid (X.length = 16) := Lib.hid (by rw [hX, row8_length, HLA.out.len])
      have HX1 : Hid (∀ v ∈ X, v.oneCell' = true) := Lib.hid (by rw [hX]; exact row8_one _)
      have HSZ := Lib.hid size26
      rw [← hX] at hg
      have HX := Lib.hid hX
      clear hX
      go_upto_region 9 with (first
        | (go_at_call 16; refine hg.mono ?_; rintro e w8 ⟨rfl, h8⟩; have H8 := Lib.hid h8; clear h8)
        | (refine wpList_store_new rfl 26 (.tmp 6) (.tmp 33) ?ho w8 _ X.toArray 26 ?hx ?hy ?hi ?hc ?h1 ?_; (case ho => with_reducible rfl); (case hx => rfl); (case hy => rfl); (case hi => rw [List.size_toArray, HXL.out]; exact HSZ.out); (case hc => exact Eq.trans (b := 16) rfl (by rw [List.size_toArray, HXL.out])); (case h1 => exact all_oneCell_toArray HX1.out)))
      have HG8 := Lib.hid ((HG.out.step H8.out).step ((Below.refl w8.heap.size w8).alloc (Nat.le_refl _) (.cells X.toArray 26)))
      have HB8 := Lib.hid (heap_alloc_new w8 (.cells X.toArray 26))
      have HW8 := Lib.hid (H8.out.size)
      have HWR := Lib.hid (HG.out.below.size)
      obtain ⟨W8, hW8⟩ : ∃ W8, W8 = w8.alloc (.cells X.toArray 26) := ⟨_, rfl⟩
      obtain ⟨b8, hb8⟩ : ∃ b8, b8 = w8.heap.size := ⟨_, rfl⟩
      rw [← hW8] at HG8 HB8 ⊢
      rw [← hb8] at HB8 HW8 ⊢
      clear hW8 hb8 HG hg H8
      have hlk : (Instr.lookup 53 (.map (some mm)) (.agg X.toArray) false).run Tryd.prog W8 = .ok (.int .i64 (f l : Int)) W8 := by rw [HX.out]; exact look_j HG8.out.m HLA.out (HR.out.rm l HLA.out)
      go_upto_region 10 with (first | (refine wpList_load_mid rfl 26 (.tmp 6) ?ho b8 0 ?hx X _ ?hr Tryd.underlying26 rfl ?hi ?_; (case ho => with_reducible rfl); (case hx => rfl); (case hr => exact row_of HB8.out); (case hi => rw [HXL.out]; exact HSZ.out); (try simp only [Act.put, List.setIfInBounds_toArray, List.set_cons_zero, List.set_cons_succ])))
      have hb1 : W8.cell? ⟨b8, 1, none⟩ = some (.int .u8 (l.getD 1 0 : Nat)) := by
        obtain ⟨a0, a1, a2, a3, a4, a5, a6, a7, a8, a9, a10, a11, a12, a13, a14, a15, rfl⟩ := list16 HLA.out.len
        rw [cell_blk HB8.out, HX.out]; rfl
      obtain ⟨h, hh⟩ : ∃ h, h = l.getD 1 0 := ⟨_, rfl⟩
      rw [← hh] at hb1
      have HH := Lib.hid hh
      clear hh
      have heq : ∀ W, (Op.equalIn 10000 26 (.agg X.toArray) (.agg #[.int .u8 255, .int .u8 2, .int .u8 0, .int .u8 0, .int .u8 0, .int .u8 0, .int .u8 0, .int .u8 0, .int .u8 0, .int .u8 0, .int .u8 0, .int .u8 0, .int .u8 0, .int .u8 0, .int .u8 0, .int .u8 1])).run Tryd.prog W = .ok (l == nodesL) W := fun W => by
        rw [HX.out]; exact eq26 HLA.out nodes_adr 9998 W
      obtain ⟨r, hr⟩ : ∃ r, r = (l == nodesL) := ⟨_, rfl⟩
      rw [← hr] at heq
      have HRR := Lib.hid hr
      clear hr
      obtain ⟨told, htold⟩ : ∃ told, told = toldB l := ⟨_, rfl⟩
      have HTO : Hid (told = (decide (1 < h % 16) && !r)) := Lib.hid (by rw [htold, HH.out, HRR.out]; rfl)
      have HTL := Lib.hid htold
      clear htold
      have hc8 : W8.cell? ⟨b, o + i, none⟩ = some (.int .u8 (s i : Int)) := (HG8.out.below.cell (p := ⟨b, o + i, none⟩) hbl).trans HC0.out
      clear hc
      have hwl : w.heap.size ≤ b8 := by have := HW8.out; have := HWR.out; omega
      by_cases hs : 1 < h % 16
      · have ts : decide ((1 : Int) < (h : Int) % 16) = true := by simp; omega
        have HQ : Hid (told = !r) := Lib.hid (by rw [HTO.out]; simp [hs])
        go_upto_region 11 with (first | (refine wpList_load_mid_w ?hw 26 (.tmp 6) ?ho b8 0 ?hx X _ ?hr Tryd.underlying26 rfl ?hi ?_; (case ho => with_reducible rfl); (case hx => rfl); (case hw => rfl); (case hr => exact row_of HB8.out); (case hi => rw [HXL.out]; exact HSZ.out)))
        rw [← HQ.out]
        by_cases hj : s i < 128
        · have tj : decide ((s i : Int) < 128) = true := by simp; omega
          go_upto_if 50 with (fail)
          refine wp_cond_true rfl ?_
          refine tailJ HG8.out HR.out hS HF.out hN hK hL (by omega) rfl HLA.out H255.out HX.out HB8.out hwl HTL.out HLV.out (fun c a d v W h => (by cases (show _ ∧ (_ = _) ∧ _ from h).2.1)) ?hn ?hr
          case hn =>
            intro r9 r10 r51 r52 r53 r54 r55 r56 r57 r58 r59 r60 r61 r62 r63 r64 r65 r66 r67 r68 r69 r70 r71 r72 r73 r74 r75 r76 r77 r78 r79 r80 r81 r82 r83 r84 r85 r86 r87 r88 r89 r90 r91 r92 r93 r94 r95 r96 r97 r98 r99 r100 r101 r102 r103 r104 r105 r106 r107 r108 W' J' M' f' N' K' L' hG' hR' hS' hF' hN' hK' hL'
            have HG' := Lib.hid hG'; have HR' := Lib.hid hR'; have HF' := Lib.hid hF'
            clear hG' hR' hF' HG8 HR HF hlk hb1 heq
            go_wp2_with fail
            exact ⟨⟨i + 1, J', M', f', N', K', L', by omega, by go_num, HG'.out, HR'.out, hS', HF'.out, hN', hK', hL'⟩, by simp [intOf]; omega⟩
          case hr =>
            intro r9 r10 r51 r52 r53 r54 r55 r56 r57 r58 r59 r60 r61 r62 r63 r64 r65 r66 r67 r68 r69 r70 r71 r72 r73 r74 r75 W' hb'
            have HB' := Lib.hid hb'
            clear hb' hlk hb1 heq HG8
            go_wp2_with fail
            go_ret
            exact ⟨rfl, HB'.out⟩
        · have tj : decide ((s i : Int) < 128) = false := by simp; omega
          go_upto_if 50 with (fail)
          refine wp_cond_false rfl ?_
          refine wp_skip ?_
          rename_i KK hKK
          refine hKK _ _ ?_
          refine tailL HG8.out HR.out hS HF.out hN hK hL (by omega) rfl HLA.out H255.out HX.out HB8.out hwl HTL.out HLV.out (fun c a d v W h => (by cases (show _ ∧ (_ = _) ∧ _ from h).2.1)) ?_
          intro r11 r12 r109 r110 r111 r112 r113 r114 r115 r116 r117 r118 r119 r120 r121 r122 r123 r124 r125 r126 r127 r128 r129 r130 r131 r132 r133 r134 r135 r136 r137 r138 r139 r140 r141 r142 r143 r144 r145 r146 r147 r148 r149 r150 r151 r152 r153 r154 r155 r156 r157 r158 r159 r160 r161 r162 r163 r164 W' J' M' f' N' K' L' hG' hR' hS' hF' hN' hK' hL'
          have HG' := Lib.hid hG'; have HR' := Lib.hid hR'; have HF' := Lib.hid hF'
          clear hG' hR' hF' HG8 HR HF hlk hb1 heq hc8
          go_wp2_with fail
          exact ⟨⟨i + 1, J', M', f', N', K', L', by omega, by go_num, HG'.out, HR'.out, hS', HF'.out, hN', hK', hL'⟩, by simp [intOf]; omega⟩
      · have ts : decide ((1 : Int) < (h : Int) % 16) = false := by simp; omega
        have HQ : Hid (told = false) := Lib.hid (by rw [HTO.out]; simp [hs])
        go_upto_region 11 with (fail)
        obtain rfl := HQ.out
        by_cases hj : s i < 128
        · have tj : decide ((s i : Int) < 128) = true := by simp; omega
          go_upto_if 50 with (fail)
          refine wp_cond_true rfl ?_
          refine tailJ HG8.out HR.out hS HF.out hN hK hL (by omega) rfl HLA.out H255.out HX.out HB8.out hwl HTL.out HLV.out (fun c a d v W h => (by cases (show _ ∧ (_ = _) ∧ _ from h).2.1)) ?hn ?hr
          case hn =>
            intro r9 r10 r51 r52 r53 r54 r55 r56 r57 r58 r59 r60 r61 r62 r63 r64 r65 r66 r67 r68 r69 r70 r71 r72 r73 r74 r75 r76 r77 r78 r79 r80 r81 r82 r83 r84 r85 r86 r87 r88 r89 r90 r91 r92 r93 r94 r95 r96 r97 r98 r99 r100 r101 r102 r103 r104 r105 r106 r107 r108 W' J' M' f' N' K' L' hG' hR' hS' hF' hN' hK' hL'
            have HG' := Lib.hid hG'; have HR' := Lib.hid hR'; have HF' := Lib.hid hF'
            clear hG' hR' hF' HG8 HR HF hlk hb1 heq
            go_wp2_with fail
            exact ⟨⟨i + 1, J', M', f', N', K', L', by omega, by go_num, HG'.out, HR'.out, hS', HF'.out, hN', hK', hL'⟩, by simp [intOf]; omega⟩
          case hr =>
            intro r9 r10 r51 r52 r53 r54 r55 r56 r57 r58 r59 r60 r61 r62 r63 r64 r65 r66 r67 r68 r69 r70 r71 r72 r73 r74 r75 W' hb'
            have HB' := Lib.hid hb'
            clear hb' hlk hb1 heq HG8
            go_wp2_with fail
            go_ret
            exact ⟨rfl, HB'.out⟩
        · have tj : decide ((s i : Int) < 128) = false := by simp; omega
          go_upto_if 50 with (fail)
          refine wp_cond_false rfl ?_
          refine wp_skip ?_
          rename_i KK hKK
          refine hKK _ _ ?_
          refine tailL HG8.out HR.out hS HF.out hN hK hL (by omega) rfl HLA.out H255.out HX.out HB8.out hwl HTL.out HLV.out (fun c a d v W h => (by cases (show _ ∧ (_ = _) ∧ _ from h).2.1)) ?_
          intro r11 r12 r109 r110 r111 r112 r113 r114 r115 r116 r117 r118 r119 r120 r121 r122 r123 r124 r125 r126 r127 r128 r129 r130 r131 r132 r133 r134 r135 r136 r137 r138 r139 r140 r141 r142 r143 r144 r145 r146 r147 r148 r149 r150 r151 r152 r153 r154 r155 r156 r157 r158 r159 r160 r161 r162 r163 r164 W' J' M' f' N' K' L' hG' hR' hS' hF' hN' hK' hL'
          have HG' := Lib.hid hG'; have HR' := Lib.hid hR'; have HF' := Lib.hid hF'
          clear hG' hR' hF' HG8 HR HF hlk hb1 heq hc8
          go_wp2_with fail
          exact ⟨⟨i + 1, J', M', f', N', K', L', by omega, by go_num, HG'.out, HR'.out, hS', HF'.out, hN', hK', hL'⟩, by simp [intOf]; omega⟩
    · obtain rfl : i = len := by omega
      have tl : decide ((i : Int) < i) = false := by simp
      go_upto_if 25 with (fail)
      refine wp_cond_false rfl ?_
      refine wp_exit ?_
      rename_i Q1 K1 hK1 Q2 K2 hK2
      exact hK1 _ _ (tailC HG.out HR.out hS (fun l => Nat.le_trans (HF.out l) hlen) (Nat.le_trans hL hlen) HLV.out)
end Go.Proofs.YthbkjhacnnoolaaDoor
