/- The walk of OptionsGet. No condition but that the bytes read. -/
import Derived.Test.YtfolamkjlgpgmaaDoorGetU
import Derived.Test.YtfolamkjlgpgmaaDoorLives
namespace Go.Proofs.YtfolamkjlgpgmaaDoor
open Go.RowKit
set_option linter.unusedVariables false
set_option linter.unusedSimpArgs false
set_option maxRecDepth 100000 in
set_option maxHeartbeats 4000000 in
theorem optionsGet_walk {A : Option Addr} {c : Nat} {l : List Nat} (w : World) (h : Bs w w.heap.size A c l) (h256 : ∀ x ∈ l, x < 256) :
    Calls Tryd.prog 3 #[.slice A l.length c] w fun e w' => e = .returned (.bool true) ∧ Below w.heap.size w w' := by
  obtain ⟨n, hn⟩ : ∃ n, l.length = n := ⟨_, rfl⟩
  have HN := Lib.hid hn
  have HA := Lib.hid h
  have H256 := Lib.hid h256
  rw [hn]
  clear h hn h256
  go_enter Tryd.func3, Tryd.ntmps3
  by_cases hl : n ≤ 5000
  · have hl5 : l.length ≤ 5000 := by rw [HN.out]; exact hl
    have HT := Lib.hid (twin9 w HA.out hl5)
    rw [HN.out] at HT
    have t5 : ¬ (5000 : Int) < (n : Int) := by omega
    have HL5 := Lib.hid hl5
    clear hl5
    go_wp2_with fail
    refine (HT.out).mono ?_
    rintro e w1 ⟨rfl, ht1, hb1⟩
    rw [HN.out]
    have hgt := lt_of_blk ht1
    obtain ⟨gt, hgt0⟩ : ∃ gt, gt = w.heap.size := ⟨_, rfl⟩
    rw [← hgt0] at ht1 hgt ⊢
    have NG := Lib.hid hgt0
    have HG := Lib.hid (get10 w1 (twin_bs ht1 HL5.out) (by rw [HN.out]; omega) H256.out)
    rw [HN.out] at HG
    have HT1 := Lib.hid ht1
    have HB1 := Lib.hid hb1
    clear ht1 hb1 HT hgt0
    go_wp2_with fail
    refine (HG.out).mono ?_
    intro e w2 hg
    obtain ⟨Ao, Lo, co, ee, rfl, hb2, hgf⟩ := getU hg H256.out
    have hb02 := HB1.out.trans (hb2.mono HB1.out.size)
    have HR := Lib.hid (ref11 w2 ((HA.out.below hb02).mono hb02.size) (by rw [HN.out]; omega) H256.out)
    rw [HN.out] at HR
    have HB2 := Lib.hid hb2
    have HB02 := Lib.hid hb02
    have HGF := Lib.hid hgf
    clear hg hb2 hb02 hgf HG
    go_wp2_with fail
    refine (HR.out).mono ?_
    intro e w3 hr
    obtain ⟨Am, M, cm, ff, rfl, hb3, hrf⟩ := refU hr
    obtain ⟨rfl, o1, o2, hk, hd, hlo, hmo⟩ := both HGF.out hrf hb3 H256.out HL5.out
    have hb03 := HB02.out.trans (hb3.mono HB02.out.size)
    have HS := Lib.hid (same12 (c := co) (c2 := cm) w3 o1 o2 hk (Nat.le_refl _) hd)
    have HO := Lib.hid o1
    have HB3 := Lib.hid hb3
    have HB03 := Lib.hid hb03
    obtain ⟨nlo, hnlo⟩ : ∃ nlo, Lo.length = nlo := ⟨_, rfl⟩
    have HNL := Lib.hid hnlo
    rw [hmo] at HS ⊢
    rw [hnlo] at HS hlo ⊢
    have tee : (ff != ff) = false := by simp
    clear hr hb3 hrf o1 o2 hk hd hmo hnlo hb03 HR
    go_wp2_with fail
    refine (HS.out).mono ?_
    rintro e w4 ⟨rfl, hb4⟩
    have hb04 := HB03.out.trans (hb4.mono HB03.out.size)
    have ht4 : w4.heap[gt]? = some (.cells (row8 (twinL l 199)).toArray 5 (0, 0)) := by
      refine (hb4.block gt ?_).trans ((HB3.out.block gt ?_).trans ((HB2.out.block gt hgt).trans HT1.out))
      · have := HB3.out.size; have := HB2.out.size; omega
      · have := HB2.out.size; omega
    have HLF := Lib.hid (left13 w4 ((HA.out.below hb04).mono hb04.size) ht4 HL5.out)
    rw [HN.out] at HLF
    have HB4 := Lib.hid hb4
    have HB04 := Lib.hid hb04
    have HT4 := Lib.hid ht4
    clear hb4 hb04 ht4 HS
    go_wp2_with fail
    refine (HLF.out).mono ?_
    rintro e w5 ⟨rfl, j, rfl⟩
    have hkb : ((w4.drewN j).alloc (.cells #[.slice none 0 0] 33)).heap[w4.heap.size]? = some (.cells #[.slice none 0 0] 33 (0, 0)) := heap_alloc_new (w4.drewN j) _
    have kc := cell_blk hkb 0
    have kf := frozen_blk hkb 0
    simp only [List.getElem?_toArray, List.getElem?_cons_zero] at kc
    have tk := Turned.setCell hkb 0 (.slice none 0 0)
    have hal : Below w4.heap.size w4 ((w4.drewN j).alloc (.cells #[.slice none 0 0] 33)) := (Below.drewN' _ _ _).alloc (Nat.le_refl _) _
    have hb5 := hal.trans (tk.below (Nat.le_refl _))
    have hbk : BookAt (((w4.drewN j).alloc (.cells #[.slice none 0 0] 33)).setCell ⟨w4.heap.size, 0, none⟩ (.slice none 0 0)) w4.heap.size [] := ⟨.slice none 0 0, tk.get (lt_of_blk hkb), World.ownsRow_nil _ _ _ _⟩
    have H14 := Lib.hid (bytes14 (n := n) (c := n + 4) (A := some ⟨gt, 0, none⟩) _ hbk (by simp))
    have HB5 := Lib.hid hb5
    clear HLF hkb tk hal hb5 hbk
    go_wp2_with fail
    refine (H14.out).mono ?_
    rintro e w6 ⟨rfl, hbk, hb6⟩
    have hb46 := HB5.out.trans hb6
    have hb36 := HB4.out.trans (hb46.mono HB4.out.size)
    have H15 := Lib.hid (options15 (c := co) w6 hbk ((HO.out.below hb36).mono HB4.out.size) (by rw [HNL.out]; simp; omega))
    rw [HNL.out] at H15
    have HB46 := Lib.hid hb46
    clear hbk hb6 hb46 hb36 H14
    go_wp2_with fail
    refine (H15.out).mono ?_
    rintro e w7 ⟨rfl, hbk, hb7⟩
    have hb47 := HB46.out.trans hb7
    have hb24 : Below w2.heap.size w2 w4 := HB3.out.trans (HB4.out.mono HB3.out.size)
    obtain ⟨s1, s2⟩ := HGF.out.spans (kb := w4.heap.size) hb24 HT4.out hgt H256.out HL5.out (Nat.le_refl _)
    have hgt4 : gt ≤ w4.heap.size := Nat.le_of_lt (lt_of_blk HT4.out)
    rw [List.nil_append, List.singleton_append, ← HN.out] at hbk
    have H16 := Lib.hid (apart16 (lo := gt) w7 hbk (fun x hx => (s1 x hx).below hb47 (Nat.le_refl _)) s2 hgt4 (by simp only [List.length_cons, List.length_map]; rw [HNL.out]; omega))
    have HB07 := Lib.hid (HB04.out.trans (hb47.mono HB04.out.size))
    clear hbk hb7 hb47 hb24 s1 s2 H15
    go_wp2_with fail
    refine (H16.out).mono ?_
    rintro e w8 ⟨rfl, hb8⟩
    rw [NG.out] at hb8
    have HB08 := Lib.hid (HB07.out.trans hb8)
    have HV := Lib.hid (lives8 w8)
    clear hb8 H16
    go_wp2_with fail
    refine (HV.out).mono ?_
    rintro e w9 ⟨rfl, hb9⟩
    have HB09 := Lib.hid (HB08.out.trans (hb9.mono HB08.out.size))
    clear hb9 HV
    go_wp2_with fail
    go_ret
    exact ⟨rfl, HB09.out⟩
  · have HV := Lib.hid (lives8 w)
    have t5 : (5000 : Int) < (n : Int) := by omega
    go_wp2_with fail
    refine (HV.out).mono ?_
    rintro e w1 ⟨rfl, hb⟩
    have HB := Lib.hid hb
    clear hb HV
    go_wp2_with fail
    go_ret
    exact ⟨rfl, HB.out⟩
end Go.Proofs.YtfolamkjlgpgmaaDoor
