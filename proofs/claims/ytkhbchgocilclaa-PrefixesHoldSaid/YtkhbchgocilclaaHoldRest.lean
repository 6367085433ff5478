/- What stands behind the others' news. No condition. -/
import Derived.Test.YtkhbchgocilclaaHoldEq
import Derived.Outline
import Derived.Deep.RegionHeld3
namespace Go.Proofs.Ytkhbchgocilclaa
open Go.RowKit
set_option linter.unusedVariables false
set_option linter.unusedSimpArgs false

set_option maxRecDepth 100000 in
set_option maxHeartbeats 20000000 in
theorem hold_rest {i1 : Info} {x : Nat → Nat} {B1 B2 b mb : Nat} {D : PD} {w wr : World} (I : Held i1 x B1 B2 b mb D w wr) (hlok : LOk D) (hhas : hasB x D = true) (ok1 : i1.Ok) (hx : ∀ j, j < 16 → x j < 256) (n1 : i1.n ≤ 128) (on1 : i1.on = true) (l1 : linkB i1.a = false) (m1 : manyB i1.a = false) (ag : agree x i1.a i1.n)
    {u0 u1 u2 u4 u6 u8 u9 u10 u11 u12 u13 u14 u15 u16 u17 u18 u19 u20 u21 u22 u23 u24 u25 u26 u27 u28 u29 u30 u31 u32 u33 u34 u35 u36 u37 u38 u39 u40 u41 u42 u43 u44 u45 u46 u47 u48 u49 u50 u51 u52 u53 u54 u55 u56 u57 u58 u59 u60 u61 u62 u63 u64 u65 u66 u67 u68 u69 u70 u71 u72 u73 u74 u75 u76 u77 u78 u79 u80 u81 u82 u83 u84 u85 u86 u87 u88 u89 u90 u91 u92 u93 u94 u95 u96 u97 u98 u99 u100 u101 u102 u103 u104 u105 u106 u107 u108 u109 u110 u111 u112 u113 u114 u115 u116 u117 u118 u119 u120 u121 u122 u123 u124 u125 u126 u127 u128 u129 u130 u131 u132 u133 u134 u135 u136 u137 u138 u139 u140 u141 u142 u143 u144 u145 u146 u147 u148 u149 u150 u151 u152 u153 u154 u155 u156 u157 u158 : Value} :
    (codeAt [1,1,1,1,1,1,1,1] (Try.f3.body.getD .skip)).wp Try.prog (bodyPost Try.prog Try.f3 fun e w' => e = .returned (.bool true) ∧ Below w.heap.size w w') ⟨(List.toArray (u0 :: u1 :: u2 :: .pointer (some ⟨B1, 0, none⟩) :: u4 :: .pointer (some ⟨B2, 0, none⟩) :: u6 :: .pointer (some ⟨b, 0, none⟩) :: u8 :: u9 :: u10 :: u11 :: u12 :: u13 :: u14 :: u15 :: u16 :: u17 :: u18 :: u19 :: u20 :: u21 :: u22 :: u23 :: u24 :: u25 :: u26 :: u27 :: u28 :: u29 :: u30 :: u31 :: u32 :: u33 :: u34 :: u35 :: u36 :: u37 :: u38 :: u39 :: u40 :: u41 :: u42 :: u43 :: u44 :: u45 :: u46 :: u47 :: u48 :: u49 :: u50 :: u51 :: u52 :: u53 :: u54 :: u55 :: u56 :: u57 :: u58 :: u59 :: u60 :: u61 :: u62 :: u63 :: u64 :: u65 :: u66 :: u67 :: u68 :: u69 :: u70 :: u71 :: u72 :: u73 :: u74 :: u75 :: u76 :: u77 :: u78 :: u79 :: u80 :: u81 :: u82 :: u83 :: u84 :: u85 :: u86 :: u87 :: u88 :: u89 :: u90 :: u91 :: u92 :: u93 :: u94 :: u95 :: u96 :: u97 :: u98 :: u99 :: u100 :: u101 :: u102 :: u103 :: u104 :: u105 :: u106 :: u107 :: u108 :: u109 :: u110 :: u111 :: u112 :: u113 :: u114 :: u115 :: u116 :: u117 :: u118 :: u119 :: u120 :: u121 :: u122 :: u123 :: u124 :: u125 :: u126 :: u127 :: u128 :: u129 :: u130 :: u131 :: u132 :: u133 :: u134 :: u135 :: u136 :: u137 :: u138 :: u139 :: u140 :: u141 :: u142 :: u143 :: u144 :: u145 :: u146 :: u147 :: u148 :: u149 :: u150 :: u151 :: u152 :: u153 :: u154 :: u155 :: u156 :: u157 :: u158 :: [])), []⟩ wr := by
  -- what is told of the second list
  have ok2 : ({ i1 with v := 1 } : Info).Ok := ⟨ok1.a, ok1.n, by show (1:Nat) < 4294967296; decide⟩
  have ok3 : ({ i1 with v := 0 } : Info).Ok := ⟨ok1.a, ok1.n, by show (0:Nat) < 4294967296; decide⟩
  have hyes : learnOk ({ i1 with v := 1 } : Info) (.map []) = true := by
    rw [learnOk_first (i := { i1 with v := 1 }) on1 n1 (show (1:Nat) ≠ 0 by decide)]
    show (!linkB i1.a && !manyB i1.a) = true
    rw [l1, m1]; rfl
  have hput := first_put hyes (show (1:Nat) ≠ 0 by decide)
  have hkey : Maps.has (learnD ({ i1 with v := 1 } : Info) 0 (.map [])) ({ i1 with v := 0 } : Info).key = true := first_has hyes (show (1:Nat) ≠ 0 by decide)
  have hl2 : LOk (learnD ({ i1 with v := 1 } : Info) 0 (.map [])) := lok_empty.learn ok2
  have hh2 : hasB x (learnD ({ i1 with v := 1 } : Info) 0 (.map [])) = true := has_of_agree hx ok2 n1 hl2 (first_has hyes (show (1:Nat) ≠ 0 by decide)) ag
  have ht3 : tellB ({ i1 with v := 0 } : Info) = true := by
    unfold tellB
    show (i1.on && decide (i1.n ≤ 128) && !linkB i1.a && !manyB i1.a) = true
    rw [on1, l1, m1, decide_eq_true n1]; rfl
  have hok3 : learnOk ({ i1 with v := 0 } : Info) (learnD ({ i1 with v := 1 } : Info) 0 (.map [])) = true := done_ok ht3 hkey
  have hd3 := done_del 5 ht3 hkey rfl
  have hl3 : LOk (learnD ({ i1 with v := 0 } : Info) 5 (learnD ({ i1 with v := 1 } : Info) 0 (.map []))) := hl2.learn ok3
  have hh3 : hasB x (learnD ({ i1 with v := 0 } : Info) 5 (learnD ({ i1 with v := 1 } : Info) 0 (.map []))) = linkB x := by
    rw [hd3] at hl3 ⊢
    exact none_left (i := { i1 with v := 0 }) ok3 hput hl2 hl3 x
  obtain ⟨D3, hD3⟩ : ∃ z, z = learnD ({ i1 with v := 0 } : Info) 5 (learnD ({ i1 with v := 1 } : Info) 0 (.map [])) := ⟨_, rfl⟩
  rw [← hD3] at hl3 hh3
  have E3 := Lib.hid hD3.symm
  clear hD3 hput hd3 ht3 hkey on1 l1 m1 ag
  have HX := Lib.hid hx; clear hx
  have HI := Lib.hid I; have R2 := Lib.hid (range_adr I.h2); have HL := Lib.hid hlok
  have K2 := Lib.hid ok2; have K3 := Lib.hid ok3; have Y2 := Lib.hid hyes; have L2 := Lib.hid hl2; have H2 := Lib.hid hh2; have Y3 := Lib.hid hok3; have L3 := Lib.hid hl3; have H3 := Lib.hid hh3
  clear I hlok ok2 ok3 hyes hl2 hh2 hok3 hl3 hh3
  conv in codeAt _ _ => whnf
  go_wp2_with (refine wpList_load_mid rfl 23 _ rfl B2 0 rfl (adrL x) _ R2.out Try.underlying23 rfl (info23 _) ?_)
  refine (has_any x b mb D _ HX.out HI.out.hb HI.out.map HL.out).mono ?_
  rw [hhas]
  rintro e w2 ⟨rfl, b2⟩
  have I2 := HI.out.step b2
  clear HI R2 HL b2
  have c19 := I2.c19
  have f19 := frozen_blk I2.h1 19
  have J2 := Lib.hid (show Held { i1 with v := 0 } x B1 B2 b mb D w (w2.setCell ⟨B1, 19, none⟩ (.int .u32 0)) from I2.setV 0); clear I2
  go_wp2_with fail
  generalize w2.setCell ⟨B1, 19, none⟩ (.int .u32 0) = w3 at *
  clear c19 f19
  refine (new_any w3).mono ?_
  rintro e w4 ⟨b', mb', rfl, hmade, hle, hne, hm⟩
  have I4 : Held { i1 with v := 0 } x B1 B2 b' mb' (.map []) w w4 :=
    ⟨J2.out.toBoxed.step hmade.below, hmade.get, hm, by have := hmade.new; have := J2.out.below.size; omega, by have := J2.out.below.size; omega⟩
  clear J2 hmade hle hne hm
  have c19 := I4.c19
  have f19 := frozen_blk I4.h1 19
  have J4 := Lib.hid (show Held { i1 with v := 1 } x B1 B2 b' mb' (.map []) w (w4.setCell ⟨B1, 19, none⟩ (.int .u32 1)) from I4.setV 1); clear I4
  have R4 := Lib.hid (range_L J4.out.h1)
  go_wp2_with (refine wpList_load_mid rfl 28 _ rfl B1 0 rfl ({ i1 with v := 1 } : Info).L _ R4.out Try.underlying28 rfl (info28 _) ?_)
  generalize w4.setCell ⟨B1, 19, none⟩ (.int .u32 1) = w5 at *
  clear c19 f19 R4
  refine (learn_any ({ i1 with v := 1 } : Info) b' mb' 0 (.map []) w5 K2.out (by decide) J4.out.hb J4.out.map (by decide)).mono ?_
  rw [Y2.out]
  rintro e w6 ⟨rfl, L6⟩
  have I6 := Lib.hid (J4.out.learnt L6)
  have R6 := Lib.hid (range_adr I6.out.h2)
  clear J4 L6
  go_wp2_with (refine wpList_load_mid rfl 23 _ rfl B2 0 rfl (adrL x) _ R6.out Try.underlying23 rfl (info23 _) ?_)
  refine (has_any x b' mb' _ _ HX.out I6.out.hb I6.out.map L2.out).mono ?_
  rw [H2.out]
  rintro e w7 ⟨rfl, b7⟩
  have I7 := I6.out.step b7
  clear I6 R6 b7
  have c19 := I7.c19
  have f19 := frozen_blk I7.h1 19
  have J7 := Lib.hid (show Held { i1 with v := 0 } x B1 B2 b' mb' _ w (w7.setCell ⟨B1, 19, none⟩ (.int .u32 0)) from I7.setV 0); clear I7
  have R7 := Lib.hid (range_L J7.out.h1)
  go_wp2_with (refine wpList_load_mid rfl 28 _ rfl B1 0 rfl ({ i1 with v := 0 } : Info).L _ R7.out Try.underlying28 rfl (info28 _) ?_)
  generalize w7.setCell ⟨B1, 19, none⟩ (.int .u32 0) = w8 at *
  clear c19 f19 R7
  refine (learn_any ({ i1 with v := 0 } : Info) b' mb' 5 _ w8 K3.out (by decide) J7.out.hb J7.out.map L2.out.size).mono ?_
  rw [Y3.out, E3.out]
  rintro e w9 ⟨rfl, L9⟩
  have I9 := Lib.hid (J7.out.learnt L9)
  clear J7 L9
  go_wp2_with fail
  have hS : Held { i1 with v := 0 } x B1 B2 b' mb' D3 w w9.drew := I9.out.step (Below.refl _ _).drew
  clear I9
  refine wp_region_held_drew (S := fun W => Held { i1 with v := 0 } x B1 B2 b' mb' D3 w W) (by kernel_rfl) hS ?_
  clear hS
  intro HS
  refine wpAnyH_take (i := 0) (v := .bool true) rfl (by kernel_rfl) (by kernel_rfl) (by kernel_rfl) (fun _ _ _ h => h) (Or.inl ⟨by rfl, fun W hW => by go_simp⟩) HS ?_
  try simp only [List.getElem_toArray, List.getElem_cons_zero, List.getElem_cons_succ, Act.put, List.setIfInBounds_toArray, List.set_cons_zero, List.set_cons_succ]
  refine wpAnyH_take (i := 1) (v := .bool true) rfl (by kernel_rfl) (by kernel_rfl) (by kernel_rfl) (fun _ _ _ h => h) (Or.inl ⟨by rfl, fun W hW => by go_simp⟩) HS ?_
  try simp only [List.getElem_toArray, List.getElem_cons_zero, List.getElem_cons_succ, Act.put, List.setIfInBounds_toArray, List.set_cons_zero, List.set_cons_succ]
  refine wpAnyH_take (i := 2) (v := .bool true) rfl (by kernel_rfl) (by kernel_rfl) (by kernel_rfl) (fun _ _ _ h => h) (Or.inl ⟨by go_simp, fun W hW => by go_simp⟩) HS ?_
  try simp only [List.getElem_toArray, List.getElem_cons_zero, List.getElem_cons_succ, Act.put, List.setIfInBounds_toArray, List.set_cons_zero, List.set_cons_succ]
  refine wpAnyH_take (i := 3) (v := .bool true) rfl (by kernel_rfl) (by kernel_rfl) (by kernel_rfl) (fun _ _ _ h => h) (Or.inl ⟨by rfl, fun W hW => by go_simp⟩) HS ?_
  try simp only [List.getElem_toArray, List.getElem_cons_zero, List.getElem_cons_succ, Act.put, List.setIfInBounds_toArray, List.set_cons_zero, List.set_cons_succ]
  refine wpAnyH_take (i := 4) (v := .bool true) rfl (by kernel_rfl) (by kernel_rfl) (by kernel_rfl) (fun _ _ _ h => h) (Or.inl ⟨by rfl, fun W hW => by go_simp⟩) HS ?_
  try simp only [List.getElem_toArray, List.getElem_cons_zero, List.getElem_cons_succ, Act.put, List.setIfInBounds_toArray, List.set_cons_zero, List.set_cons_succ]
  refine wpAnyH_take (i := 5) (v := .pointer (some ⟨b', 0, none⟩)) rfl (by kernel_rfl) (by kernel_rfl) (by kernel_rfl) (fun _ _ _ h => h) (Or.inl ⟨by go_simp, fun W hW => by go_simp⟩) HS ?_
  try simp only [List.getElem_toArray, List.getElem_cons_zero, List.getElem_cons_succ, Act.put, List.setIfInBounds_toArray, List.set_cons_zero, List.set_cons_succ]
  refine wpAnyH_take (i := 6) (v := .agg (adrL x).toArray) rfl (by kernel_rfl) (by kernel_rfl) (by kernel_rfl) (fun _ _ _ h => h) (by refine yieldsIf_load_mid ?_ 23 (.tmp 5) rfl B2 0 ?_ (adrL x) _ (fun W hW => range_adr hW.h2) Try.underlying23 rfl (info23 _); (go_simp); (go_simp)) HS ?_
  try simp only [List.getElem_toArray, List.getElem_cons_zero, List.getElem_cons_succ, Act.put, List.setIfInBounds_toArray, List.set_cons_zero, List.set_cons_succ]
  refine wpAnyH_take (i := 8) (v := .agg (adrL x).toArray) rfl (by kernel_rfl) (by kernel_rfl) (by kernel_rfl) (fun _ _ _ h => h) (by refine yieldsIf_load_mid ?_ 23 (.tmp 5) rfl B2 0 ?_ (adrL x) _ (fun W hW => range_adr hW.h2) Try.underlying23 rfl (info23 _); (go_simp); (go_simp)) HS ?_
  try simp only [List.getElem_toArray, List.getElem_cons_zero, List.getElem_cons_succ, Act.put, List.setIfInBounds_toArray, List.set_cons_zero, List.set_cons_succ]
  refine wpAnyH_ready (rs := [7]) (by kernel_rfl) (by simp) ?_
  refine AllReadyH.cons rfl (fun K hK => ?_) AllReadyH.nil
  rw [if_pos (by kernel_rfl)]
  simp only [List.getElem_toArray, List.getElem_cons_zero, List.getElem_cons_succ]
  go_simp
  refine (has_any x b' mb' _ _ HX.out HS.hb HS.map L3.out).mono ?_
  rw [H3.out]
  rintro e w10 ⟨rfl, b10⟩
  refine hK.out _ _ (HS.step b10) (fun HS => ?_)
  clear hK b10
  try simp only [List.getElem_toArray, List.getElem_cons_zero, List.getElem_cons_succ, Act.put, List.setIfInBounds_toArray, List.set_cons_zero, List.set_cons_succ]
  refine wpAnyH_ready (rs := [9]) (by kernel_rfl) (by simp) ?_
  refine AllReadyH.cons rfl (fun K hK => ?_) AllReadyH.nil
  rw [if_pos (by kernel_rfl)]
  simp only [List.getElem_toArray, List.getElem_cons_zero, List.getElem_cons_succ]
  go_simp
  refine (link_any x _ HX.out).mono ?_
  rintro e w11 ⟨rfl, b11⟩
  refine hK.out _ _ (HS.step b11) (fun HS => ?_)
  clear hK b11
  try simp only [List.getElem_toArray, List.getElem_cons_zero, List.getElem_cons_succ, Act.put, List.setIfInBounds_toArray, List.set_cons_zero, List.set_cons_succ]
  refine wpAnyH_take (i := 10) (v := .bool true) rfl (by kernel_rfl) (by kernel_rfl) (by kernel_rfl) (fun _ _ _ h => h) (Or.inl ⟨by go_simp, fun W hW => by go_simp⟩) HS ?_
  try simp only [List.getElem_toArray, List.getElem_cons_zero, List.getElem_cons_succ, Act.put, List.setIfInBounds_toArray, List.set_cons_zero, List.set_cons_succ]
  refine wpAnyH_take (i := 11) (v := .bool true) rfl (by kernel_rfl) (by kernel_rfl) (by kernel_rfl) (fun _ _ _ h => h) (Or.inl ⟨by rfl, fun W hW => by go_simp⟩) HS ?_
  try simp only [List.getElem_toArray, List.getElem_cons_zero, List.getElem_cons_succ, Act.put, List.setIfInBounds_toArray, List.set_cons_zero, List.set_cons_succ]
  refine wpAnyH_take (i := 12) (v := .bool true) rfl (by kernel_rfl) (by kernel_rfl) (by kernel_rfl) (fun _ _ _ h => h) (Or.inl ⟨by rfl, fun W hW => by go_simp⟩) HS ?_
  try simp only [List.getElem_toArray, List.getElem_cons_zero, List.getElem_cons_succ, Act.put, List.setIfInBounds_toArray, List.set_cons_zero, List.set_cons_succ]
  refine wpAnyH_ready (rs := [13]) (by kernel_rfl) (by simp) ?_
  refine AllReadyH.cons rfl (fun K hK => ?_) AllReadyH.nil
  rw [if_pos (by kernel_rfl)]
  simp only [List.getElem_toArray, List.getElem_cons_zero, List.getElem_cons_succ]
  go_simp
  refine (lives_any _).mono ?_
  rintro e w12 ⟨rfl, b12⟩
  refine hK.out _ _ (HS.step b12) (fun HS => ?_)
  clear hK b12
  try simp only [List.getElem_toArray, List.getElem_cons_zero, List.getElem_cons_succ, Act.put, List.setIfInBounds_toArray, List.set_cons_zero, List.set_cons_succ]
  refine wpAnyH_take (i := 14) (v := .bool true) rfl (by kernel_rfl) (by kernel_rfl) (by kernel_rfl) (fun _ _ _ h => h) (Or.inl ⟨by rfl, fun W hW => by go_simp⟩) HS ?_
  try simp only [List.getElem_toArray, List.getElem_cons_zero, List.getElem_cons_succ, Act.put, List.setIfInBounds_toArray, List.set_cons_zero, List.set_cons_succ]
  refine wpAnyH_take (i := 15) (v := .bool true) rfl (by kernel_rfl) (by kernel_rfl) (by kernel_rfl) (fun _ _ _ h => h) (Or.inl ⟨by rfl, fun W hW => by go_simp⟩) HS ?_
  try simp only [List.getElem_toArray, List.getElem_cons_zero, List.getElem_cons_succ, Act.put, List.setIfInBounds_toArray, List.set_cons_zero, List.set_cons_succ]
  refine wpAnyH_done (by kernel_rfl) ?_ _
  have HW := Lib.hid HS.below
  clear HS
  go_wp2_with fail
  go_ret
  exact ⟨rfl, HW.out⟩
end Go.Proofs.Ytkhbchgocilclaa
