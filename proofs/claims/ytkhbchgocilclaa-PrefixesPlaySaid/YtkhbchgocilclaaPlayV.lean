/- PrefixesPlay's other tests. No condition but that the numbers fit. -/
import Derived.Test.YtkhbchgocilclaaPlayT
namespace Go.Proofs.Ytkhbchgocilclaa
open Go.RowKit
set_option linter.unusedVariables false
set_option linter.unusedSimpArgs false
set_option maxRecDepth 100000 in
set_option maxHeartbeats 20000000 in
theorem reg12 {b mb mk : Nat} {D : PD} {L : List Ent} {w w1 : World} {lb off len cap i : Nat} {a : Nat → Nat} (H : PH b mb mk D L w w1) (ha : ∀ i, i < 16 → a i < 256) (hi : i < len) (hl : len ≤ 150) (hlb : lb < w.heap.size) (hr : w.rangeAt lb (off + i * 23 + 1) (adrL a))
    {u1 u2 u3 u4 u5 u6 u9 u11 u12 u13 u14 u15 u16 u17 u18 u19 u20 u21 u22 u23 u24 u25 u26 u27 u28 u29 u30 u31 u32 u33 u34 u35 u36 u37 u38 u39 u40 u41 u42 u43 u44 u45 u46 u47 u48 u49 u50 u51 u52 u53 u54 u55 u56 u57 u58 u59 u60 u61 u62 u63 u64 u65 u66 u67 u68 u69 u70 u71 u72 u73 u74 u75 u76 u77 u78 u79 u80 u81 u82 u83 u84 u85 u86 u87 u88 u89 u90 u91 u92 u93 u94 u95 u96 u97 u98 u99 u100 u101 u102 u103 u104 u105 u106 u107 u108 u109 u110 u111 u112 u113 u114 u115 u116 u117 u118 u119 u120 u121 u122 u123 u124 u125 u126 u127 u128 u129 u130 u131 u132 u133 u134 u135 u136 u137 u138 u139 u140 u141 u142 u143 : Value} {Q : Exit → Act → World → Prop} (hQ : ∀ c (a : Act) d v W, Q (.panic c) (a.put d v) W → Q (.panic c) a W)
    (h : ∀ (W : World), PH b mb mk D L w W → Q .normal ⟨(List.toArray (.slice (some ⟨lb, off, none⟩) len cap :: u1 :: u2 :: u3 :: u4 :: u5 :: u6 :: .pointer (some ⟨b, 0, none⟩) :: .pointer (some ⟨mk, 0, none⟩) :: u9 :: .int .i64 (i : Int) :: u11 :: u12 :: u13 :: u14 :: u15 :: u16 :: u17 :: u18 :: u19 :: u20 :: u21 :: u22 :: u23 :: u24 :: u25 :: u26 :: u27 :: u28 :: u29 :: u30 :: u31 :: u32 :: u33 :: u34 :: u35 :: u36 :: u37 :: u38 :: u39 :: u40 :: u41 :: u42 :: u43 :: u44 :: u45 :: u46 :: u47 :: u48 :: u49 :: u50 :: u51 :: u52 :: u53 :: u54 :: u55 :: u56 :: u57 :: u58 :: u59 :: u60 :: u61 :: u62 :: u63 :: u64 :: u65 :: u66 :: u67 :: u68 :: u69 :: u70 :: u71 :: u72 :: u73 :: u74 :: u75 :: u76 :: u77 :: u78 :: u79 :: u80 :: u81 :: u82 :: u83 :: u84 :: u85 :: u86 :: u87 :: .pointer (some ⟨b, 0, none⟩) :: .slice (some ⟨lb, off, none⟩) len cap :: .int .i64 (i : Int) :: .pointer (some ⟨lb, off + i * 23, none⟩) :: .pointer (some ⟨lb, off + i * 23 + 1, none⟩) :: .pointer (some ⟨lb, off + i * 23 + 1, none⟩) :: .pointer (some ⟨lb, off + i * 23 + 1, none⟩) :: .agg (adrCells a) :: .bool (hasR L a) :: .pointer (some ⟨mk, 0, none⟩) :: .slice (some ⟨lb, off, none⟩) len cap :: .int .i64 (i : Int) :: .pointer (some ⟨lb, off + i * 23, none⟩) :: .pointer (some ⟨lb, off + i * 23 + 1, none⟩) :: .pointer (some ⟨lb, off + i * 23 + 1, none⟩) :: .pointer (some ⟨lb, off + i * 23 + 1, none⟩) :: .agg (adrCells a) :: .bool (hasR L a) :: .bool false :: u107 :: u108 :: u109 :: u110 :: u111 :: u112 :: u113 :: u114 :: u115 :: u116 :: u117 :: u118 :: u119 :: u120 :: u121 :: u122 :: u123 :: u124 :: u125 :: u126 :: u127 :: u128 :: u129 :: u130 :: u131 :: u132 :: u133 :: u134 :: u135 :: u136 :: u137 :: u138 :: u139 :: u140 :: u141 :: u142 :: u143 :: [])), []⟩ W) : (codeAt [1,1,1,1,1,0,1,0,0,1,0,0,1,1,0] (Try.f5.body.getD .skip)).wp Try.prog Q ⟨(List.toArray (.slice (some ⟨lb, off, none⟩) len cap :: u1 :: u2 :: u3 :: u4 :: u5 :: u6 :: .pointer (some ⟨b, 0, none⟩) :: .pointer (some ⟨mk, 0, none⟩) :: u9 :: .int .i64 (i : Int) :: u11 :: u12 :: u13 :: u14 :: u15 :: u16 :: u17 :: u18 :: u19 :: u20 :: u21 :: u22 :: u23 :: u24 :: u25 :: u26 :: u27 :: u28 :: u29 :: u30 :: u31 :: u32 :: u33 :: u34 :: u35 :: u36 :: u37 :: u38 :: u39 :: u40 :: u41 :: u42 :: u43 :: u44 :: u45 :: u46 :: u47 :: u48 :: u49 :: u50 :: u51 :: u52 :: u53 :: u54 :: u55 :: u56 :: u57 :: u58 :: u59 :: u60 :: u61 :: u62 :: u63 :: u64 :: u65 :: u66 :: u67 :: u68 :: u69 :: u70 :: u71 :: u72 :: u73 :: u74 :: u75 :: u76 :: u77 :: u78 :: u79 :: u80 :: u81 :: u82 :: u83 :: u84 :: u85 :: u86 :: u87 :: u88 :: u89 :: u90 :: u91 :: u92 :: u93 :: u94 :: u95 :: u96 :: u97 :: u98 :: u99 :: u100 :: u101 :: u102 :: u103 :: u104 :: u105 :: u106 :: u107 :: u108 :: u109 :: u110 :: u111 :: u112 :: u113 :: u114 :: u115 :: u116 :: u117 :: u118 :: u119 :: u120 :: u121 :: u122 :: u123 :: u124 :: u125 :: u126 :: u127 :: u128 :: u129 :: u130 :: u131 :: u132 :: u133 :: u134 :: u135 :: u136 :: u137 :: u138 :: u139 :: u140 :: u141 :: u142 :: u143 :: [])), []⟩ w1 := by
    have hL : ∀ W, Below w.heap.size w W → W.rangeAt lb (off + i * 23 + 1) (adrL a) := fun W hW => range_below hr hW hlb
    have hi1 : ¬ ((len : Int) ≤ i) := by omega
    have hi2 : (i : Int) < len := by omega
    clear hr hl
    have H0 := Lib.hid (H.step (Below.refl _ _).drew)
    conv in codeAt _ _ => whnf
    refine wp_region_held_drew (S := fun W => Below w.heap.size w W) (by kernel_rfl) H0.out.B.below ?_
    clear H
    intro HS
    refine wpAnyH_take (i := 0) (v := .pointer (some ⟨b, 0, none⟩)) rfl (by kernel_rfl) (by kernel_rfl) (by kernel_rfl) (fun c x W h => hQ c _ _ _ W h) (Or.inl ⟨by rfl, fun W hW => by go_simp⟩) HS ?_
    try simp only [List.getElem_toArray, List.getElem_cons_zero, List.getElem_cons_succ, Act.put, List.setIfInBounds_toArray, List.set_cons_zero, List.set_cons_succ]
    refine wpAnyH_take (i := 1) (v := .slice (some ⟨lb, off, none⟩) len cap) rfl (by kernel_rfl) (by kernel_rfl) (by kernel_rfl) (fun c x W h => hQ c _ _ _ W h) (Or.inl ⟨by rfl, fun W hW => by go_simp⟩) HS ?_
    try simp only [List.getElem_toArray, List.getElem_cons_zero, List.getElem_cons_succ, Act.put, List.setIfInBounds_toArray, List.set_cons_zero, List.set_cons_succ]
    refine wpAnyH_take (i := 2) (v := .int .i64 (i : Int)) rfl (by kernel_rfl) (by kernel_rfl) (by kernel_rfl) (fun c x W h => hQ c _ _ _ W h) (Or.inl ⟨by rfl, fun W hW => by go_simp⟩) HS ?_
    try simp only [List.getElem_toArray, List.getElem_cons_zero, List.getElem_cons_succ, Act.put, List.setIfInBounds_toArray, List.set_cons_zero, List.set_cons_succ]
    refine wpAnyH_take (i := 3) (v := .pointer (some ⟨lb, off + i * 23, none⟩)) rfl (by kernel_rfl) (by kernel_rfl) (by kernel_rfl) (fun c x W h => hQ c _ _ _ W h) (Or.inl ⟨by rfl, fun W hW => by go_simp⟩) HS ?_
    try simp only [List.getElem_toArray, List.getElem_cons_zero, List.getElem_cons_succ, Act.put, List.setIfInBounds_toArray, List.set_cons_zero, List.set_cons_succ]
    refine wpAnyH_take (i := 4) (v := .pointer (some ⟨lb, off + i * 23 + 1, none⟩)) rfl (by kernel_rfl) (by kernel_rfl) (by kernel_rfl) (fun c x W h => hQ c _ _ _ W h) (Or.inl ⟨by rfl, fun W hW => by go_simp⟩) HS ?_
    try simp only [List.getElem_toArray, List.getElem_cons_zero, List.getElem_cons_succ, Act.put, List.setIfInBounds_toArray, List.set_cons_zero, List.set_cons_succ]
    refine wpAnyH_take (i := 5) (v := .pointer (some ⟨lb, off + i * 23 + 1, none⟩)) rfl (by kernel_rfl) (by kernel_rfl) (by kernel_rfl) (fun c x W h => hQ c _ _ _ W h) (Or.inl ⟨by rfl, fun W hW => by go_simp⟩) HS ?_
    try simp only [List.getElem_toArray, List.getElem_cons_zero, List.getElem_cons_succ, Act.put, List.setIfInBounds_toArray, List.set_cons_zero, List.set_cons_succ]
    refine wpAnyH_take (i := 6) (v := .pointer (some ⟨lb, off + i * 23 + 1, none⟩)) rfl (by kernel_rfl) (by kernel_rfl) (by kernel_rfl) (fun c x W h => hQ c _ _ _ W h) (Or.inl ⟨by rfl, fun W hW => by go_simp⟩) HS ?_
    try simp only [List.getElem_toArray, List.getElem_cons_zero, List.getElem_cons_succ, Act.put, List.setIfInBounds_toArray, List.set_cons_zero, List.set_cons_succ]
    refine wpAnyH_take (i := 7) (v := .agg (adrCells a)) rfl (by kernel_rfl) (by kernel_rfl) (by kernel_rfl) (fun c x W h => hQ c _ _ _ W h) (by refine yieldsIf_load_mid ?_ 23 (.tmp 94) rfl lb (off + i * 23 + 1) ?_ (adrL a) _ (fun W hW => hL W hW) Try.underlying23 rfl (info23 _); (kernel_rfl); (go_simp)) HS ?_
    try simp only [List.getElem_toArray, List.getElem_cons_zero, List.getElem_cons_succ, Act.put, List.setIfInBounds_toArray, List.set_cons_zero, List.set_cons_succ]
    refine wpAnyH_take (i := 9) (v := .pointer (some ⟨mk, 0, none⟩)) rfl (by kernel_rfl) (by kernel_rfl) (by kernel_rfl) (fun c x W h => hQ c _ _ _ W h) (Or.inl ⟨by rfl, fun W hW => by go_simp⟩) HS ?_
    try simp only [List.getElem_toArray, List.getElem_cons_zero, List.getElem_cons_succ, Act.put, List.setIfInBounds_toArray, List.set_cons_zero, List.set_cons_succ]
    refine wpAnyH_take (i := 10) (v := .slice (some ⟨lb, off, none⟩) len cap) rfl (by kernel_rfl) (by kernel_rfl) (by kernel_rfl) (fun c x W h => hQ c _ _ _ W h) (Or.inl ⟨by rfl, fun W hW => by go_simp⟩) HS ?_
    try simp only [List.getElem_toArray, List.getElem_cons_zero, List.getElem_cons_succ, Act.put, List.setIfInBounds_toArray, List.set_cons_zero, List.set_cons_succ]
    refine wpAnyH_take (i := 11) (v := .int .i64 (i : Int)) rfl (by kernel_rfl) (by kernel_rfl) (by kernel_rfl) (fun c x W h => hQ c _ _ _ W h) (Or.inl ⟨by rfl, fun W hW => by go_simp⟩) HS ?_
    try simp only [List.getElem_toArray, List.getElem_cons_zero, List.getElem_cons_succ, Act.put, List.setIfInBounds_toArray, List.set_cons_zero, List.set_cons_succ]
    refine wpAnyH_take (i := 12) (v := .pointer (some ⟨lb, off + i * 23, none⟩)) rfl (by kernel_rfl) (by kernel_rfl) (by kernel_rfl) (fun c x W h => hQ c _ _ _ W h) (Or.inl ⟨by rfl, fun W hW => by go_simp⟩) HS ?_
    try simp only [List.getElem_toArray, List.getElem_cons_zero, List.getElem_cons_succ, Act.put, List.setIfInBounds_toArray, List.set_cons_zero, List.set_cons_succ]
    refine wpAnyH_take (i := 13) (v := .pointer (some ⟨lb, off + i * 23 + 1, none⟩)) rfl (by kernel_rfl) (by kernel_rfl) (by kernel_rfl) (fun c x W h => hQ c _ _ _ W h) (Or.inl ⟨by rfl, fun W hW => by go_simp⟩) HS ?_
    try simp only [List.getElem_toArray, List.getElem_cons_zero, List.getElem_cons_succ, Act.put, List.setIfInBounds_toArray, List.set_cons_zero, List.set_cons_succ]
    refine wpAnyH_take (i := 14) (v := .pointer (some ⟨lb, off + i * 23 + 1, none⟩)) rfl (by kernel_rfl) (by kernel_rfl) (by kernel_rfl) (fun c x W h => hQ c _ _ _ W h) (Or.inl ⟨by rfl, fun W hW => by go_simp⟩) HS ?_
    try simp only [List.getElem_toArray, List.getElem_cons_zero, List.getElem_cons_succ, Act.put, List.setIfInBounds_toArray, List.set_cons_zero, List.set_cons_succ]
    refine wpAnyH_take (i := 15) (v := .pointer (some ⟨lb, off + i * 23 + 1, none⟩)) rfl (by kernel_rfl) (by kernel_rfl) (by kernel_rfl) (fun c x W h => hQ c _ _ _ W h) (Or.inl ⟨by rfl, fun W hW => by go_simp⟩) HS ?_
    try simp only [List.getElem_toArray, List.getElem_cons_zero, List.getElem_cons_succ, Act.put, List.setIfInBounds_toArray, List.set_cons_zero, List.set_cons_succ]
    refine wpAnyH_take (i := 16) (v := .agg (adrCells a)) rfl (by kernel_rfl) (by kernel_rfl) (by kernel_rfl) (fun c x W h => hQ c _ _ _ W h) (by refine yieldsIf_load_mid ?_ 23 (.tmp 103) rfl lb (off + i * 23 + 1) ?_ (adrL a) _ (fun W hW => hL W hW) Try.underlying23 rfl (info23 _); (kernel_rfl); (go_simp)) HS ?_
    try simp only [List.getElem_toArray, List.getElem_cons_zero, List.getElem_cons_succ, Act.put, List.setIfInBounds_toArray, List.set_cons_zero, List.set_cons_succ]
    refine wpAnyH_ready (rs := [8]) (by kernel_rfl) (by simp) ?_
    refine AllReadyH.cons rfl (fun K hK => ?_) AllReadyH.nil
    rw [if_pos (by kernel_rfl)]
    simp only [List.getElem_toArray, List.getElem_cons_zero, List.getElem_cons_succ]
    go_simp
    refine (has_any a b mb D _ ha H0.out.B.hb H0.out.B.map H0.out.ok).mono ?_
    rw [rel_has H0.out.rel H0.out.ok ha]
    rintro e7 w7 ⟨rfl, b7⟩
    have H7 := Lib.hid (H0.out.step b7)
    refine hK.out _ _ H7.out.B.below (fun HS => ?_)
    clear hK b7
    try simp only [List.getElem_toArray, List.getElem_cons_zero, List.getElem_cons_succ, Act.put, List.setIfInBounds_toArray, List.set_cons_zero, List.set_cons_succ]
    refine wpAnyH_ready (rs := [17]) (by kernel_rfl) (by simp) ?_
    refine AllReadyH.cons rfl (fun K hK => ?_) AllReadyH.nil
    rw [if_pos (by kernel_rfl)]
    simp only [List.getElem_toArray, List.getElem_cons_zero, List.getElem_cons_succ]
    go_simp
    obtain ⟨p8, cap8, hV8⟩ := H7.out.R
    refine (has18 hV8 a ha H7.out.len).mono ?_
    rintro e8 w8 ⟨rfl, b8⟩
    have H8 := Lib.hid (H7.out.step b8)
    refine hK.out _ _ H8.out.B.below (fun HS => ?_)
    clear hK b8 hV8
    try simp only [List.getElem_toArray, List.getElem_cons_zero, List.getElem_cons_succ, Act.put, List.setIfInBounds_toArray, List.set_cons_zero, List.set_cons_succ]
    refine wpAnyH_take (i := 18) (v := .bool false) rfl (by kernel_rfl) (by kernel_rfl) (by kernel_rfl) (fun c x W h => hQ c _ _ _ W h) (Or.inl ⟨by rfl, fun W hW => by go_simp⟩) HS ?_
    try simp only [List.getElem_toArray, List.getElem_cons_zero, List.getElem_cons_succ, Act.put, List.setIfInBounds_toArray, List.set_cons_zero, List.set_cons_succ]
    refine wpAnyH_done (by kernel_rfl) ?_ _
    exact act_eq (by kernel_rfl) (h _ H8.out)
set_option maxRecDepth 100000 in
set_option maxHeartbeats 20000000 in
theorem reg17 {b mb mk : Nat} {D : PD} {L : List Ent} {w w1 : World} {lb off len cap i : Nat} {a : Nat → Nat} (H : PH b mb mk D L w w1) (ha : ∀ i, i < 16 → a i < 256) (hi : i < len) (hl : len ≤ 50) (hlb : lb < w.heap.size) (hr : w.rangeAt lb (off + i * 16) (adrL a))
    {u0 u1 u3 u4 u5 u6 u9 u10 u12 u13 u14 u15 u16 u17 u18 u19 u20 u21 u22 u23 u24 u25 u26 u27 u28 u29 u30 u31 u32 u33 u34 u35 u36 u37 u38 u39 u40 u41 u42 u43 u44 u45 u46 u47 u48 u49 u50 u51 u52 u53 u54 u55 u56 u57 u58 u59 u60 u61 u62 u63 u64 u65 u66 u67 u68 u69 u70 u71 u72 u73 u74 u75 u76 u77 u78 u79 u80 u81 u82 u83 u84 u85 u86 u87 u88 u89 u90 u91 u92 u93 u94 u95 u96 u97 u98 u99 u100 u101 u102 u103 u104 u105 u106 u107 u108 u109 u110 u111 u112 u113 u114 u115 u116 u117 u118 u119 u120 u121 u122 u123 u124 u125 u126 u127 u128 u129 u130 u131 u132 u133 u134 u135 u136 u137 u138 u139 u140 u141 u142 u143 : Value} {Q : Exit → Act → World → Prop} (hQ : ∀ c (a : Act) d v W, Q (.panic c) (a.put d v) W → Q (.panic c) a W)
    (h : ∀ (W : World), PH b mb mk D L w W → Q .normal ⟨(List.toArray (u0 :: u1 :: .slice (some ⟨lb, off, none⟩) len cap :: u3 :: u4 :: u5 :: u6 :: .pointer (some ⟨b, 0, none⟩) :: .pointer (some ⟨mk, 0, none⟩) :: u9 :: u10 :: .int .i64 (i : Int) :: u12 :: u13 :: u14 :: u15 :: u16 :: u17 :: u18 :: u19 :: u20 :: u21 :: u22 :: u23 :: u24 :: u25 :: u26 :: u27 :: u28 :: u29 :: u30 :: u31 :: u32 :: u33 :: u34 :: u35 :: u36 :: u37 :: u38 :: u39 :: u40 :: u41 :: u42 :: u43 :: u44 :: u45 :: u46 :: u47 :: u48 :: u49 :: u50 :: u51 :: u52 :: u53 :: u54 :: u55 :: u56 :: u57 :: u58 :: u59 :: u60 :: u61 :: u62 :: u63 :: u64 :: u65 :: u66 :: u67 :: u68 :: u69 :: u70 :: u71 :: u72 :: u73 :: u74 :: u75 :: u76 :: u77 :: u78 :: u79 :: u80 :: u81 :: u82 :: u83 :: u84 :: u85 :: u86 :: u87 :: u88 :: u89 :: u90 :: u91 :: u92 :: u93 :: u94 :: u95 :: u96 :: u97 :: u98 :: u99 :: u100 :: u101 :: u102 :: u103 :: u104 :: u105 :: u106 :: u107 :: u108 :: u109 :: u110 :: u111 :: u112 :: .pointer (some ⟨b, 0, none⟩) :: .slice (some ⟨lb, off, none⟩) len cap :: .int .i64 (i : Int) :: .pointer (some ⟨lb, off + i * 16, none⟩) :: .agg (adrCells a) :: .bool (hasR L a) :: .pointer (some ⟨mk, 0, none⟩) :: .slice (some ⟨lb, off, none⟩) len cap :: .int .i64 (i : Int) :: .pointer (some ⟨lb, off + i * 16, none⟩) :: .agg (adrCells a) :: .bool (hasR L a) :: .bool false :: u126 :: u127 :: u128 :: u129 :: u130 :: u131 :: u132 :: u133 :: u134 :: u135 :: u136 :: u137 :: u138 :: u139 :: u140 :: u141 :: u142 :: u143 :: [])), []⟩ W) : (codeAt [1,1,1,1,1,1,0,1,0,0,1,0,0,0] (Try.f5.body.getD .skip)).wp Try.prog Q ⟨(List.toArray (u0 :: u1 :: .slice (some ⟨lb, off, none⟩) len cap :: u3 :: u4 :: u5 :: u6 :: .pointer (some ⟨b, 0, none⟩) :: .pointer (some ⟨mk, 0, none⟩) :: u9 :: u10 :: .int .i64 (i : Int) :: u12 :: u13 :: u14 :: u15 :: u16 :: u17 :: u18 :: u19 :: u20 :: u21 :: u22 :: u23 :: u24 :: u25 :: u26 :: u27 :: u28 :: u29 :: u30 :: u31 :: u32 :: u33 :: u34 :: u35 :: u36 :: u37 :: u38 :: u39 :: u40 :: u41 :: u42 :: u43 :: u44 :: u45 :: u46 :: u47 :: u48 :: u49 :: u50 :: u51 :: u52 :: u53 :: u54 :: u55 :: u56 :: u57 :: u58 :: u59 :: u60 :: u61 :: u62 :: u63 :: u64 :: u65 :: u66 :: u67 :: u68 :: u69 :: u70 :: u71 :: u72 :: u73 :: u74 :: u75 :: u76 :: u77 :: u78 :: u79 :: u80 :: u81 :: u82 :: u83 :: u84 :: u85 :: u86 :: u87 :: u88 :: u89 :: u90 :: u91 :: u92 :: u93 :: u94 :: u95 :: u96 :: u97 :: u98 :: u99 :: u100 :: u101 :: u102 :: u103 :: u104 :: u105 :: u106 :: u107 :: u108 :: u109 :: u110 :: u111 :: u112 :: u113 :: u114 :: u115 :: u116 :: u117 :: u118 :: u119 :: u120 :: u121 :: u122 :: u123 :: u124 :: u125 :: u126 :: u127 :: u128 :: u129 :: u130 :: u131 :: u132 :: u133 :: u134 :: u135 :: u136 :: u137 :: u138 :: u139 :: u140 :: u141 :: u142 :: u143 :: [])), []⟩ w1 := by
    have hL : ∀ W, Below w.heap.size w W → W.rangeAt lb (off + i * 16) (adrL a) := fun W hW => range_below hr hW hlb
    have hi1 : ¬ ((len : Int) ≤ i) := by omega
    have hi2 : (i : Int) < len := by omega
    clear hr hl
    have H0 := Lib.hid (H.step (Below.refl _ _).drew)
    conv in codeAt _ _ => whnf
    refine wp_region_held_drew (S := fun W => Below w.heap.size w W) (by kernel_rfl) H0.out.B.below ?_
    clear H
    intro HS
    refine wpAnyH_take (i := 0) (v := .pointer (some ⟨b, 0, none⟩)) rfl (by kernel_rfl) (by kernel_rfl) (by kernel_rfl) (fun c x W h => hQ c _ _ _ W h) (Or.inl ⟨by rfl, fun W hW => by go_simp⟩) HS ?_
    try simp only [List.getElem_toArray, List.getElem_cons_zero, List.getElem_cons_succ, Act.put, List.setIfInBounds_toArray, List.set_cons_zero, List.set_cons_succ]
    refine wpAnyH_take (i := 1) (v := .slice (some ⟨lb, off, none⟩) len cap) rfl (by kernel_rfl) (by kernel_rfl) (by kernel_rfl) (fun c x W h => hQ c _ _ _ W h) (Or.inl ⟨by rfl, fun W hW => by go_simp⟩) HS ?_
    try simp only [List.getElem_toArray, List.getElem_cons_zero, List.getElem_cons_succ, Act.put, List.setIfInBounds_toArray, List.set_cons_zero, List.set_cons_succ]
    refine wpAnyH_take (i := 2) (v := .int .i64 (i : Int)) rfl (by kernel_rfl) (by kernel_rfl) (by kernel_rfl) (fun c x W h => hQ c _ _ _ W h) (Or.inl ⟨by rfl, fun W hW => by go_simp⟩) HS ?_
    try simp only [List.getElem_toArray, List.getElem_cons_zero, List.getElem_cons_succ, Act.put, List.setIfInBounds_toArray, List.set_cons_zero, List.set_cons_succ]
    refine wpAnyH_take (i := 3) (v := .pointer (some ⟨lb, off + i * 16, none⟩)) rfl (by kernel_rfl) (by kernel_rfl) (by kernel_rfl) (fun c x W h => hQ c _ _ _ W h) (Or.inl ⟨by rfl, fun W hW => by go_simp⟩) HS ?_
    try simp only [List.getElem_toArray, List.getElem_cons_zero, List.getElem_cons_succ, Act.put, List.setIfInBounds_toArray, List.set_cons_zero, List.set_cons_succ]
    refine wpAnyH_take (i := 4) (v := .agg (adrCells a)) rfl (by kernel_rfl) (by kernel_rfl) (by kernel_rfl) (fun c x W h => hQ c _ _ _ W h) (by refine yieldsIf_load_mid ?_ 23 (.tmp 116) rfl lb (off + i * 16) ?_ (adrL a) _ (fun W hW => hL W hW) Try.underlying23 rfl (info23 _); (kernel_rfl); (go_simp)) HS ?_
    try simp only [List.getElem_toArray, List.getElem_cons_zero, List.getElem_cons_succ, Act.put, List.setIfInBounds_toArray, List.set_cons_zero, List.set_cons_succ]
    refine wpAnyH_take (i := 6) (v := .pointer (some ⟨mk, 0, none⟩)) rfl (by kernel_rfl) (by kernel_rfl) (by kernel_rfl) (fun c x W h => hQ c _ _ _ W h) (Or.inl ⟨by rfl, fun W hW => by go_simp⟩) HS ?_
    try simp only [List.getElem_toArray, List.getElem_cons_zero, List.getElem_cons_succ, Act.put, List.setIfInBounds_toArray, List.set_cons_zero, List.set_cons_succ]
    refine wpAnyH_take (i := 7) (v := .slice (some ⟨lb, off, none⟩) len cap) rfl (by kernel_rfl) (by kernel_rfl) (by kernel_rfl) (fun c x W h => hQ c _ _ _ W h) (Or.inl ⟨by rfl, fun W hW => by go_simp⟩) HS ?_
    try simp only [List.getElem_toArray, List.getElem_cons_zero, List.getElem_cons_succ, Act.put, List.setIfInBounds_toArray, List.set_cons_zero, List.set_cons_succ]
    refine wpAnyH_take (i := 8) (v := .int .i64 (i : Int)) rfl (by kernel_rfl) (by kernel_rfl) (by kernel_rfl) (fun c x W h => hQ c _ _ _ W h) (Or.inl ⟨by rfl, fun W hW => by go_simp⟩) HS ?_
    try simp only [List.getElem_toArray, List.getElem_cons_zero, List.getElem_cons_succ, Act.put, List.setIfInBounds_toArray, List.set_cons_zero, List.set_cons_succ]
    refine wpAnyH_take (i := 9) (v := .pointer (some ⟨lb, off + i * 16, none⟩)) rfl (by kernel_rfl) (by kernel_rfl) (by kernel_rfl) (fun c x W h => hQ c _ _ _ W h) (Or.inl ⟨by rfl, fun W hW => by go_simp⟩) HS ?_
    try simp only [List.getElem_toArray, List.getElem_cons_zero, List.getElem_cons_succ, Act.put, List.setIfInBounds_toArray, List.set_cons_zero, List.set_cons_succ]
    refine wpAnyH_take (i := 10) (v := .agg (adrCells a)) rfl (by kernel_rfl) (by kernel_rfl) (by kernel_rfl) (fun c x W h => hQ c _ _ _ W h) (by refine yieldsIf_load_mid ?_ 23 (.tmp 122) rfl lb (off + i * 16) ?_ (adrL a) _ (fun W hW => hL W hW) Try.underlying23 rfl (info23 _); (kernel_rfl); (go_simp)) HS ?_
    try simp only [List.getElem_toArray, List.getElem_cons_zero, List.getElem_cons_succ, Act.put, List.setIfInBounds_toArray, List.set_cons_zero, List.set_cons_succ]
    refine wpAnyH_ready (rs := [5]) (by kernel_rfl) (by simp) ?_
    refine AllReadyH.cons rfl (fun K hK => ?_) AllReadyH.nil
    rw [if_pos (by kernel_rfl)]
    simp only [List.getElem_toArray, List.getElem_cons_zero, List.getElem_cons_succ]
    go_simp
    refine (has_any a b mb D _ ha H0.out.B.hb H0.out.B.map H0.out.ok).mono ?_
    rw [rel_has H0.out.rel H0.out.ok ha]
    rintro e7 w7 ⟨rfl, b7⟩
    have H7 := Lib.hid (H0.out.step b7)
    refine hK.out _ _ H7.out.B.below (fun HS => ?_)
    clear hK b7
    try simp only [List.getElem_toArray, List.getElem_cons_zero, List.getElem_cons_succ, Act.put, List.setIfInBounds_toArray, List.set_cons_zero, List.set_cons_succ]
    refine wpAnyH_ready (rs := [11]) (by kernel_rfl) (by simp) ?_
    refine AllReadyH.cons rfl (fun K hK => ?_) AllReadyH.nil
    rw [if_pos (by kernel_rfl)]
    simp only [List.getElem_toArray, List.getElem_cons_zero, List.getElem_cons_succ]
    go_simp
    obtain ⟨p8, cap8, hV8⟩ := H7.out.R
    refine (has18 hV8 a ha H7.out.len).mono ?_
    rintro e8 w8 ⟨rfl, b8⟩
    have H8 := Lib.hid (H7.out.step b8)
    refine hK.out _ _ H8.out.B.below (fun HS => ?_)
    clear hK b8 hV8
    try simp only [List.getElem_toArray, List.getElem_cons_zero, List.getElem_cons_succ, Act.put, List.setIfInBounds_toArray, List.set_cons_zero, List.set_cons_succ]
    refine wpAnyH_take (i := 12) (v := .bool false) rfl (by kernel_rfl) (by kernel_rfl) (by kernel_rfl) (fun c x W h => hQ c _ _ _ W h) (Or.inl ⟨by rfl, fun W hW => by go_simp⟩) HS ?_
    try simp only [List.getElem_toArray, List.getElem_cons_zero, List.getElem_cons_succ, Act.put, List.setIfInBounds_toArray, List.set_cons_zero, List.set_cons_succ]
    refine wpAnyH_done (by kernel_rfl) ?_ _
    exact act_eq (by kernel_rfl) (h _ H8.out)
end Go.Proofs.Ytkhbchgocilclaa
