/- The test of another prefix: whether it is another one. No condition. -/
import Derived.Test.YtkhbchgocilclaaBitset
import Derived.Outline
import Derived.Deep.RegionHeld3
namespace Go.Proofs.Ytkhbchgocilclaa
open Go.RowKit
set_option linter.unusedVariables false
set_option linter.unusedSimpArgs false
def codeAt : List Nat → Code → Code
  | [], c => c
  | 0 :: p, .seq a _ => codeAt p a
  | 1 :: p, .seq _ b => codeAt p b
  | 0 :: p, .cond _ a _ => codeAt p a
  | 1 :: p, .cond _ _ b => codeAt p b
  | 0 :: p, .block _ c => codeAt p c
  | 0 :: p, .loop c => codeAt p c
  | 0 :: p, .scope c => codeAt p c
  | _, c => c
theorem act_eq {Q : Exit → Act → World → Prop} {e : Exit} {a b : Act} {W : World} (h : a = b) (k : Q e b W) : Q e a W := h ▸ k
theorem seen_p {w : World} {B : Nat} {a : Nat → Nat} {n : Nat} (h : w.heap[B]? = some (.cells (preCells a n) 25 (0, 0))) : w.cell? ⟨B, 16, none⟩ = some (.int .u8 (n : Int)) := by rw [cell_blk h]; exact preCells_last _ _
/-- what the test reads -/
structure Seen (S : World → Prop) (PB B1 : Nat) (oa ia : Nat → Nat) (on ni : Nat) : Prop where
  step : ∀ W W', S W → Below W.heap.size W W' → S W'
  p : ∀ W, S W → W.heap[PB]? = some (.cells (preCells oa on) 25 (0, 0))
  c : ∀ W, S W → W.cell? ⟨B1, 16, none⟩ = some (.int .u8 (ni : Int))
  r : ∀ W, S W → W.rangeAt B1 0 (adrL ia)
set_option maxRecDepth 100000 in
set_option maxHeartbeats 20000000 in
theorem reg21_diff {S : World → Prop} {PB B1 : Nat} {oa ia : Nat → Nat} {on ni : Nat} (hs : Seen S PB B1 oa ia on ni) {u0 u1 u2 u4 u5 u6 u7 u8 u9 u10 u11 u12 u14 u15 u16 u17 u18 u19 u20 u21 u22 u23 u24 u25 u26 u27 u28 u29 u30 u31 u32 u33 u34 u35 u36 u37 u38 u39 u40 u41 u42 u43 u44 u45 u46 u47 u48 u49 u50 u51 u52 u53 u54 u55 u56 u57 u58 u59 u60 u61 u62 u63 u64 u65 u66 u67 u68 u69 u70 u71 u72 u73 u74 u75 u76 u77 u78 u79 u80 u81 u82 u83 u84 u85 u86 u87 u88 u89 u90 u91 u92 u93 u94 u95 u96 u97 u98 u99 u100 u101 u102 u103 u104 u105 u106 u107 u108 u109 u110 u111 u112 u113 u114 u115 u116 u117 u118 u119 u120 u121 u122 u123 u124 u125 u126 u127 u128 u129 u130 u131 u132 u133 u134 u135 u136 u137 u138 u139 u140 u141 u142 u143 u144 u145 u146 u147 u148 u149 u150 u151 u152 u153 u154 u155 u156 u157 u158 : Value} {w : World} {Q : Exit → Act → World → Prop} (hQ : ∀ c a a' W, Q (.panic c) a W → Q (.panic c) a' W) (hS : S w.drew) (hne : on ≠ ni)
    (h : ∀ (W : World), S W → Q .normal ⟨(List.toArray (u0 :: u1 :: u2 :: .pointer (some ⟨B1, 0, none⟩) :: u4 :: u5 :: u6 :: u7 :: u8 :: u9 :: u10 :: u11 :: u12 :: .pointer (some ⟨PB, 0, none⟩) :: u14 :: u15 :: u16 :: u17 :: u18 :: u19 :: u20 :: u21 :: u22 :: u23 :: u24 :: u25 :: u26 :: u27 :: u28 :: u29 :: u30 :: u31 :: u32 :: u33 :: u34 :: u35 :: u36 :: u37 :: u38 :: u39 :: u40 :: u41 :: u42 :: u43 :: u44 :: u45 :: u46 :: u47 :: u48 :: u49 :: u50 :: u51 :: u52 :: u53 :: u54 :: u55 :: u56 :: u57 :: u58 :: u59 :: u60 :: u61 :: u62 :: u63 :: u64 :: u65 :: u66 :: u67 :: u68 :: u69 :: u70 :: u71 :: u72 :: u73 :: u74 :: u75 :: u76 :: u77 :: u78 :: u79 :: u80 :: u81 :: u82 :: u83 :: u84 :: u85 :: u86 :: u87 :: u88 :: u89 :: u90 :: u91 :: u92 :: u93 :: u94 :: u95 :: u96 :: u97 :: u98 :: u99 :: .pointer (some ⟨PB, 16, none⟩) :: .int .u8 (on : Int) :: .pointer (some ⟨B1, 0, none⟩) :: .pointer (some ⟨B1, 16, none⟩) :: .int .u8 (ni : Int) :: .bool true :: .bool true :: undef :: undef :: undef :: undef :: undef :: undef :: undef :: undef :: undef :: undef :: undef :: undef :: .bool true :: u120 :: u121 :: u122 :: u123 :: u124 :: u125 :: u126 :: u127 :: u128 :: u129 :: u130 :: u131 :: u132 :: u133 :: u134 :: u135 :: u136 :: u137 :: u138 :: u139 :: u140 :: u141 :: u142 :: u143 :: u144 :: u145 :: u146 :: u147 :: u148 :: u149 :: u150 :: u151 :: u152 :: u153 :: u154 :: u155 :: u156 :: u157 :: u158 :: [])), []⟩ W) : (codeAt [1,1,1,1,1,1,1,0,1,0,0,1,0,0,1,0] (Try.f3.body.getD .skip)).wp Try.prog Q ⟨(List.toArray (u0 :: u1 :: u2 :: .pointer (some ⟨B1, 0, none⟩) :: u4 :: u5 :: u6 :: u7 :: u8 :: u9 :: u10 :: u11 :: u12 :: .pointer (some ⟨PB, 0, none⟩) :: u14 :: u15 :: u16 :: u17 :: u18 :: u19 :: u20 :: u21 :: u22 :: u23 :: u24 :: u25 :: u26 :: u27 :: u28 :: u29 :: u30 :: u31 :: u32 :: u33 :: u34 :: u35 :: u36 :: u37 :: u38 :: u39 :: u40 :: u41 :: u42 :: u43 :: u44 :: u45 :: u46 :: u47 :: u48 :: u49 :: u50 :: u51 :: u52 :: u53 :: u54 :: u55 :: u56 :: u57 :: u58 :: u59 :: u60 :: u61 :: u62 :: u63 :: u64 :: u65 :: u66 :: u67 :: u68 :: u69 :: u70 :: u71 :: u72 :: u73 :: u74 :: u75 :: u76 :: u77 :: u78 :: u79 :: u80 :: u81 :: u82 :: u83 :: u84 :: u85 :: u86 :: u87 :: u88 :: u89 :: u90 :: u91 :: u92 :: u93 :: u94 :: u95 :: u96 :: u97 :: u98 :: u99 :: u100 :: u101 :: u102 :: u103 :: u104 :: u105 :: u106 :: u107 :: u108 :: u109 :: u110 :: u111 :: u112 :: u113 :: u114 :: u115 :: u116 :: u117 :: u118 :: u119 :: u120 :: u121 :: u122 :: u123 :: u124 :: u125 :: u126 :: u127 :: u128 :: u129 :: u130 :: u131 :: u132 :: u133 :: u134 :: u135 :: u136 :: u137 :: u138 :: u139 :: u140 :: u141 :: u142 :: u143 :: u144 :: u145 :: u146 :: u147 :: u148 :: u149 :: u150 :: u151 :: u152 :: u153 :: u154 :: u155 :: u156 :: u157 :: u158 :: [])), []⟩ w := by
    have tn : ((on : Int) != ni) = true := by simp; omega
    conv in codeAt _ _ => whnf
    refine wp_region_held_drew (S := S) (by kernel_rfl) hS ?_
    clear hS
    intro HS
    refine wpAnyH_take (i := 0) (v := .pointer (some ⟨PB, 16, none⟩)) rfl (by kernel_rfl) (by kernel_rfl) (by kernel_rfl) (fun c x W h => hQ c _ _ W h) (Or.inl ⟨by rfl, fun W hW => by go_simp⟩) HS ?_
    try simp only [List.getElem_toArray, List.getElem_cons_zero, List.getElem_cons_succ, Act.put, List.setIfInBounds_toArray, List.set_cons_zero, List.set_cons_succ]
    refine wpAnyH_take (i := 1) (v := .int .u8 (on : Int)) rfl (by kernel_rfl) (by kernel_rfl) (by kernel_rfl) (fun c x W h => hQ c _ _ W h) (Or.inl ⟨by rfl, fun W hW => by have := seen_p (hs.p W hW); go_simp⟩) HS ?_
    try simp only [List.getElem_toArray, List.getElem_cons_zero, List.getElem_cons_succ, Act.put, List.setIfInBounds_toArray, List.set_cons_zero, List.set_cons_succ]
    refine wpAnyH_take (i := 2) (v := .pointer (some ⟨B1, 0, none⟩)) rfl (by kernel_rfl) (by kernel_rfl) (by kernel_rfl) (fun c x W h => hQ c _ _ W h) (Or.inl ⟨by rfl, fun W hW => by go_simp⟩) HS ?_
    try simp only [List.getElem_toArray, List.getElem_cons_zero, List.getElem_cons_succ, Act.put, List.setIfInBounds_toArray, List.set_cons_zero, List.set_cons_succ]
    refine wpAnyH_take (i := 3) (v := .pointer (some ⟨B1, 16, none⟩)) rfl (by kernel_rfl) (by kernel_rfl) (by kernel_rfl) (fun c x W h => hQ c _ _ W h) (Or.inl ⟨by rfl, fun W hW => by go_simp⟩) HS ?_
    try simp only [List.getElem_toArray, List.getElem_cons_zero, List.getElem_cons_succ, Act.put, List.setIfInBounds_toArray, List.set_cons_zero, List.set_cons_succ]
    refine wpAnyH_take (i := 4) (v := .int .u8 (ni : Int)) rfl (by kernel_rfl) (by kernel_rfl) (by kernel_rfl) (fun c x W h => hQ c _ _ W h) (Or.inl ⟨by rfl, fun W hW => by have := hs.c W hW; go_simp⟩) HS ?_
    try simp only [List.getElem_toArray, List.getElem_cons_zero, List.getElem_cons_succ, Act.put, List.setIfInBounds_toArray, List.set_cons_zero, List.set_cons_succ]
    refine wpAnyH_take (i := 5) (v := .bool true) rfl (by kernel_rfl) (by kernel_rfl) (by kernel_rfl) (fun c x W h => hQ c _ _ W h) (Or.inl ⟨by rfl, fun W hW => by go_simp⟩) HS ?_
    try simp only [List.getElem_toArray, List.getElem_cons_zero, List.getElem_cons_succ, Act.put, List.setIfInBounds_toArray, List.set_cons_zero, List.set_cons_succ]
    refine wpAnyH_take (i := 6) (v := .bool true) rfl (by kernel_rfl) (by kernel_rfl) (by kernel_rfl) (fun c x W h => hQ c _ _ W h) (Or.inl ⟨by rfl, fun W hW => by go_simp⟩) HS ?_
    try simp only [List.getElem_toArray, List.getElem_cons_zero, List.getElem_cons_succ, Act.put, List.setIfInBounds_toArray, List.set_cons_zero, List.set_cons_succ]
    refine wpAnyH_take (i := 7) (v := undef) rfl (by kernel_rfl) (by kernel_rfl) (by kernel_rfl) (fun c x W h => hQ c _ _ W h) (Or.inr ⟨by go_simp, rfl⟩) HS ?_
    try simp only [List.getElem_toArray, List.getElem_cons_zero, List.getElem_cons_succ, Act.put, List.setIfInBounds_toArray, List.set_cons_zero, List.set_cons_succ]
    refine wpAnyH_take (i := 8) (v := undef) rfl (by kernel_rfl) (by kernel_rfl) (by kernel_rfl) (fun c x W h => hQ c _ _ W h) (Or.inr ⟨by go_simp, rfl⟩) HS ?_
    try simp only [List.getElem_toArray, List.getElem_cons_zero, List.getElem_cons_succ, Act.put, List.setIfInBounds_toArray, List.set_cons_zero, List.set_cons_succ]
    refine wpAnyH_take (i := 9) (v := undef) rfl (by kernel_rfl) (by kernel_rfl) (by kernel_rfl) (fun c x W h => hQ c _ _ W h) (Or.inr ⟨by go_simp, rfl⟩) HS ?_
    try simp only [List.getElem_toArray, List.getElem_cons_zero, List.getElem_cons_succ, Act.put, List.setIfInBounds_toArray, List.set_cons_zero, List.set_cons_succ]
    refine wpAnyH_take (i := 10) (v := undef) rfl (by kernel_rfl) (by kernel_rfl) (by kernel_rfl) (fun c x W h => hQ c _ _ W h) (Or.inr ⟨by go_simp, rfl⟩) HS ?_
    try simp only [List.getElem_toArray, List.getElem_cons_zero, List.getElem_cons_succ, Act.put, List.setIfInBounds_toArray, List.set_cons_zero, List.set_cons_succ]
    refine wpAnyH_take (i := 11) (v := undef) rfl (by kernel_rfl) (by kernel_rfl) (by kernel_rfl) (fun c x W h => hQ c _ _ W h) (Or.inr ⟨by go_simp, rfl⟩) HS ?_
    try simp only [List.getElem_toArray, List.getElem_cons_zero, List.getElem_cons_succ, Act.put, List.setIfInBounds_toArray, List.set_cons_zero, List.set_cons_succ]
    refine wpAnyH_take (i := 12) (v := undef) rfl (by kernel_rfl) (by kernel_rfl) (by kernel_rfl) (fun c x W h => hQ c _ _ W h) (Or.inr ⟨by go_simp, rfl⟩) HS ?_
    try simp only [List.getElem_toArray, List.getElem_cons_zero, List.getElem_cons_succ, Act.put, List.setIfInBounds_toArray, List.set_cons_zero, List.set_cons_succ]
    refine wpAnyH_take (i := 13) (v := undef) rfl (by kernel_rfl) (by kernel_rfl) (by kernel_rfl) (fun c x W h => hQ c _ _ W h) (Or.inr ⟨by go_simp, rfl⟩) HS ?_
    try simp only [List.getElem_toArray, List.getElem_cons_zero, List.getElem_cons_succ, Act.put, List.setIfInBounds_toArray, List.set_cons_zero, List.set_cons_succ]
    refine wpAnyH_take (i := 14) (v := undef) rfl (by kernel_rfl) (by kernel_rfl) (by kernel_rfl) (fun c x W h => hQ c _ _ W h) (Or.inr ⟨by go_simp, rfl⟩) HS ?_
    try simp only [List.getElem_toArray, List.getElem_cons_zero, List.getElem_cons_succ, Act.put, List.setIfInBounds_toArray, List.set_cons_zero, List.set_cons_succ]
    refine wpAnyH_take (i := 15) (v := undef) rfl (by kernel_rfl) (by kernel_rfl) (by kernel_rfl) (fun c x W h => hQ c _ _ W h) (Or.inr ⟨by go_simp, rfl⟩) HS ?_
    try simp only [List.getElem_toArray, List.getElem_cons_zero, List.getElem_cons_succ, Act.put, List.setIfInBounds_toArray, List.set_cons_zero, List.set_cons_succ]
    refine wpAnyH_take (i := 16) (v := undef) rfl (by kernel_rfl) (by kernel_rfl) (by kernel_rfl) (fun c x W h => hQ c _ _ W h) (Or.inr ⟨by go_simp, rfl⟩) HS ?_
    try simp only [List.getElem_toArray, List.getElem_cons_zero, List.getElem_cons_succ, Act.put, List.setIfInBounds_toArray, List.set_cons_zero, List.set_cons_succ]
    refine wpAnyH_take (i := 17) (v := undef) rfl (by kernel_rfl) (by kernel_rfl) (by kernel_rfl) (fun c x W h => hQ c _ _ W h) (Or.inr ⟨by go_simp, rfl⟩) HS ?_
    try simp only [List.getElem_toArray, List.getElem_cons_zero, List.getElem_cons_succ, Act.put, List.setIfInBounds_toArray, List.set_cons_zero, List.set_cons_succ]
    refine wpAnyH_take (i := 18) (v := undef) rfl (by kernel_rfl) (by kernel_rfl) (by kernel_rfl) (fun c x W h => hQ c _ _ W h) (Or.inr ⟨by go_simp, rfl⟩) HS ?_
    try simp only [List.getElem_toArray, List.getElem_cons_zero, List.getElem_cons_succ, Act.put, List.setIfInBounds_toArray, List.set_cons_zero, List.set_cons_succ]
    refine wpAnyH_take (i := 19) (v := .bool true) rfl (by kernel_rfl) (by kernel_rfl) (by kernel_rfl) (fun c x W h => hQ c _ _ W h) (Or.inl ⟨by rfl, fun W hW => by go_simp⟩) HS ?_
    try simp only [List.getElem_toArray, List.getElem_cons_zero, List.getElem_cons_succ, Act.put, List.setIfInBounds_toArray, List.set_cons_zero, List.set_cons_succ]
    refine wpAnyH_done (by kernel_rfl) ?_ _
    exact act_eq (by kernel_rfl) (h _ HS)
set_option maxRecDepth 100000 in
set_option maxHeartbeats 20000000 in
theorem reg21_same {S : World → Prop} {PB B1 : Nat} {oa ia : Nat → Nat} {on : Nat} (hs : Seen S PB B1 oa ia on on) (ho : ∀ j, j < 16 → oa j < 256) (hi : ∀ j, j < 16 → ia j < 256) (hn : on < 256) {u0 u1 u2 u4 u5 u6 u7 u8 u9 u10 u11 u12 u14 u15 u16 u17 u18 u19 u20 u21 u22 u23 u24 u25 u26 u27 u28 u29 u30 u31 u32 u33 u34 u35 u36 u37 u38 u39 u40 u41 u42 u43 u44 u45 u46 u47 u48 u49 u50 u51 u52 u53 u54 u55 u56 u57 u58 u59 u60 u61 u62 u63 u64 u65 u66 u67 u68 u69 u70 u71 u72 u73 u74 u75 u76 u77 u78 u79 u80 u81 u82 u83 u84 u85 u86 u87 u88 u89 u90 u91 u92 u93 u94 u95 u96 u97 u98 u99 u100 u101 u102 u103 u104 u105 u106 u107 u108 u109 u110 u111 u112 u113 u114 u115 u116 u117 u118 u119 u120 u121 u122 u123 u124 u125 u126 u127 u128 u129 u130 u131 u132 u133 u134 u135 u136 u137 u138 u139 u140 u141 u142 u143 u144 u145 u146 u147 u148 u149 u150 u151 u152 u153 u154 u155 u156 u157 u158 : Value} {w : World} {Q : Exit → Act → World → Prop} (hQ : ∀ c a a' W, Q (.panic c) a W → Q (.panic c) a' W) (hS : S w.drew)
    {z : Bool} (hz : ∀ W, (binOp .neq 23 (.agg (adrCells (masked oa on))) (.agg (adrCells (masked ia on)))).run Try.prog W = .ok (.bool z) W)
    (h : ∀ (W : World), S W → Q .normal ⟨(List.toArray (u0 :: u1 :: u2 :: .pointer (some ⟨B1, 0, none⟩) :: u4 :: u5 :: u6 :: u7 :: u8 :: u9 :: u10 :: u11 :: u12 :: .pointer (some ⟨PB, 0, none⟩) :: u14 :: u15 :: u16 :: u17 :: u18 :: u19 :: u20 :: u21 :: u22 :: u23 :: u24 :: u25 :: u26 :: u27 :: u28 :: u29 :: u30 :: u31 :: u32 :: u33 :: u34 :: u35 :: u36 :: u37 :: u38 :: u39 :: u40 :: u41 :: u42 :: u43 :: u44 :: u45 :: u46 :: u47 :: u48 :: u49 :: u50 :: u51 :: u52 :: u53 :: u54 :: u55 :: u56 :: u57 :: u58 :: u59 :: u60 :: u61 :: u62 :: u63 :: u64 :: u65 :: u66 :: u67 :: u68 :: u69 :: u70 :: u71 :: u72 :: u73 :: u74 :: u75 :: u76 :: u77 :: u78 :: u79 :: u80 :: u81 :: u82 :: u83 :: u84 :: u85 :: u86 :: u87 :: u88 :: u89 :: u90 :: u91 :: u92 :: u93 :: u94 :: u95 :: u96 :: u97 :: u98 :: u99 :: .pointer (some ⟨PB, 16, none⟩) :: .int .u8 (on : Int) :: .pointer (some ⟨B1, 0, none⟩) :: .pointer (some ⟨B1, 16, none⟩) :: .int .u8 (on : Int) :: .bool false :: .bool false :: .pointer (some ⟨PB, 0, none⟩) :: .agg (adrL oa).toArray :: .pointer (some ⟨PB, 16, none⟩) :: .int .u8 (on : Int) :: .agg (adrCells (masked oa on)) :: .pointer (some ⟨B1, 0, none⟩) :: .pointer (some ⟨B1, 0, none⟩) :: .agg (adrL ia).toArray :: .pointer (some ⟨PB, 16, none⟩) :: .int .u8 (on : Int) :: .agg (adrCells (masked ia on)) :: .bool z :: .bool z :: u120 :: u121 :: u122 :: u123 :: u124 :: u125 :: u126 :: u127 :: u128 :: u129 :: u130 :: u131 :: u132 :: u133 :: u134 :: u135 :: u136 :: u137 :: u138 :: u139 :: u140 :: u141 :: u142 :: u143 :: u144 :: u145 :: u146 :: u147 :: u148 :: u149 :: u150 :: u151 :: u152 :: u153 :: u154 :: u155 :: u156 :: u157 :: u158 :: [])), []⟩ W) : (codeAt [1,1,1,1,1,1,1,0,1,0,0,1,0,0,1,0] (Try.f3.body.getD .skip)).wp Try.prog Q ⟨(List.toArray (u0 :: u1 :: u2 :: .pointer (some ⟨B1, 0, none⟩) :: u4 :: u5 :: u6 :: u7 :: u8 :: u9 :: u10 :: u11 :: u12 :: .pointer (some ⟨PB, 0, none⟩) :: u14 :: u15 :: u16 :: u17 :: u18 :: u19 :: u20 :: u21 :: u22 :: u23 :: u24 :: u25 :: u26 :: u27 :: u28 :: u29 :: u30 :: u31 :: u32 :: u33 :: u34 :: u35 :: u36 :: u37 :: u38 :: u39 :: u40 :: u41 :: u42 :: u43 :: u44 :: u45 :: u46 :: u47 :: u48 :: u49 :: u50 :: u51 :: u52 :: u53 :: u54 :: u55 :: u56 :: u57 :: u58 :: u59 :: u60 :: u61 :: u62 :: u63 :: u64 :: u65 :: u66 :: u67 :: u68 :: u69 :: u70 :: u71 :: u72 :: u73 :: u74 :: u75 :: u76 :: u77 :: u78 :: u79 :: u80 :: u81 :: u82 :: u83 :: u84 :: u85 :: u86 :: u87 :: u88 :: u89 :: u90 :: u91 :: u92 :: u93 :: u94 :: u95 :: u96 :: u97 :: u98 :: u99 :: u100 :: u101 :: u102 :: u103 :: u104 :: u105 :: u106 :: u107 :: u108 :: u109 :: u110 :: u111 :: u112 :: u113 :: u114 :: u115 :: u116 :: u117 :: u118 :: u119 :: u120 :: u121 :: u122 :: u123 :: u124 :: u125 :: u126 :: u127 :: u128 :: u129 :: u130 :: u131 :: u132 :: u133 :: u134 :: u135 :: u136 :: u137 :: u138 :: u139 :: u140 :: u141 :: u142 :: u143 :: u144 :: u145 :: u146 :: u147 :: u148 :: u149 :: u150 :: u151 :: u152 :: u153 :: u154 :: u155 :: u156 :: u157 :: u158 :: [])), []⟩ w := by
    have tn : ((on : Int) != on) = false := by simp
    conv in codeAt _ _ => whnf
    refine wp_region_held_drew (S := S) (by kernel_rfl) hS ?_
    clear hS
    intro HS
    refine wpAnyH_take (i := 0) (v := .pointer (some ⟨PB, 16, none⟩)) rfl (by kernel_rfl) (by kernel_rfl) (by kernel_rfl) (fun c x W h => hQ c _ _ W h) (Or.inl ⟨by rfl, fun W hW => by go_simp⟩) HS ?_
    try simp only [List.getElem_toArray, List.getElem_cons_zero, List.getElem_cons_succ, Act.put, List.setIfInBounds_toArray, List.set_cons_zero, List.set_cons_succ]
    refine wpAnyH_take (i := 1) (v := .int .u8 (on : Int)) rfl (by kernel_rfl) (by kernel_rfl) (by kernel_rfl) (fun c x W h => hQ c _ _ W h) (Or.inl ⟨by rfl, fun W hW => by have := seen_p (hs.p W hW); go_simp⟩) HS ?_
    try simp only [List.getElem_toArray, List.getElem_cons_zero, List.getElem_cons_succ, Act.put, List.setIfInBounds_toArray, List.set_cons_zero, List.set_cons_succ]
    refine wpAnyH_take (i := 2) (v := .pointer (some ⟨B1, 0, none⟩)) rfl (by kernel_rfl) (by kernel_rfl) (by kernel_rfl) (fun c x W h => hQ c _ _ W h) (Or.inl ⟨by rfl, fun W hW => by go_simp⟩) HS ?_
    try simp only [List.getElem_toArray, List.getElem_cons_zero, List.getElem_cons_succ, Act.put, List.setIfInBounds_toArray, List.set_cons_zero, List.set_cons_succ]
    refine wpAnyH_take (i := 3) (v := .pointer (some ⟨B1, 16, none⟩)) rfl (by kernel_rfl) (by kernel_rfl) (by kernel_rfl) (fun c x W h => hQ c _ _ W h) (Or.inl ⟨by rfl, fun W hW => by go_simp⟩) HS ?_
    try simp only [List.getElem_toArray, List.getElem_cons_zero, List.getElem_cons_succ, Act.put, List.setIfInBounds_toArray, List.set_cons_zero, List.set_cons_succ]
    refine wpAnyH_take (i := 4) (v := .int .u8 (on : Int)) rfl (by kernel_rfl) (by kernel_rfl) (by kernel_rfl) (fun c x W h => hQ c _ _ W h) (Or.inl ⟨by rfl, fun W hW => by have := hs.c W hW; go_simp⟩) HS ?_
    try simp only [List.getElem_toArray, List.getElem_cons_zero, List.getElem_cons_succ, Act.put, List.setIfInBounds_toArray, List.set_cons_zero, List.set_cons_succ]
    refine wpAnyH_take (i := 5) (v := .bool false) rfl (by kernel_rfl) (by kernel_rfl) (by kernel_rfl) (fun c x W h => hQ c _ _ W h) (Or.inl ⟨by rfl, fun W hW => by go_simp⟩) HS ?_
    try simp only [List.getElem_toArray, List.getElem_cons_zero, List.getElem_cons_succ, Act.put, List.setIfInBounds_toArray, List.set_cons_zero, List.set_cons_succ]
    refine wpAnyH_take (i := 6) (v := .bool false) rfl (by kernel_rfl) (by kernel_rfl) (by kernel_rfl) (fun c x W h => hQ c _ _ W h) (Or.inl ⟨by rfl, fun W hW => by go_simp⟩) HS ?_
    try simp only [List.getElem_toArray, List.getElem_cons_zero, List.getElem_cons_succ, Act.put, List.setIfInBounds_toArray, List.set_cons_zero, List.set_cons_succ]
    refine wpAnyH_take (i := 7) (v := .pointer (some ⟨PB, 0, none⟩)) rfl (by kernel_rfl) (by kernel_rfl) (by kernel_rfl) (fun c x W h => hQ c _ _ W h) (Or.inl ⟨by go_simp, fun W hW => by go_simp⟩) HS ?_
    try simp only [List.getElem_toArray, List.getElem_cons_zero, List.getElem_cons_succ, Act.put, List.setIfInBounds_toArray, List.set_cons_zero, List.set_cons_succ]
    refine wpAnyH_take (i := 8) (v := .agg (adrL oa).toArray) rfl (by kernel_rfl) (by kernel_rfl) (by kernel_rfl) (fun c x W h => hQ c _ _ W h) (by refine yieldsIf_load_mid ?_ 23 (.tmp 107) rfl PB 0 ?_ (adrL oa) _ (fun W hW => range_pre (hs.p W hW)) Try.underlying23 rfl (info23 _); (go_simp); (go_simp)) HS ?_
    try simp only [List.getElem_toArray, List.getElem_cons_zero, List.getElem_cons_succ, Act.put, List.setIfInBounds_toArray, List.set_cons_zero, List.set_cons_succ]
    refine wpAnyH_take (i := 9) (v := .pointer (some ⟨PB, 16, none⟩)) rfl (by kernel_rfl) (by kernel_rfl) (by kernel_rfl) (fun c x W h => hQ c _ _ W h) (Or.inl ⟨by go_simp, fun W hW => by go_simp⟩) HS ?_
    try simp only [List.getElem_toArray, List.getElem_cons_zero, List.getElem_cons_succ, Act.put, List.setIfInBounds_toArray, List.set_cons_zero, List.set_cons_succ]
    refine wpAnyH_take (i := 10) (v := .int .u8 (on : Int)) rfl (by kernel_rfl) (by kernel_rfl) (by kernel_rfl) (fun c x W h => hQ c _ _ W h) (Or.inl ⟨by go_simp, fun W hW => by have := seen_p (hs.p W hW); go_simp⟩) HS ?_
    try simp only [List.getElem_toArray, List.getElem_cons_zero, List.getElem_cons_succ, Act.put, List.setIfInBounds_toArray, List.set_cons_zero, List.set_cons_succ]
    refine wpAnyH_take (i := 12) (v := .pointer (some ⟨B1, 0, none⟩)) rfl (by kernel_rfl) (by kernel_rfl) (by kernel_rfl) (fun c x W h => hQ c _ _ W h) (Or.inl ⟨by go_simp, fun W hW => by go_simp⟩) HS ?_
    try simp only [List.getElem_toArray, List.getElem_cons_zero, List.getElem_cons_succ, Act.put, List.setIfInBounds_toArray, List.set_cons_zero, List.set_cons_succ]
    refine wpAnyH_take (i := 13) (v := .pointer (some ⟨B1, 0, none⟩)) rfl (by kernel_rfl) (by kernel_rfl) (by kernel_rfl) (fun c x W h => hQ c _ _ W h) (Or.inl ⟨by go_simp, fun W hW => by go_simp⟩) HS ?_
    try simp only [List.getElem_toArray, List.getElem_cons_zero, List.getElem_cons_succ, Act.put, List.setIfInBounds_toArray, List.set_cons_zero, List.set_cons_succ]
    refine wpAnyH_take (i := 14) (v := .agg (adrL ia).toArray) rfl (by kernel_rfl) (by kernel_rfl) (by kernel_rfl) (fun c x W h => hQ c _ _ W h) (by refine yieldsIf_load_mid ?_ 23 (.tmp 113) rfl B1 0 ?_ (adrL ia) _ (fun W hW => hs.r W hW) Try.underlying23 rfl (info23 _); (go_simp); (go_simp)) HS ?_
    try simp only [List.getElem_toArray, List.getElem_cons_zero, List.getElem_cons_succ, Act.put, List.setIfInBounds_toArray, List.set_cons_zero, List.set_cons_succ]
    refine wpAnyH_take (i := 15) (v := .pointer (some ⟨PB, 16, none⟩)) rfl (by kernel_rfl) (by kernel_rfl) (by kernel_rfl) (fun c x W h => hQ c _ _ W h) (Or.inl ⟨by go_simp, fun W hW => by go_simp⟩) HS ?_
    try simp only [List.getElem_toArray, List.getElem_cons_zero, List.getElem_cons_succ, Act.put, List.setIfInBounds_toArray, List.set_cons_zero, List.set_cons_succ]
    refine wpAnyH_take (i := 16) (v := .int .u8 (on : Int)) rfl (by kernel_rfl) (by kernel_rfl) (by kernel_rfl) (fun c x W h => hQ c _ _ W h) (Or.inl ⟨by go_simp, fun W hW => by have := seen_p (hs.p W hW); go_simp⟩) HS ?_
    try simp only [List.getElem_toArray, List.getElem_cons_zero, List.getElem_cons_succ, Act.put, List.setIfInBounds_toArray, List.set_cons_zero, List.set_cons_succ]
    refine wpAnyH_ready (rs := [11]) (by kernel_rfl) (by simp) ?_
    refine AllReadyH.cons rfl (fun K hK => ?_) AllReadyH.nil
    rw [if_pos (by kernel_rfl)]
    simp only [List.getElem_toArray, List.getElem_cons_zero, List.getElem_cons_succ]
    go_simp
    refine (masked_any oa on _ ho hn).mono ?_
    rintro e w7 ⟨rfl, b7⟩
    refine hK.out _ _ (hs.step _ _ HS b7) (fun HS => ?_)
    clear hK b7
    try simp only [List.getElem_toArray, List.getElem_cons_zero, List.getElem_cons_succ, Act.put, List.setIfInBounds_toArray, List.set_cons_zero, List.set_cons_succ]
    refine wpAnyH_ready (rs := [17]) (by kernel_rfl) (by simp) ?_
    refine AllReadyH.cons rfl (fun K hK => ?_) AllReadyH.nil
    rw [if_pos (by kernel_rfl)]
    simp only [List.getElem_toArray, List.getElem_cons_zero, List.getElem_cons_succ]
    go_simp
    refine (masked_any ia on _ hi hn).mono ?_
    rintro e w8 ⟨rfl, b8⟩
    refine hK.out _ _ (hs.step _ _ HS b8) (fun HS => ?_)
    clear hK b8
    try simp only [List.getElem_toArray, List.getElem_cons_zero, List.getElem_cons_succ, Act.put, List.setIfInBounds_toArray, List.set_cons_zero, List.set_cons_succ]
    refine wpAnyH_take (i := 18) (v := .bool z) rfl (by kernel_rfl) (by kernel_rfl) (by kernel_rfl) (fun c x W h => hQ c _ _ W h) (Or.inl ⟨by go_simp, fun W hW => by have := hz W; go_simp⟩) HS ?_
    try simp only [List.getElem_toArray, List.getElem_cons_zero, List.getElem_cons_succ, Act.put, List.setIfInBounds_toArray, List.set_cons_zero, List.set_cons_succ]
    refine wpAnyH_take (i := 19) (v := .bool z) rfl (by kernel_rfl) (by kernel_rfl) (by kernel_rfl) (fun c x W h => hQ c _ _ W h) (Or.inl ⟨by rfl, fun W hW => by go_simp⟩) HS ?_
    try simp only [List.getElem_toArray, List.getElem_cons_zero, List.getElem_cons_succ, Act.put, List.setIfInBounds_toArray, List.set_cons_zero, List.set_cons_succ]
    refine wpAnyH_done (by kernel_rfl) ?_ _
    exact act_eq (by kernel_rfl) (h _ HS)
end Go.Proofs.Ytkhbchgocilclaa
