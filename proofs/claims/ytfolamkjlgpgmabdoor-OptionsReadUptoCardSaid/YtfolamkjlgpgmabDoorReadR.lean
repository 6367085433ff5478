/- Several texts in one: ReadR, ReadS, ReadD. No condition beyond those that each part names. -/
import Derived.Test.YtfolamkjlgpgmabDoorReadL
import Derived.Outline
import Derived.Test.YtfolamkjlgpgmabDoorLives
/- Pieces of OptionsRead. No condition but that the parts read. (Printed by gReadR.py.) -/
namespace Go.Proofs.YtfolamkjlgpgmabDoor
open Go.RowKit
set_option linter.unusedVariables false
set_option linter.unusedSimpArgs false
theorem masked_lt {x : Nat → Nat} {n : Nat} (h : ∀ j, j < 16 → x j < 256) : ∀ j, j < 16 → masked x n j < 256 := fun j hj => by
  have h1 : masked x n j ≤ x j := by unfold masked top; exact Nat.div_mul_le_self _ _
  have := h j hj
  omega
set_option maxRecDepth 100000 in
set_option maxHeartbeats 1000000 in
theorem info_eqIn {y : Nat → Nat} {b u z : Nat} {on auto : Bool} (hy : ∀ j, j < 16 → y j < 256) (W : World) : (Op.equalIn 10000 30 (.agg #[.int .u8 (y 0 : Int), .int .u8 (y 1 : Int), .int .u8 (y 2 : Int), .int .u8 (y 3 : Int), .int .u8 (y 4 : Int), .int .u8 (y 5 : Int), .int .u8 (y 6 : Int), .int .u8 (y 7 : Int), .int .u8 (y 8 : Int), .int .u8 (y 9 : Int), .int .u8 (y 10 : Int), .int .u8 (y 11 : Int), .int .u8 (y 12 : Int), .int .u8 (y 13 : Int), .int .u8 (y 14 : Int), .int .u8 (y 15 : Int), .int .u8 (b : Int), .bool on, .bool auto, .int .u32 (u : Int), .int .u32 (z : Int)]) (.agg #[.int .u8 (y 0 : Int), .int .u8 (y 1 : Int), .int .u8 (y 2 : Int), .int .u8 (y 3 : Int), .int .u8 (y 4 : Int), .int .u8 (y 5 : Int), .int .u8 (y 6 : Int), .int .u8 (y 7 : Int), .int .u8 (y 8 : Int), .int .u8 (y 9 : Int), .int .u8 (y 10 : Int), .int .u8 (y 11 : Int), .int .u8 (y 12 : Int), .int .u8 (y 13 : Int), .int .u8 (y 14 : Int), .int .u8 (y 15 : Int), .int .u8 (b : Int), .bool on, .bool auto, .int .u32 (u : Int), .int .u32 (z : Int)])).run Tryd.prog W = .ok true W := by
  have hA := adr_eqIn hy
  have f30 : Tryd.prog.fieldsOf 30 = #[{ name := "Prefix", type := 27, offset := 0, embedded := false, tag := "", pkgPath := "", byteOffset := 0 }, { name := "OnLink", type := 4, offset := 17, embedded := false, tag := "", pkgPath := "", byteOffset := 17 }, { name := "Auto", type := 4, offset := 18, embedded := false, tag := "", pkgPath := "", byteOffset := 18 }, { name := "Valid", type := 28, offset := 19, embedded := false, tag := "", pkgPath := "", byteOffset := 20 }, { name := "Preferred", type := 28, offset := 20, embedded := false, tag := "", pkgPath := "", byteOffset := 24 }] := by kernel_rfl
  have f27 : Tryd.prog.fieldsOf 27 = #[{ name := "Addr", type := 25, offset := 0, embedded := false, tag := "", pkgPath := "", byteOffset := 0 }, { name := "Bits", type := 5, offset := 16, embedded := false, tag := "", pkgPath := "", byteOffset := 16 }] := by kernel_rfl
  have h27 : ∀ d xs ys, (Op.equalIn (d + 1) 27 (.agg xs) (.agg ys)).run Tryd.prog W = (Op.eqFields d xs ys (Tryd.prog.fieldsOf 27).toList).run Tryd.prog W := fun d xs ys => run_equalIn_agg W d 27 xs ys (by kernel_rfl) (by kernel_rfl)
  rw [run_equalIn_agg W 9999 30 _ _ (by kernel_rfl) (by kernel_rfl)]
  go_simp
set_option maxRecDepth 100000 in
set_option maxHeartbeats 8000000 in
theorem regIfT {kp bits v p n bC sC dC nb ns nd bx a5 : Nat} {m x q : Nat → Nat} {on auto : Bool} {bA sA dA : Option Addr} {w : World} (hbx : w.heap[bx]? = some (.cells #[.int .u8 (kp : Int), .int .u8 (m 0 : Int), .int .u8 (m 1 : Int), .int .u8 (m 2 : Int), .int .u8 (m 3 : Int), .int .u8 (m 4 : Int), .int .u8 (m 5 : Int), .int .u8 (x 0 : Int), .int .u8 (x 1 : Int), .int .u8 (x 2 : Int), .int .u8 (x 3 : Int), .int .u8 (x 4 : Int), .int .u8 (x 5 : Int), .int .u8 (x 6 : Int), .int .u8 (x 7 : Int), .int .u8 (x 8 : Int), .int .u8 (x 9 : Int), .int .u8 (x 10 : Int), .int .u8 (x 11 : Int), .int .u8 (x 12 : Int), .int .u8 (x 13 : Int), .int .u8 (x 14 : Int), .int .u8 (x 15 : Int), .int .u8 (bits : Int), .bool on, .bool auto, .int .u32 (v : Int), .int .u32 (p : Int), .slice bA nb bC, .int .u32 (n : Int), .int .u8 (q 0 : Int), .int .u8 (q 1 : Int), .int .u8 (q 2 : Int), .int .u8 (q 3 : Int), .int .u8 (q 4 : Int), .int .u8 (q 5 : Int), .slice sA ns sC, .slice dA nd dC] 35 (0, 0))) (h5 : w.heap[a5]? = some (.cells #[.int .u8 (masked x bits 0 : Int), .int .u8 (masked x bits 1 : Int), .int .u8 (masked x bits 2 : Int), .int .u8 (masked x bits 3 : Int), .int .u8 (masked x bits 4 : Int), .int .u8 (masked x bits 5 : Int), .int .u8 (masked x bits 6 : Int), .int .u8 (masked x bits 7 : Int), .int .u8 (masked x bits 8 : Int), .int .u8 (masked x bits 9 : Int), .int .u8 (masked x bits 10 : Int), .int .u8 (masked x bits 11 : Int), .int .u8 (masked x bits 12 : Int), .int .u8 (masked x bits 13 : Int), .int .u8 (masked x bits 14 : Int), .int .u8 (masked x bits 15 : Int), .int .u8 (bits : Int), .bool on, .bool auto, .int .u32 (v : Int), .int .u32 (p : Int)] 30 (0, 0))) (hx : ∀ j, j < 16 → x j < 256) (hbits : bits < 256)
    {u0 u1 u3 u4 u5 u6 u7 u9 u10 u11 u12 u13 u14 u15 u16 u17 u18 u19 u20 u21 u22 u23 u24 u25 u26 u27 u28 u29 u30 u31 u32 u33 u34 u35 u36 u37 u38 u39 u40 u41 u42 u43 u44 u45 u46 u47 u48 u49 u50 u51 u52 u53 u54 u55 u56 u57 u58 u59 u60 u61 u62 u63 u64 u65 u66 u67 u68 u69 u70 u71 u72 u73 u75 u76 u77 u78 u79 u80 u81 u82 u83 u84 u85 u86 u87 u88 u89 u90 u91 u92 u93 u94 u95 u96 u97 u98 u99 u100 u101 u102 u103 u104 u105 u106 u107 u108 u109 u110 u111 u112 u113 u114 u115 u116 u117 u118 u119 u120 u121 u122 u123 u124 u125 u126 u127 u128 u129 u130 u131 u132 u133 u134 u135 u136 u137 u138 u139 u140 u141 u142 u143 u144 u145 u146 u147 u148 u149 u150 u151 u152 u153 u154 u155 u156 u157 u158 u159 u160 u161 u162 u163 u164 u165 u166 u167 u168 u169 u170 u171 u172 u173 u174 u175 u176 u177 u178 u179 u180 u181 u182 u183 u184 u185 u186 u187 : Value} {Q : Exit → Act → World → Prop}
    (hdone : ∀ (r12 r75 r76 r77 r78 r79 r80 r81 r82 r83 r84 r85 r86 r87 r88 : Value) (W : World), Below w.heap.size w W → Q .normal ⟨(List.toArray (u0 :: u1 :: .pointer (some ⟨bx, 0, none⟩) :: u3 :: u4 :: u5 :: u6 :: u7 :: .pointer (some ⟨a5, 0, none⟩) :: u9 :: u10 :: u11 :: r12 :: u13 :: u14 :: u15 :: u16 :: u17 :: u18 :: u19 :: u20 :: u21 :: u22 :: u23 :: u24 :: u25 :: u26 :: u27 :: u28 :: u29 :: u30 :: u31 :: u32 :: u33 :: u34 :: u35 :: u36 :: u37 :: u38 :: u39 :: u40 :: u41 :: u42 :: u43 :: u44 :: u45 :: u46 :: u47 :: u48 :: u49 :: u50 :: u51 :: u52 :: u53 :: u54 :: u55 :: u56 :: u57 :: u58 :: u59 :: u60 :: u61 :: u62 :: u63 :: u64 :: u65 :: u66 :: u67 :: u68 :: u69 :: u70 :: u71 :: u72 :: u73 :: .bool true :: r75 :: r76 :: r77 :: r78 :: r79 :: r80 :: r81 :: r82 :: r83 :: r84 :: r85 :: r86 :: r87 :: r88 :: u89 :: u90 :: u91 :: u92 :: u93 :: u94 :: u95 :: u96 :: u97 :: u98 :: u99 :: u100 :: u101 :: u102 :: u103 :: u104 :: u105 :: u106 :: u107 :: u108 :: u109 :: u110 :: u111 :: u112 :: u113 :: u114 :: u115 :: u116 :: u117 :: u118 :: u119 :: u120 :: u121 :: u122 :: u123 :: u124 :: u125 :: u126 :: u127 :: u128 :: u129 :: u130 :: u131 :: u132 :: u133 :: u134 :: u135 :: u136 :: u137 :: u138 :: u139 :: u140 :: u141 :: u142 :: u143 :: u144 :: u145 :: u146 :: u147 :: u148 :: u149 :: u150 :: u151 :: u152 :: u153 :: u154 :: u155 :: u156 :: u157 :: u158 :: u159 :: u160 :: u161 :: u162 :: u163 :: u164 :: u165 :: u166 :: u167 :: u168 :: u169 :: u170 :: u171 :: u172 :: u173 :: u174 :: u175 :: u176 :: u177 :: u178 :: u179 :: u180 :: u181 :: u182 :: u183 :: u184 :: u185 :: u186 :: u187 :: [])), []⟩ W) :
    (codeAt [1, 1, 1, 1, 1, 1, 1, 0, 1] (Tryd.f3.body.getD .skip)).wp Tryd.prog Q ⟨(List.toArray (u0 :: u1 :: .pointer (some ⟨bx, 0, none⟩) :: u3 :: u4 :: u5 :: u6 :: u7 :: .pointer (some ⟨a5, 0, none⟩) :: u9 :: u10 :: u11 :: u12 :: u13 :: u14 :: u15 :: u16 :: u17 :: u18 :: u19 :: u20 :: u21 :: u22 :: u23 :: u24 :: u25 :: u26 :: u27 :: u28 :: u29 :: u30 :: u31 :: u32 :: u33 :: u34 :: u35 :: u36 :: u37 :: u38 :: u39 :: u40 :: u41 :: u42 :: u43 :: u44 :: u45 :: u46 :: u47 :: u48 :: u49 :: u50 :: u51 :: u52 :: u53 :: u54 :: u55 :: u56 :: u57 :: u58 :: u59 :: u60 :: u61 :: u62 :: u63 :: u64 :: u65 :: u66 :: u67 :: u68 :: u69 :: u70 :: u71 :: u72 :: u73 :: .bool true :: u75 :: u76 :: u77 :: u78 :: u79 :: u80 :: u81 :: u82 :: u83 :: u84 :: u85 :: u86 :: u87 :: u88 :: u89 :: u90 :: u91 :: u92 :: u93 :: u94 :: u95 :: u96 :: u97 :: u98 :: u99 :: u100 :: u101 :: u102 :: u103 :: u104 :: u105 :: u106 :: u107 :: u108 :: u109 :: u110 :: u111 :: u112 :: u113 :: u114 :: u115 :: u116 :: u117 :: u118 :: u119 :: u120 :: u121 :: u122 :: u123 :: u124 :: u125 :: u126 :: u127 :: u128 :: u129 :: u130 :: u131 :: u132 :: u133 :: u134 :: u135 :: u136 :: u137 :: u138 :: u139 :: u140 :: u141 :: u142 :: u143 :: u144 :: u145 :: u146 :: u147 :: u148 :: u149 :: u150 :: u151 :: u152 :: u153 :: u154 :: u155 :: u156 :: u157 :: u158 :: u159 :: u160 :: u161 :: u162 :: u163 :: u164 :: u165 :: u166 :: u167 :: u168 :: u169 :: u170 :: u171 :: u172 :: u173 :: u174 :: u175 :: u176 :: u177 :: u178 :: u179 :: u180 :: u181 :: u182 :: u183 :: u184 :: u185 :: u186 :: u187 :: [])), []⟩ w := by
  have HDN := Lib.hid hdone
  clear hdone
  have rr := mid_at (W := w) [.int .u8 (kp : Int), .int .u8 (m 0 : Int), .int .u8 (m 1 : Int), .int .u8 (m 2 : Int), .int .u8 (m 3 : Int), .int .u8 (m 4 : Int), .int .u8 (m 5 : Int)] [.int .u8 (x 0 : Int), .int .u8 (x 1 : Int), .int .u8 (x 2 : Int), .int .u8 (x 3 : Int), .int .u8 (x 4 : Int), .int .u8 (x 5 : Int), .int .u8 (x 6 : Int), .int .u8 (x 7 : Int), .int .u8 (x 8 : Int), .int .u8 (x 9 : Int), .int .u8 (x 10 : Int), .int .u8 (x 11 : Int), .int .u8 (x 12 : Int), .int .u8 (x 13 : Int), .int .u8 (x 14 : Int), .int .u8 (x 15 : Int), .int .u8 (bits : Int), .bool on, .bool auto, .int .u32 (v : Int), .int .u32 (p : Int)] [.slice bA nb bC, .int .u32 (n : Int), .int .u8 (q 0 : Int), .int .u8 (q 1 : Int), .int .u8 (q 2 : Int), .int .u8 (q 3 : Int), .int .u8 (q 4 : Int), .int .u8 (q 5 : Int), .slice sA ns sC, .slice dA nd dC] hbx
  have RR := Lib.hid rr
  have H5 := Lib.hid h5; have HXB := Lib.hid hx; have HBB := Lib.hid hbits; have HLT := Lib.hid (lt_of_blk h5)
  clear rr hbx h5 hx hbits
  conv in codeAt _ _ => whnf
  have hn3 := heap_alloc_new w (.cells #[.int .u8 0, .int .u8 0, .int .u8 0, .int .u8 0, .int .u8 0, .int .u8 0, .int .u8 0, .int .u8 0, .int .u8 0, .int .u8 0, .int .u8 0, .int .u8 0, .int .u8 0, .int .u8 0, .int .u8 0, .int .u8 0, .int .u8 0, .bool false, .bool false, .int .u32 0, .int .u32 0] 30)
  have hb3 : Below w.heap.size w (w.alloc (.cells #[.int .u8 0, .int .u8 0, .int .u8 0, .int .u8 0, .int .u8 0, .int .u8 0, .int .u8 0, .int .u8 0, .int .u8 0, .int .u8 0, .int .u8 0, .int .u8 0, .int .u8 0, .int .u8 0, .int .u8 0, .int .u8 0, .int .u8 0, .bool false, .bool false, .int .u32 0, .int .u32 0] 30)) := (Below.refl _ _).alloc (Nat.le_refl _) _
  have t3 := Turned.setRow hn3 #[.int .u8 (x 0 : Int), .int .u8 (x 1 : Int), .int .u8 (x 2 : Int), .int .u8 (x 3 : Int), .int .u8 (x 4 : Int), .int .u8 (x 5 : Int), .int .u8 (x 6 : Int), .int .u8 (x 7 : Int), .int .u8 (x 8 : Int), .int .u8 (x 9 : Int), .int .u8 (x 10 : Int), .int .u8 (x 11 : Int), .int .u8 (x 12 : Int), .int .u8 (x 13 : Int), .int .u8 (x 14 : Int), .int .u8 (x 15 : Int), .int .u8 (bits : Int), .bool on, .bool auto, .int .u32 (v : Int), .int .u32 (p : Int)]
  have HN3 := Lib.hid hn3
  have HT := Lib.hid (t3.get (lt_of_blk hn3))
  have HB := Lib.hid (hb3.trans (t3.below (Nat.le_refl _)))
  clear hn3 hb3 t3
  have HSI : Hid ((Tryd.prog.info? 30).map (·.size) = some (#[.int .u8 (x 0 : Int), .int .u8 (x 1 : Int), .int .u8 (x 2 : Int), .int .u8 (x 3 : Int), .int .u8 (x 4 : Int), .int .u8 (x 5 : Int), .int .u8 (x 6 : Int), .int .u8 (x 7 : Int), .int .u8 (x 8 : Int), .int .u8 (x 9 : Int), .int .u8 (x 10 : Int), .int .u8 (x 11 : Int), .int .u8 (x 12 : Int), .int .u8 (x 13 : Int), .int .u8 (x 14 : Int), .int .u8 (x 15 : Int), .int .u8 (bits : Int), .bool on, .bool auto, .int .u32 (v : Int), .int .u32 (p : Int)] : Array Value).size) := Lib.hid size56
  have HOI : Hid ((#[.int .u8 (x 0 : Int), .int .u8 (x 1 : Int), .int .u8 (x 2 : Int), .int .u8 (x 3 : Int), .int .u8 (x 4 : Int), .int .u8 (x 5 : Int), .int .u8 (x 6 : Int), .int .u8 (x 7 : Int), .int .u8 (x 8 : Int), .int .u8 (x 9 : Int), .int .u8 (x 10 : Int), .int .u8 (x 11 : Int), .int .u8 (x 12 : Int), .int .u8 (x 13 : Int), .int .u8 (x 14 : Int), .int .u8 (x 15 : Int), .int .u8 (bits : Int), .bool on, .bool auto, .int .u32 (v : Int), .int .u32 (p : Int)] : Array Value).all (·.oneCell') = true) := Lib.hid (by simp [Value.oneCell'])
  go_upto_region 11 with (first | (refine wpList_load_mid rfl 30 _ rfl bx 7 rfl [.int .u8 (x 0 : Int), .int .u8 (x 1 : Int), .int .u8 (x 2 : Int), .int .u8 (x 3 : Int), .int .u8 (x 4 : Int), .int .u8 (x 5 : Int), .int .u8 (x 6 : Int), .int .u8 (x 7 : Int), .int .u8 (x 8 : Int), .int .u8 (x 9 : Int), .int .u8 (x 10 : Int), .int .u8 (x 11 : Int), .int .u8 (x 12 : Int), .int .u8 (x 13 : Int), .int .u8 (x 14 : Int), .int .u8 (x 15 : Int), .int .u8 (bits : Int), .bool on, .bool auto, .int .u32 (v : Int), .int .u32 (p : Int)] _ RR.out Tryd.underlying30 rfl size56 ?_) | (refine wpList_store_row rfl 30 _ _ rfl w.heap.size #[.int .u8 (x 0 : Int), .int .u8 (x 1 : Int), .int .u8 (x 2 : Int), .int .u8 (x 3 : Int), .int .u8 (x 4 : Int), .int .u8 (x 5 : Int), .int .u8 (x 6 : Int), .int .u8 (x 7 : Int), .int .u8 (x 8 : Int), .int .u8 (x 9 : Int), .int .u8 (x 10 : Int), .int .u8 (x 11 : Int), .int .u8 (x 12 : Int), .int .u8 (x 13 : Int), .int .u8 (x 14 : Int), .int .u8 (x 15 : Int), .int .u8 (bits : Int), .bool on, .bool auto, .int .u32 (v : Int), .int .u32 (p : Int)] rfl rfl 30 _ HN3.out HSI.out ?hold HOI.out ?_))
  case hold => rfl
  obtain ⟨W1, hW⟩ : ∃ W, W = (w.alloc (.cells #[.int .u8 0, .int .u8 0, .int .u8 0, .int .u8 0, .int .u8 0, .int .u8 0, .int .u8 0, .int .u8 0, .int .u8 0, .int .u8 0, .int .u8 0, .int .u8 0, .int .u8 0, .int .u8 0, .int .u8 0, .int .u8 0, .int .u8 0, .bool false, .bool false, .int .u32 0, .int .u32 0] 30)).setRow w.heap.size #[.int .u8 (x 0 : Int), .int .u8 (x 1 : Int), .int .u8 (x 2 : Int), .int .u8 (x 3 : Int), .int .u8 (x 4 : Int), .int .u8 (x 5 : Int), .int .u8 (x 6 : Int), .int .u8 (x 7 : Int), .int .u8 (x 8 : Int), .int .u8 (x 9 : Int), .int .u8 (x 10 : Int), .int .u8 (x 11 : Int), .int .u8 (x 12 : Int), .int .u8 (x 13 : Int), .int .u8 (x 14 : Int), .int .u8 (x 15 : Int), .int .u8 (bits : Int), .bool on, .bool auto, .int .u32 (v : Int), .int .u32 (p : Int)] := ⟨_, rfl⟩
  obtain ⟨a12, hb⟩ : ∃ b, b = w.heap.size := ⟨_, rfl⟩
  have HLO : Hid (w.heap.size ≤ a12) := Lib.hid (by rw [hb]; exact Nat.le_refl _)
  rw [← hW] at HT HB ⊢
  rw [← hb] at HT ⊢
  clear hW HN3 hb
  have rr := mid_at (W := W1) [] [.int .u8 (x 0 : Int), .int .u8 (x 1 : Int), .int .u8 (x 2 : Int), .int .u8 (x 3 : Int), .int .u8 (x 4 : Int), .int .u8 (x 5 : Int), .int .u8 (x 6 : Int), .int .u8 (x 7 : Int), .int .u8 (x 8 : Int), .int .u8 (x 9 : Int), .int .u8 (x 10 : Int), .int .u8 (x 11 : Int), .int .u8 (x 12 : Int), .int .u8 (x 13 : Int), .int .u8 (x 14 : Int), .int .u8 (x 15 : Int)] [.int .u8 (bits : Int), .bool on, .bool auto, .int .u32 (v : Int), .int .u32 (p : Int)] HT.out
  have R2 := Lib.hid rr
  clear rr RR
  have c16 := (cell_blk HT.out 16).trans (show _ = some (.int .u8 (bits : Int)) from rfl)
  have HMS := Lib.hid (mask89 x bits W1 HXB.out HBB.out)
  have HX5 := Lib.hid ((HB.out.block a5 (lt_of_blk H5.out)).trans H5.out)
  go_wp2_with (refine wpList_load_mid rfl 25 _ rfl a12 0 rfl [.int .u8 (x 0 : Int), .int .u8 (x 1 : Int), .int .u8 (x 2 : Int), .int .u8 (x 3 : Int), .int .u8 (x 4 : Int), .int .u8 (x 5 : Int), .int .u8 (x 6 : Int), .int .u8 (x 7 : Int), .int .u8 (x 8 : Int), .int .u8 (x 9 : Int), .int .u8 (x 10 : Int), .int .u8 (x 11 : Int), .int .u8 (x 12 : Int), .int .u8 (x 13 : Int), .int .u8 (x 14 : Int), .int .u8 (x 15 : Int)] _ R2.out Tryd.underlying25 rfl size51 ?_)
  refine (HMS.out).mono ?_
  rintro e w2 ⟨y, rfl, hy, hb7⟩
  have HY := Lib.hid hy
  have HT2 := Lib.hid ((hb7.block a12 (lt_of_blk HT.out)).trans HT.out)
  have HX2 := Lib.hid ((hb7.block a5 (lt_of_blk HX5.out)).trans HX5.out)
  have HB2 := Lib.hid (HB.out.trans (hb7.mono HB.out.size))
  clear hb7 HMS c16 R2 HT HX5 HB H5 hy
  have z0 := cell_blk HT2.out 0
  have f0 := frozen_blk HT2.out 0
  have z1 := cell_blk HT2.out 1
  have f1 := frozen_blk HT2.out 1
  have z2 := cell_blk HT2.out 2
  have f2 := frozen_blk HT2.out 2
  have z3 := cell_blk HT2.out 3
  have f3 := frozen_blk HT2.out 3
  have z4 := cell_blk HT2.out 4
  have f4 := frozen_blk HT2.out 4
  have z5 := cell_blk HT2.out 5
  have f5 := frozen_blk HT2.out 5
  have z6 := cell_blk HT2.out 6
  have f6 := frozen_blk HT2.out 6
  have z7 := cell_blk HT2.out 7
  have f7 := frozen_blk HT2.out 7
  have z8 := cell_blk HT2.out 8
  have f8 := frozen_blk HT2.out 8
  have z9 := cell_blk HT2.out 9
  have f9 := frozen_blk HT2.out 9
  have z10 := cell_blk HT2.out 10
  have f10 := frozen_blk HT2.out 10
  have z11 := cell_blk HT2.out 11
  have f11 := frozen_blk HT2.out 11
  have z12 := cell_blk HT2.out 12
  have f12 := frozen_blk HT2.out 12
  have z13 := cell_blk HT2.out 13
  have f13 := frozen_blk HT2.out 13
  have z14 := cell_blk HT2.out 14
  have f14 := frozen_blk HT2.out 14
  have z15 := cell_blk HT2.out 15
  have f15 := frozen_blk HT2.out 15
  simp only [List.getElem?_toArray, List.getElem?_cons_zero, List.getElem?_cons_succ] at z0 z1 z2 z3 z4 z5 z6 z7 z8 z9 z10 z11 z12 z13 z14 z15
  have hl6 := lt_of_blk HT2.out
  have t0 := Turned.setCell HT2.out 0 (.int .u8 (y 0 : Int))
  have t1 := t0.trans (Turned.setCell (t0.get hl6) 1 (.int .u8 (y 1 : Int)))
  have t2 := t1.trans (Turned.setCell (t1.get hl6) 2 (.int .u8 (y 2 : Int)))
  have t3 := t2.trans (Turned.setCell (t2.get hl6) 3 (.int .u8 (y 3 : Int)))
  have t4 := t3.trans (Turned.setCell (t3.get hl6) 4 (.int .u8 (y 4 : Int)))
  have t5 := t4.trans (Turned.setCell (t4.get hl6) 5 (.int .u8 (y 5 : Int)))
  have t6 := t5.trans (Turned.setCell (t5.get hl6) 6 (.int .u8 (y 6 : Int)))
  have t7 := t6.trans (Turned.setCell (t6.get hl6) 7 (.int .u8 (y 7 : Int)))
  have t8 := t7.trans (Turned.setCell (t7.get hl6) 8 (.int .u8 (y 8 : Int)))
  have t9 := t8.trans (Turned.setCell (t8.get hl6) 9 (.int .u8 (y 9 : Int)))
  have t10 := t9.trans (Turned.setCell (t9.get hl6) 10 (.int .u8 (y 10 : Int)))
  have t11 := t10.trans (Turned.setCell (t10.get hl6) 11 (.int .u8 (y 11 : Int)))
  have t12 := t11.trans (Turned.setCell (t11.get hl6) 12 (.int .u8 (y 12 : Int)))
  have t13 := t12.trans (Turned.setCell (t12.get hl6) 13 (.int .u8 (y 13 : Int)))
  have t14 := t13.trans (Turned.setCell (t13.get hl6) 14 (.int .u8 (y 14 : Int)))
  have t15 := t14.trans (Turned.setCell (t14.get hl6) 15 (.int .u8 (y 15 : Int)))
  simp only [List.setIfInBounds_toArray, List.set_cons_zero, List.set_cons_succ] at t15
  have HT9 := Lib.hid (t15.get hl6)
  have HB9 := Lib.hid (HB2.out.trans (t15.below HLO.out))
  have HNE : Hid (a5 ≠ a12) := Lib.hid (by have := HLT.out; have := HLO.out; omega)
  have HX9 := Lib.hid (t15.keep HX2.out HNE.out)
  clear t0 t1 t2 t3 t4 t5 t6 t7 t8 t9 t10 t11 t12 t13 t14 t15
  go_upto_region 12 with (fail)
  obtain ⟨W3, hW⟩ : ∃ W, W = ((((((((((((((((w2.setCell ⟨a12, 0, none⟩ (.int .u8 (y 0 : Int))).setCell ⟨a12, 1, none⟩ (.int .u8 (y 1 : Int))).setCell ⟨a12, 2, none⟩ (.int .u8 (y 2 : Int))).setCell ⟨a12, 3, none⟩ (.int .u8 (y 3 : Int))).setCell ⟨a12, 4, none⟩ (.int .u8 (y 4 : Int))).setCell ⟨a12, 5, none⟩ (.int .u8 (y 5 : Int))).setCell ⟨a12, 6, none⟩ (.int .u8 (y 6 : Int))).setCell ⟨a12, 7, none⟩ (.int .u8 (y 7 : Int))).setCell ⟨a12, 8, none⟩ (.int .u8 (y 8 : Int))).setCell ⟨a12, 9, none⟩ (.int .u8 (y 9 : Int))).setCell ⟨a12, 10, none⟩ (.int .u8 (y 10 : Int))).setCell ⟨a12, 11, none⟩ (.int .u8 (y 11 : Int))).setCell ⟨a12, 12, none⟩ (.int .u8 (y 12 : Int))).setCell ⟨a12, 13, none⟩ (.int .u8 (y 13 : Int))).setCell ⟨a12, 14, none⟩ (.int .u8 (y 14 : Int))).setCell ⟨a12, 15, none⟩ (.int .u8 (y 15 : Int))) := ⟨_, rfl⟩
  rw [← hW] at HT9 HB9 HX9 ⊢
  clear hW z0 f0 z1 f1 z2 f2 z3 f3 z4 f4 z5 f5 z6 f6 z7 f7 z8 f8 z9 f9 z10 f10 z11 f11 z12 f12 z13 f13 z14 f14 z15 f15 HT2 HX2 HB2 hl6
  have HSY : Hid ((Tryd.prog.info? 30).map (·.size) = some (#[.int .u8 (y 0 : Int), .int .u8 (y 1 : Int), .int .u8 (y 2 : Int), .int .u8 (y 3 : Int), .int .u8 (y 4 : Int), .int .u8 (y 5 : Int), .int .u8 (y 6 : Int), .int .u8 (y 7 : Int), .int .u8 (y 8 : Int), .int .u8 (y 9 : Int), .int .u8 (y 10 : Int), .int .u8 (y 11 : Int), .int .u8 (y 12 : Int), .int .u8 (y 13 : Int), .int .u8 (y 14 : Int), .int .u8 (y 15 : Int), .int .u8 (bits : Int), .bool on, .bool auto, .int .u32 (v : Int), .int .u32 (p : Int)] : Array Value).size) := Lib.hid size56
  have hX9 := HX9.out
  have eY : (#[.int .u8 (masked x bits 0 : Int), .int .u8 (masked x bits 1 : Int), .int .u8 (masked x bits 2 : Int), .int .u8 (masked x bits 3 : Int), .int .u8 (masked x bits 4 : Int), .int .u8 (masked x bits 5 : Int), .int .u8 (masked x bits 6 : Int), .int .u8 (masked x bits 7 : Int), .int .u8 (masked x bits 8 : Int), .int .u8 (masked x bits 9 : Int), .int .u8 (masked x bits 10 : Int), .int .u8 (masked x bits 11 : Int), .int .u8 (masked x bits 12 : Int), .int .u8 (masked x bits 13 : Int), .int .u8 (masked x bits 14 : Int), .int .u8 (masked x bits 15 : Int), .int .u8 (bits : Int), .bool on, .bool auto, .int .u32 (v : Int), .int .u32 (p : Int)] : Array Value) = #[.int .u8 (y 0 : Int), .int .u8 (y 1 : Int), .int .u8 (y 2 : Int), .int .u8 (y 3 : Int), .int .u8 (y 4 : Int), .int .u8 (y 5 : Int), .int .u8 (y 6 : Int), .int .u8 (y 7 : Int), .int .u8 (y 8 : Int), .int .u8 (y 9 : Int), .int .u8 (y 10 : Int), .int .u8 (y 11 : Int), .int .u8 (y 12 : Int), .int .u8 (y 13 : Int), .int .u8 (y 14 : Int), .int .u8 (y 15 : Int), .int .u8 (bits : Int), .bool on, .bool auto, .int .u32 (v : Int), .int .u32 (p : Int)] := by rw [HY.out]
  rw [eY] at hX9
  have HX9 := Lib.hid hX9
  have hEQ : (Op.equalIn 9998 25 (.agg #[.int .u8 (y 0 : Int), .int .u8 (y 1 : Int), .int .u8 (y 2 : Int), .int .u8 (y 3 : Int), .int .u8 (y 4 : Int), .int .u8 (y 5 : Int), .int .u8 (y 6 : Int), .int .u8 (y 7 : Int), .int .u8 (y 8 : Int), .int .u8 (y 9 : Int), .int .u8 (y 10 : Int), .int .u8 (y 11 : Int), .int .u8 (y 12 : Int), .int .u8 (y 13 : Int), .int .u8 (y 14 : Int), .int .u8 (y 15 : Int)]) (.agg #[.int .u8 (y 0 : Int), .int .u8 (y 1 : Int), .int .u8 (y 2 : Int), .int .u8 (y 3 : Int), .int .u8 (y 4 : Int), .int .u8 (y 5 : Int), .int .u8 (y 6 : Int), .int .u8 (y 7 : Int), .int .u8 (y 8 : Int), .int .u8 (y 9 : Int), .int .u8 (y 10 : Int), .int .u8 (y 11 : Int), .int .u8 (y 12 : Int), .int .u8 (y 13 : Int), .int .u8 (y 14 : Int), .int .u8 (y 15 : Int)])).run Tryd.prog W3 = .ok true W3 := adr_eqIn (by rw [HY.out]; exact masked_lt HXB.out) 9996 W3
  clear hX9 eY
  go_wp2_with (first | (refine wpList_load_row rfl 30 _ rfl a5 rfl 30 _ (0, 0) _ HX9.out Tryd.underlying30 rfl HSY.out ?_) | (refine wpList_load_row rfl 30 _ rfl a12 rfl 30 _ (0, 0) _ HT9.out Tryd.underlying30 rfl HSY.out ?_))
  exact HDN.out _ _ _ _ _ _ _ _ _ _ _ _ _ _ _ W3 HB9.out
end Go.Proofs.YtfolamkjlgpgmabDoor

/- Pieces of OptionsRead: the servers. No condition but that the parts read. (Printed by gReadS.py.) -/
namespace Go.Proofs.YtfolamkjlgpgmabDoor
open Go.RowKit
set_option linter.unusedVariables false
set_option linter.unusedSimpArgs false
theorem adN_serv {n : Nat} {S : List (Nat → Nat)} : adN (servB n S) = S.length := by
  unfold adN
  rw [servB_length]
  omega
theorem adrs_serv {n : Nat} {S : List (Nat → Nat)} : row8 (adrsB (adrsOf (servB n S) S.length)) = row8 (adrsB S) := by
  have key : ∀ k, k ≤ S.length → row8 (adrsB (adrsOf (servB n S) k)) = row8 (adrsB (S.take k)) := by
    intro k
    induction k with
    | zero => intro _; rfl
    | succ k ih =>
      intro hk
      have hy : S[k]? = some (S[k]'(by omega)) := List.getElem?_eq_getElem _
      rw [adrsOf_succ, ih (by omega), adrsB_succ hy, row8_append]
      congr 2
      have hg : ∀ j, j < 16 → adrAt (servB n S) k j = (S[k]'(by omega)) j := fun j hj => by
        unfold adrAt servB
        rw [List.getD_eq_getElem?_getD, List.getElem?_append_right (by simp [be4]; omega)]
        have e1 : 6 + 16 * k + j - ([0, 0] ++ be4 n).length = (adrsB (S.take k)).length + j := by
          rw [adrsB_length, List.length_take]; simp [be4]; omega
        have e2 : adrsB S = adrsB (S.take k) ++ (adr16 (S[k]'(by omega)) ++ adrsB (S.drop (k + 1))) := by
          conv => lhs; rw [← List.take_append_drop k S, List.drop_eq_getElem_cons (by omega)]
          unfold adrsB
          rw [List.flatMap_append, List.flatMap_cons]
        rw [e1, e2, List.getElem?_append_right (by omega), Nat.add_sub_cancel_left, List.getElem?_append_left (by simpa [adr16] using hj)]
        match j, hj with
        | 0, _ => rfl
        | 1, _ => rfl
        | 2, _ => rfl
        | 3, _ => rfl
        | 4, _ => rfl
        | 5, _ => rfl
        | 6, _ => rfl
        | 7, _ => rfl
        | 8, _ => rfl
        | 9, _ => rfl
        | 10, _ => rfl
        | 11, _ => rfl
        | 12, _ => rfl
        | 13, _ => rfl
        | 14, _ => rfl
        | 15, _ => rfl
        | j + 16, hj => exact absurd hj (by omega)
      unfold adr16
      rw [hg 0 (by decide), hg 1 (by decide), hg 2 (by decide), hg 3 (by decide), hg 4 (by decide), hg 5 (by decide), hg 6 (by decide), hg 7 (by decide), hg 8 (by decide), hg 9 (by decide), hg 10 (by decide), hg 11 (by decide), hg 12 (by decide), hg 13 (by decide), hg 14 (by decide), hg 15 (by decide)]
  have := key S.length (Nat.le_refl _)
  rwa [List.take_length] at this
theorem own_adrs {W : World} {B k c : Nat} {A : Option Addr} {S : List (Nat → Nat)} (ho : W.ownsRow B 25 16 (.slice A k c) k (row8 (adrsB S))) (hk : S.length = k) (hm : k ≤ 1000000) : AdrsAt W W.heap.size A S := by
  refine ⟨fun hne => ?_, by omega⟩
  rcases ho.2 with ⟨e, h0⟩ | ⟨g, cap, cur, e, hb, hg, hn, hm2, hs, ht⟩
  · exact absurd (List.eq_nil_of_length_eq_zero (by omega)) hne
  · cases e
    refine ⟨g, 0, rfl, lt_of_blk hg, fun i y hy j hj => ?_⟩
    have hi : i < S.length := (List.getElem?_eq_some_iff.1 hy).1
    have h1 : (row8 (adrsB S))[i * 16 + j]? = some (.int .u8 (y j : Int)) := by
      have e2 : adrsB S = adrsB (S.take i) ++ (adr16 y ++ adrsB (S.drop (i + 1))) := by
        conv => lhs; rw [← List.take_append_drop i S, List.drop_eq_getElem_cons hi, (List.getElem?_eq_some_iff.1 hy).2]
        unfold adrsB
        rw [List.flatMap_append, List.flatMap_cons]
      have el : (adrsB (S.take i)).length = i * 16 := by rw [adrsB_length, List.length_take]; congr 1; omega
      rw [e2, row8_append, row8_append, List.getElem?_append_right (by rw [row8_length, el]; omega), row8_length, el, Nat.add_sub_cancel_left, List.getElem?_append_left (by rw [row8_length]; simpa [adr16] using hj)]
      exact adr16_get y hj
    have hlt : i * 16 + j < k * 16 := by omega
    rw [← ht, List.getElem?_take_of_lt hlt] at h1
    rw [Nat.zero_add, cell_blk hg]
    simpa using h1
def SrvR (n : Nat) (S : List (Nat → Nat)) (W : World) (x : Nat) (V : Value) (r : Bool) : Prop := (S = [] ∧ x = 0 ∧ V = .slice none 0 0 ∧ r = false) ∨ (S ≠ [] ∧ x = n ∧ r = true ∧ ∃ A', V = .slice A' S.length S.length ∧ AdrsAt W W.heap.size A' S)
theorem SrvR.step {n x : Nat} {S : List (Nat → Nat)} {W W' : World} {V : Value} {r : Bool} (h : SrvR n S W x V r) (hb : Below W.heap.size W W') : SrvR n S W' x V r := by
  rcases h with h | ⟨h1, h2, h3, A, h4, h5⟩
  · exact .inl h
  · exact .inr ⟨h1, h2, h3, A, h4, (h5.below hb).mono hb.size⟩
theorem read_srv {n : Nat} {S : List (Nat → Nat)} {W : World} {A : Option Addr} (hn : n < 4294967296) (hl : S.length ≤ 100) (h256 : ∀ y ∈ servB n S, y < 256) (h : Bs W W.heap.size A (padL (servB n S)).length (padL (servB n S))) :
    Calls Tryd.prog 13 #[.agg #[.int .u8 25, .slice A (padL (servB n S)).length (padL (servB n S)).length]] W fun e w' => ∃ x V r, e = .returned (.tuple #[.int .u32 ((x : Nat) : Int), V, .bool r]) ∧ SrvR n S w' x V r ∧ Below W.heap.size W w' := by
  have hle := servB_length n S
  have e : padL (servB n S) = servB n S := padL_id (by rw [hle]; omega) (by omega)
  rw [e] at h ⊢
  have hnum : num1 (servB n S) 2 4 = n := num_be4 hn 0 0 (adrsB S)
  cases hS : S with
  | nil =>
    rw [hS] at h hle h256
    replace hle : (servB n []).length = 6 := hle
    refine (srv77 (kd := 25) W h (by omega) h256 (r := false) (by unfold isSrv; rw [hle]; rfl)).mono ?_
    rintro e w' ⟨hb, ⟨_, rfl⟩ | ⟨h1, _⟩⟩
    · exact ⟨0, _, _, rfl, .inl ⟨rfl, rfl, rfl, rfl⟩, hb⟩
    · cases h1
  | cons y ys =>
    rw [← hS]
    have hp : 0 < S.length := by rw [hS]; simp
    refine (srv77 (kd := 25) W h (by omega) h256 (r := true) (by unfold isSrv; rw [hle, decide_eq_true (by omega)]; rfl)).mono ?_
    rintro e w' ⟨hb, ⟨h1, _⟩ | ⟨_, A', k, rfl, hk, ho⟩⟩
    · cases h1
    · rw [adN_serv, adrs_serv] at ho
      refine ⟨n, _, true, by rw [hnum, adN_serv], .inr ⟨by rw [hS]; simp, rfl, rfl, A', rfl, own_adrs ho rfl (by omega)⟩, hb⟩
set_option maxRecDepth 100000 in
set_option maxHeartbeats 8000000 in
theorem regR16 {kp bits v p n bC sC dC nb ns nd bx : Nat} {m x q : Nat → Nat} {on auto : Bool} {bA sA dA : Option Addr} {S : List (Nat → Nat)} {w : World} (hbx : w.heap[bx]? = some (.cells #[.int .u8 (kp : Int), .int .u8 (m 0 : Int), .int .u8 (m 1 : Int), .int .u8 (m 2 : Int), .int .u8 (m 3 : Int), .int .u8 (m 4 : Int), .int .u8 (m 5 : Int), .int .u8 (x 0 : Int), .int .u8 (x 1 : Int), .int .u8 (x 2 : Int), .int .u8 (x 3 : Int), .int .u8 (x 4 : Int), .int .u8 (x 5 : Int), .int .u8 (x 6 : Int), .int .u8 (x 7 : Int), .int .u8 (x 8 : Int), .int .u8 (x 9 : Int), .int .u8 (x 10 : Int), .int .u8 (x 11 : Int), .int .u8 (x 12 : Int), .int .u8 (x 13 : Int), .int .u8 (x 14 : Int), .int .u8 (x 15 : Int), .int .u8 (bits : Int), .bool on, .bool auto, .int .u32 (v : Int), .int .u32 (p : Int), .slice bA nb bC, .int .u32 (n : Int), .int .u8 (q 0 : Int), .int .u8 (q 1 : Int), .int .u8 (q 2 : Int), .int .u8 (q 3 : Int), .int .u8 (q 4 : Int), .int .u8 (q 5 : Int), .slice sA ns sC, .slice dA nd dC] 35 (0, 0))) (hn : n < 4294967296) (hss : AdrsAt w w.heap.size sA S) (hns : S.length = ns) (hsl : S.length ≤ 100) (hs256 : ∀ y ∈ S, ∀ j, j < 16 → y j < 256)
    {u0 u1 u3 u4 u5 u6 u7 u8 u9 u10 u11 u12 u13 u14 u15 u16 u17 u18 u19 u20 u21 u22 u23 u24 u25 u26 u27 u28 u29 u30 u31 u32 u33 u34 u35 u36 u37 u38 u39 u40 u41 u42 u43 u44 u45 u46 u47 u48 u49 u50 u51 u52 u53 u54 u55 u56 u57 u58 u59 u60 u61 u62 u63 u64 u65 u66 u67 u68 u69 u70 u71 u72 u73 u74 u75 u76 u77 u78 u79 u80 u81 u82 u83 u84 u85 u86 u87 u88 u89 u90 u91 u92 u93 u94 u95 u96 u97 u98 u99 u100 u101 u102 u103 u104 u105 u106 u107 u108 u109 u110 u111 u112 u113 u114 u115 u116 u117 u118 u119 u120 u121 u122 u123 u124 u125 u126 u127 u128 u129 u130 u131 u132 u133 u134 u135 u136 u137 u138 u139 u140 u141 u142 u143 u144 u145 u146 u147 u148 u149 u150 u151 u152 u153 u154 u155 u156 u157 u158 u159 u160 u161 u162 u163 u164 u165 u166 u167 u168 u169 u170 u171 u172 u173 u174 u175 u176 u177 u178 u179 u180 u181 u182 u183 u184 u185 u186 u187 : Value} {Q : Exit → Act → World → Prop}
    (hdone : ∀ (X : Nat) (V9 : Value) (r : Bool) (r100 r101 r102 r103 r104 r105 r106 r107 r108 r109 r110 : Value) (W : World), SrvR n S W X V9 r → Below w.heap.size w W → Q .normal ⟨(List.toArray (u0 :: u1 :: .pointer (some ⟨bx, 0, none⟩) :: u3 :: u4 :: u5 :: u6 :: u7 :: u8 :: u9 :: u10 :: u11 :: u12 :: .int .u32 ((X : Nat) : Int) :: V9 :: .bool r :: u16 :: u17 :: u18 :: u19 :: u20 :: u21 :: u22 :: u23 :: u24 :: u25 :: u26 :: u27 :: u28 :: u29 :: u30 :: u31 :: u32 :: u33 :: u34 :: u35 :: u36 :: u37 :: u38 :: u39 :: u40 :: u41 :: u42 :: u43 :: u44 :: u45 :: u46 :: u47 :: u48 :: u49 :: u50 :: u51 :: u52 :: u53 :: u54 :: u55 :: u56 :: u57 :: u58 :: u59 :: u60 :: u61 :: u62 :: u63 :: u64 :: u65 :: u66 :: u67 :: u68 :: u69 :: u70 :: u71 :: u72 :: u73 :: u74 :: u75 :: u76 :: u77 :: u78 :: u79 :: u80 :: u81 :: u82 :: u83 :: u84 :: u85 :: u86 :: u87 :: u88 :: u89 :: u90 :: u91 :: u92 :: u93 :: u94 :: u95 :: u96 :: u97 :: u98 :: u99 :: r100 :: r101 :: r102 :: r103 :: r104 :: r105 :: r106 :: r107 :: r108 :: r109 :: r110 :: u111 :: u112 :: u113 :: u114 :: u115 :: u116 :: u117 :: u118 :: u119 :: u120 :: u121 :: u122 :: u123 :: u124 :: u125 :: u126 :: u127 :: u128 :: u129 :: u130 :: u131 :: u132 :: u133 :: u134 :: u135 :: u136 :: u137 :: u138 :: u139 :: u140 :: u141 :: u142 :: u143 :: u144 :: u145 :: u146 :: u147 :: u148 :: u149 :: u150 :: u151 :: u152 :: u153 :: u154 :: u155 :: u156 :: u157 :: u158 :: u159 :: u160 :: u161 :: u162 :: u163 :: u164 :: u165 :: u166 :: u167 :: u168 :: u169 :: u170 :: u171 :: u172 :: u173 :: u174 :: u175 :: u176 :: u177 :: u178 :: u179 :: u180 :: u181 :: u182 :: u183 :: u184 :: u185 :: u186 :: u187 :: [])), []⟩ W) :
    (codeAt [1, 1, 1, 1, 1, 1, 1, 1, 1, 0] (Tryd.f3.body.getD .skip)).wp Tryd.prog Q ⟨(List.toArray (u0 :: u1 :: .pointer (some ⟨bx, 0, none⟩) :: u3 :: u4 :: u5 :: u6 :: u7 :: u8 :: u9 :: u10 :: u11 :: u12 :: u13 :: u14 :: u15 :: u16 :: u17 :: u18 :: u19 :: u20 :: u21 :: u22 :: u23 :: u24 :: u25 :: u26 :: u27 :: u28 :: u29 :: u30 :: u31 :: u32 :: u33 :: u34 :: u35 :: u36 :: u37 :: u38 :: u39 :: u40 :: u41 :: u42 :: u43 :: u44 :: u45 :: u46 :: u47 :: u48 :: u49 :: u50 :: u51 :: u52 :: u53 :: u54 :: u55 :: u56 :: u57 :: u58 :: u59 :: u60 :: u61 :: u62 :: u63 :: u64 :: u65 :: u66 :: u67 :: u68 :: u69 :: u70 :: u71 :: u72 :: u73 :: u74 :: u75 :: u76 :: u77 :: u78 :: u79 :: u80 :: u81 :: u82 :: u83 :: u84 :: u85 :: u86 :: u87 :: u88 :: u89 :: u90 :: u91 :: u92 :: u93 :: u94 :: u95 :: u96 :: u97 :: u98 :: u99 :: u100 :: u101 :: u102 :: u103 :: u104 :: u105 :: u106 :: u107 :: u108 :: u109 :: u110 :: u111 :: u112 :: u113 :: u114 :: u115 :: u116 :: u117 :: u118 :: u119 :: u120 :: u121 :: u122 :: u123 :: u124 :: u125 :: u126 :: u127 :: u128 :: u129 :: u130 :: u131 :: u132 :: u133 :: u134 :: u135 :: u136 :: u137 :: u138 :: u139 :: u140 :: u141 :: u142 :: u143 :: u144 :: u145 :: u146 :: u147 :: u148 :: u149 :: u150 :: u151 :: u152 :: u153 :: u154 :: u155 :: u156 :: u157 :: u158 :: u159 :: u160 :: u161 :: u162 :: u163 :: u164 :: u165 :: u166 :: u167 :: u168 :: u169 :: u170 :: u171 :: u172 :: u173 :: u174 :: u175 :: u176 :: u177 :: u178 :: u179 :: u180 :: u181 :: u182 :: u183 :: u184 :: u185 :: u186 :: u187 :: [])), []⟩ w := by
  have HDN := Lib.hid hdone
  clear hdone
  have HBX := Lib.hid hbx; have HN := Lib.hid hn; have HSS := Lib.hid hss; have HNS := Lib.hid hns; have HSL := Lib.hid hsl; have HS256 := Lib.hid hs256
  clear hbx hn hss hns hsl hs256
  conv in codeAt _ _ => whnf
  have HB := Lib.hid (Below.refl w.heap.size w)
  have c29 : w.cell? ⟨bx, 29, none⟩ = some (.int .u32 (n : Int)) := (cell_blk HBX.out 29).trans rfl
  have c36 : w.cell? ⟨bx, 36, none⟩ = some (.slice sA ns sC) := (cell_blk HBX.out 36).trans rfl
  have hmk := serv34 (c := sC) HN.out w HSS.out
  rw [HNS.out] at hmk
  have HMK := Lib.hid hmk
  clear hmk
  go_wp2_with fail
  clear c29 c36
  refine (HMK.out).mono ?_
  intro e wa hm
  obtain ⟨Aa, ca, na, rfl, hba, hag⟩ := made_again hm (by decide) (by rw [servB_length]; have := HSL.out; omega) (serv_bytes HS256.out)
  have HAG := Lib.hid hag
  have HBa := Lib.hid (HB.out.trans hba)
  clear hm hba hag HMK HB
  go_wp2_with fail
  refine (HAG.out).mono ?_
  rintro e wb ⟨Ab, rfl, hbs, hbb⟩
  have HBb := Lib.hid (HBa.out.trans (hbb.mono HBa.out.size))
  have HRD := Lib.hid (read_srv HN.out HSL.out (serv_bytes HS256.out) hbs)
  clear hbs hbb HAG HBa
  go_wp2_with fail
  refine (HRD.out).mono ?_
  rintro e wc ⟨X, V9, r, rfl, hr, hbc⟩
  have HB := Lib.hid (HBb.out.trans (hbc.mono HBb.out.size))
  have HR := Lib.hid hr
  clear hbc hr HRD HBb
  go_wp2_with fail
  exact HDN.out X V9 r _ _ _ _ _ _ _ _ _ _ _ wc HR.out HB.out
set_option maxRecDepth 100000 in
set_option maxHeartbeats 8000000 in
theorem regR17 {kp bits v p n bC sC dC nb ns nd bx X : Nat} {m x q : Nat → Nat} {on auto : Bool} {bA sA dA : Option Addr} {V9 : Value} {r : Bool} {S : List (Nat → Nat)} {w : World} (hbx : w.heap[bx]? = some (.cells #[.int .u8 (kp : Int), .int .u8 (m 0 : Int), .int .u8 (m 1 : Int), .int .u8 (m 2 : Int), .int .u8 (m 3 : Int), .int .u8 (m 4 : Int), .int .u8 (m 5 : Int), .int .u8 (x 0 : Int), .int .u8 (x 1 : Int), .int .u8 (x 2 : Int), .int .u8 (x 3 : Int), .int .u8 (x 4 : Int), .int .u8 (x 5 : Int), .int .u8 (x 6 : Int), .int .u8 (x 7 : Int), .int .u8 (x 8 : Int), .int .u8 (x 9 : Int), .int .u8 (x 10 : Int), .int .u8 (x 11 : Int), .int .u8 (x 12 : Int), .int .u8 (x 13 : Int), .int .u8 (x 14 : Int), .int .u8 (x 15 : Int), .int .u8 (bits : Int), .bool on, .bool auto, .int .u32 (v : Int), .int .u32 (p : Int), .slice bA nb bC, .int .u32 (n : Int), .int .u8 (q 0 : Int), .int .u8 (q 1 : Int), .int .u8 (q 2 : Int), .int .u8 (q 3 : Int), .int .u8 (q 4 : Int), .int .u8 (q 5 : Int), .slice sA ns sC, .slice dA nd dC] 35 (0, 0))) (hr : SrvR n S w X V9 r) (hss : AdrsAt w w.heap.size sA S) (hns : S.length = ns) (hs256 : ∀ y ∈ S, ∀ j, j < 16 → y j < 256)
    {u0 u1 u3 u4 u5 u6 u7 u8 u9 u10 u11 u12 u16 u17 u18 u19 u20 u21 u22 u23 u24 u25 u26 u27 u28 u29 u30 u31 u32 u33 u34 u35 u36 u37 u38 u39 u40 u41 u42 u43 u44 u45 u46 u47 u48 u49 u50 u51 u52 u53 u54 u55 u56 u57 u58 u59 u60 u61 u62 u63 u64 u65 u66 u67 u68 u69 u70 u71 u72 u73 u74 u75 u76 u77 u78 u79 u80 u81 u82 u83 u84 u85 u86 u87 u88 u89 u90 u91 u92 u93 u94 u95 u96 u97 u98 u99 u100 u101 u102 u103 u104 u105 u106 u107 u108 u109 u110 u111 u112 u113 u114 u115 u116 u117 u118 u119 u120 u121 u122 u123 u124 u125 u126 u127 u128 u129 u130 u131 u132 u133 u134 u135 u136 u137 u138 u139 u140 u141 u142 u143 u144 u145 u146 u147 u148 u149 u150 u151 u152 u153 u154 u155 u156 u157 u158 u159 u160 u161 u162 u163 u164 u165 u166 u167 u168 u169 u170 u171 u172 u173 u174 u175 u176 u177 u178 u179 u180 u181 u182 u183 u184 u185 u186 u187 : Value} {Q : Exit → Act → World → Prop}
    (hdone : ∀ (r111 r112 r113 r114 r115 r116 r117 r118 r119 r120 r121 r122 r123 r124 r125 r126 r127 r128 r129 r130 r131 : Value) (W : World), Below w.heap.size w W → Q .normal ⟨(List.toArray (u0 :: u1 :: .pointer (some ⟨bx, 0, none⟩) :: u3 :: u4 :: u5 :: u6 :: u7 :: u8 :: u9 :: u10 :: u11 :: u12 :: .int .u32 ((X : Nat) : Int) :: V9 :: .bool r :: u16 :: u17 :: u18 :: u19 :: u20 :: u21 :: u22 :: u23 :: u24 :: u25 :: u26 :: u27 :: u28 :: u29 :: u30 :: u31 :: u32 :: u33 :: u34 :: u35 :: u36 :: u37 :: u38 :: u39 :: u40 :: u41 :: u42 :: u43 :: u44 :: u45 :: u46 :: u47 :: u48 :: u49 :: u50 :: u51 :: u52 :: u53 :: u54 :: u55 :: u56 :: u57 :: u58 :: u59 :: u60 :: u61 :: u62 :: u63 :: u64 :: u65 :: u66 :: u67 :: u68 :: u69 :: u70 :: u71 :: u72 :: u73 :: u74 :: u75 :: u76 :: u77 :: u78 :: u79 :: u80 :: u81 :: u82 :: u83 :: u84 :: u85 :: u86 :: u87 :: u88 :: u89 :: u90 :: u91 :: u92 :: u93 :: u94 :: u95 :: u96 :: u97 :: u98 :: u99 :: u100 :: u101 :: u102 :: u103 :: u104 :: u105 :: u106 :: u107 :: u108 :: u109 :: u110 :: r111 :: r112 :: r113 :: r114 :: r115 :: r116 :: r117 :: r118 :: r119 :: r120 :: r121 :: r122 :: r123 :: r124 :: r125 :: r126 :: r127 :: r128 :: r129 :: r130 :: r131 :: .bool false :: u133 :: u134 :: u135 :: u136 :: u137 :: u138 :: u139 :: u140 :: u141 :: u142 :: u143 :: u144 :: u145 :: u146 :: u147 :: u148 :: u149 :: u150 :: u151 :: u152 :: u153 :: u154 :: u155 :: u156 :: u157 :: u158 :: u159 :: u160 :: u161 :: u162 :: u163 :: u164 :: u165 :: u166 :: u167 :: u168 :: u169 :: u170 :: u171 :: u172 :: u173 :: u174 :: u175 :: u176 :: u177 :: u178 :: u179 :: u180 :: u181 :: u182 :: u183 :: u184 :: u185 :: u186 :: u187 :: [])), []⟩ W) :
    (codeAt [1, 1, 1, 1, 1, 1, 1, 1, 1, 1, 0, 0] (Tryd.f3.body.getD .skip)).wp Tryd.prog Q ⟨(List.toArray (u0 :: u1 :: .pointer (some ⟨bx, 0, none⟩) :: u3 :: u4 :: u5 :: u6 :: u7 :: u8 :: u9 :: u10 :: u11 :: u12 :: .int .u32 ((X : Nat) : Int) :: V9 :: .bool r :: u16 :: u17 :: u18 :: u19 :: u20 :: u21 :: u22 :: u23 :: u24 :: u25 :: u26 :: u27 :: u28 :: u29 :: u30 :: u31 :: u32 :: u33 :: u34 :: u35 :: u36 :: u37 :: u38 :: u39 :: u40 :: u41 :: u42 :: u43 :: u44 :: u45 :: u46 :: u47 :: u48 :: u49 :: u50 :: u51 :: u52 :: u53 :: u54 :: u55 :: u56 :: u57 :: u58 :: u59 :: u60 :: u61 :: u62 :: u63 :: u64 :: u65 :: u66 :: u67 :: u68 :: u69 :: u70 :: u71 :: u72 :: u73 :: u74 :: u75 :: u76 :: u77 :: u78 :: u79 :: u80 :: u81 :: u82 :: u83 :: u84 :: u85 :: u86 :: u87 :: u88 :: u89 :: u90 :: u91 :: u92 :: u93 :: u94 :: u95 :: u96 :: u97 :: u98 :: u99 :: u100 :: u101 :: u102 :: u103 :: u104 :: u105 :: u106 :: u107 :: u108 :: u109 :: u110 :: u111 :: u112 :: u113 :: u114 :: u115 :: u116 :: u117 :: u118 :: u119 :: u120 :: u121 :: u122 :: u123 :: u124 :: u125 :: u126 :: u127 :: u128 :: u129 :: u130 :: u131 :: u132 :: u133 :: u134 :: u135 :: u136 :: u137 :: u138 :: u139 :: u140 :: u141 :: u142 :: u143 :: u144 :: u145 :: u146 :: u147 :: u148 :: u149 :: u150 :: u151 :: u152 :: u153 :: u154 :: u155 :: u156 :: u157 :: u158 :: u159 :: u160 :: u161 :: u162 :: u163 :: u164 :: u165 :: u166 :: u167 :: u168 :: u169 :: u170 :: u171 :: u172 :: u173 :: u174 :: u175 :: u176 :: u177 :: u178 :: u179 :: u180 :: u181 :: u182 :: u183 :: u184 :: u185 :: u186 :: u187 :: [])), []⟩ w := by
  have HDN := Lib.hid hdone
  clear hdone
  have HBX := Lib.hid hbx; have HSS := Lib.hid hss; have HNS := Lib.hid hns; have HS256 := Lib.hid hs256; have HR := Lib.hid hr
  clear hbx hss hns hs256 hr
  conv in codeAt _ _ => whnf
  have c29 : w.cell? ⟨bx, 29, none⟩ = some (.int .u32 (n : Int)) := (cell_blk HBX.out 29).trans rfl
  have c36 : w.cell? ⟨bx, 36, none⟩ = some (.slice sA ns sC) := (cell_blk HBX.out 36).trans rfl
  rcases HR.out with ⟨hS, rfl, rfl, rfl⟩ | ⟨hS, rfl, rfl, A9, rfl, hA⟩
  · have e0 : ns = 0 := by rw [← HNS.out, hS]; rfl
    subst e0
    clear hS
    go_wp2_with fail
    exact HDN.out _ _ _ _ _ _ _ _ _ _ _ _ _ _ _ _ _ _ _ _ _ w (Below.refl _ _)
  · have hp : (0 : Int) < (ns : Int) := by rw [← HNS.out]; have := List.length_pos_iff.2 hS; omega
    have h15 := same15 (c := S.length) (c2 := sC) w hA HSS.out HS256.out
    rw [HNS.out] at h15
    have H15 := Lib.hid h15
    have hnsz := HNS.out
    have hdn := HDN.out
    rw [hnsz] at hdn ⊢
    have HDN := Lib.hid hdn
    clear hS hA h15 hnsz hdn
    go_wp2_with fail
    refine (H15.out).mono ?_
    rintro e w1 ⟨rfl, j, rfl⟩
    have HBJ : Hid (Below w.heap.size w (w.drewN j)) := Lib.hid ⟨rfl, rfl, rfl, Nat.le_refl _, fun _ _ => rfl⟩
    go_wp2_with fail
    exact HDN.out _ _ _ _ _ _ _ _ _ _ _ _ _ _ _ _ _ _ _ _ _ _ HBJ.out
end Go.Proofs.YtfolamkjlgpgmabDoor

/- Pieces of OptionsRead: the names. No condition but that the parts read. (Printed by gReadD.py.) -/
namespace Go.Proofs.YtfolamkjlgpgmabDoor
open Go.RowKit
set_option linter.unusedVariables false
set_option linter.unusedSimpArgs false
theorem strs_map (T : List ByteArray) : strs (T.map (·.data.toList)) = T.map Value.string := by
  unfold strs
  rw [List.map_map]
  congr 1
theorem own_doms {W : World} {B k c : Nat} {A : Option Addr} {T : List ByteArray} (ho : W.ownsRow B 9 1 (.slice A k c) k (T.map Value.string)) (hk : T.length = k) (hz : ∀ s ∈ T, s.size ≤ 1048576) (hm : k ≤ 60) : DomsAt W W.heap.size A T := by
  refine ⟨fun hne => ?_, hz, by omega⟩
  rcases ho.2 with ⟨e, h0⟩ | ⟨g, cap, cur, e, hb, hg, hn, hm2, hs, ht⟩
  · exact absurd (List.eq_nil_of_length_eq_zero (by omega)) hne
  · cases e
    refine ⟨g, 0, rfl, lt_of_blk hg, fun i s hs1 => ?_⟩
    have hi : i < T.length := (List.getElem?_eq_some_iff.1 hs1).1
    have h1 : (T.map Value.string)[i]? = some (.string s) := by rw [List.getElem?_map, hs1]; rfl
    rw [← ht, List.getElem?_take_of_lt (by omega)] at h1
    rw [Nat.zero_add, cell_blk hg]
    simpa using h1
def DomR (n : Nat) (T : List ByteArray) (W : World) (x : Nat) (V : Value) (r : Bool) : Prop := (T = [] ∧ x = 0 ∧ V = .slice none 0 0 ∧ r = false) ∨ (T ≠ [] ∧ x = n ∧ r = true ∧ ∃ A', V = .slice A' T.length T.length ∧ DomsAt W W.heap.size A' T)
theorem read_dom {n : Nat} {D : List ByteArray} {W : World} {A : Option Addr} (hn : n < 4294967296) (hl : D.length ≤ 7) (hz : ∀ s ∈ D, s.size ≤ 1048576) (h : Bs W W.heap.size A (padL (domsB n D)).length (padL (domsB n D))) :
    Calls Tryd.prog 17 #[.agg #[.int .u8 31, .slice A (padL (domsB n D)).length (padL (domsB n D)).length]] W fun e w' => ∃ x V r, e = .returned (.tuple #[.int .u32 ((x : Nat) : Int), V, .bool r]) ∧ DomR n (okN D) w' x V r ∧ Below W.heap.size W w' := by
  have hle := doms_len (n := n) hl
  have hpl := padL_length hle
  have hbd := eights_bd (domsB n D).length
  have h256 : ∀ y ∈ padL (domsB n D), y < 256 := fun y hy => by
    unfold padL at hy
    rcases List.mem_append.1 hy with hy | hy
    · exact doms_bytes y hy
    · rw [List.mem_replicate] at hy; rw [hy.2]; decide
  have hid : isDom 31 (padL (domsB n D)) = if okN D = [] then none else some ((okN D).map (·.data.toList)) := isDom_back _
  have hnum : num1 (padL (domsB n D)) 2 4 = n := by
    unfold padL domsB
    rw [List.append_assoc]
    exact num_be4 hn 0 0 _
  have hok : (okN D).length ≤ 7 := Nat.le_trans (List.length_filter_le _ _) hl
  refine (dom17 (kd := 31) W h (by rw [hpl]; omega) h256).mono ?_
  rintro e w' ⟨hb, ⟨h1, rfl⟩ | ⟨acc, A', k, h1, rfl, hk, ho⟩⟩
  · rw [hid] at h1
    have hT : okN D = [] := by
      by_cases hT : okN D = []
      · exact hT
      · rw [if_neg hT] at h1; cases h1
    exact ⟨0, _, _, rfl, .inl ⟨hT, rfl, rfl, rfl⟩, hb⟩
  · rw [hid] at h1
    have hT : okN D ≠ [] := by
      intro hT
      rw [if_pos hT] at h1; cases h1
    rw [if_neg hT] at h1
    cases h1
    rw [strs_map, List.length_map] at ho
    refine ⟨n, _, true, by rw [hnum, List.length_map], .inr ⟨hT, rfl, rfl, A', rfl, own_doms ho rfl (fun s hs => hz s (List.mem_filter.1 hs).1) (by omega)⟩, hb⟩
set_option maxRecDepth 100000 in
set_option maxHeartbeats 8000000 in
theorem regR25 {kp bits v p n bC sC dC nb ns nd bx : Nat} {m x q : Nat → Nat} {on auto : Bool} {bA sA dA : Option Addr} {D : List ByteArray} {w : World} (hbx : w.heap[bx]? = some (.cells #[.int .u8 (kp : Int), .int .u8 (m 0 : Int), .int .u8 (m 1 : Int), .int .u8 (m 2 : Int), .int .u8 (m 3 : Int), .int .u8 (m 4 : Int), .int .u8 (m 5 : Int), .int .u8 (x 0 : Int), .int .u8 (x 1 : Int), .int .u8 (x 2 : Int), .int .u8 (x 3 : Int), .int .u8 (x 4 : Int), .int .u8 (x 5 : Int), .int .u8 (x 6 : Int), .int .u8 (x 7 : Int), .int .u8 (x 8 : Int), .int .u8 (x 9 : Int), .int .u8 (x 10 : Int), .int .u8 (x 11 : Int), .int .u8 (x 12 : Int), .int .u8 (x 13 : Int), .int .u8 (x 14 : Int), .int .u8 (x 15 : Int), .int .u8 (bits : Int), .bool on, .bool auto, .int .u32 (v : Int), .int .u32 (p : Int), .slice bA nb bC, .int .u32 (n : Int), .int .u8 (q 0 : Int), .int .u8 (q 1 : Int), .int .u8 (q 2 : Int), .int .u8 (q 3 : Int), .int .u8 (q 4 : Int), .int .u8 (q 5 : Int), .slice sA ns sC, .slice dA nd dC] 35 (0, 0))) (hn : n < 4294967296) (hdd : DomsAt w w.heap.size dA D) (hnd : D.length = nd) (hdl : D.length ≤ 7) (hmx : ∃ m : Int, w.cell? ⟨0, 0, none⟩ = some (.int .i64 m))
    {u0 u1 u3 u4 u5 u6 u7 u8 u9 u10 u11 u12 u13 u14 u15 u16 u17 u18 u19 u20 u21 u22 u23 u24 u25 u26 u27 u28 u29 u30 u31 u32 u33 u34 u35 u36 u37 u38 u39 u40 u41 u42 u43 u44 u45 u46 u47 u48 u49 u50 u51 u52 u53 u54 u55 u56 u57 u58 u59 u60 u61 u62 u63 u64 u65 u66 u67 u68 u69 u70 u71 u72 u73 u74 u75 u76 u77 u78 u79 u80 u81 u82 u83 u84 u85 u86 u87 u88 u89 u90 u91 u92 u93 u94 u95 u96 u97 u98 u99 u100 u101 u102 u103 u104 u105 u106 u107 u108 u109 u110 u111 u112 u113 u114 u115 u116 u117 u118 u119 u120 u121 u122 u123 u124 u125 u126 u127 u128 u129 u130 u131 u132 u133 u134 u135 u136 u137 u138 u139 u140 u141 u142 u143 u144 u145 u146 u147 u148 u149 u150 u151 u152 u153 u154 u155 u156 u157 u158 u159 u160 u161 u162 u163 u164 u165 u166 u167 u168 u169 u170 u171 u172 u173 u174 u175 u176 u177 u178 u179 u180 u181 u182 u183 u184 u185 u186 u187 : Value} {Q : Exit → Act → World → Prop}
    (hdone : ∀ (X : Nat) (V9 : Value) (r : Bool) (r154 r155 r156 r157 r158 r159 r160 r161 r162 r163 r164 : Value) (W : World), DomR n (okN D) W X V9 r → Below w.heap.size w W → Q .normal ⟨(List.toArray (u0 :: u1 :: .pointer (some ⟨bx, 0, none⟩) :: u3 :: u4 :: u5 :: u6 :: u7 :: u8 :: u9 :: u10 :: u11 :: u12 :: u13 :: u14 :: u15 :: u16 :: u17 :: .int .u32 ((X : Nat) : Int) :: V9 :: .bool r :: u21 :: u22 :: u23 :: u24 :: u25 :: u26 :: u27 :: u28 :: u29 :: u30 :: u31 :: u32 :: u33 :: u34 :: u35 :: u36 :: u37 :: u38 :: u39 :: u40 :: u41 :: u42 :: u43 :: u44 :: u45 :: u46 :: u47 :: u48 :: u49 :: u50 :: u51 :: u52 :: u53 :: u54 :: u55 :: u56 :: u57 :: u58 :: u59 :: u60 :: u61 :: u62 :: u63 :: u64 :: u65 :: u66 :: u67 :: u68 :: u69 :: u70 :: u71 :: u72 :: u73 :: u74 :: u75 :: u76 :: u77 :: u78 :: u79 :: u80 :: u81 :: u82 :: u83 :: u84 :: u85 :: u86 :: u87 :: u88 :: u89 :: u90 :: u91 :: u92 :: u93 :: u94 :: u95 :: u96 :: u97 :: u98 :: u99 :: u100 :: u101 :: u102 :: u103 :: u104 :: u105 :: u106 :: u107 :: u108 :: u109 :: u110 :: u111 :: u112 :: u113 :: u114 :: u115 :: u116 :: u117 :: u118 :: u119 :: u120 :: u121 :: u122 :: u123 :: u124 :: u125 :: u126 :: u127 :: u128 :: u129 :: u130 :: u131 :: u132 :: u133 :: u134 :: u135 :: u136 :: u137 :: u138 :: u139 :: u140 :: u141 :: u142 :: u143 :: u144 :: u145 :: u146 :: u147 :: u148 :: u149 :: u150 :: u151 :: u152 :: u153 :: r154 :: r155 :: r156 :: r157 :: r158 :: r159 :: r160 :: r161 :: r162 :: r163 :: r164 :: u165 :: u166 :: u167 :: u168 :: u169 :: u170 :: u171 :: u172 :: u173 :: u174 :: u175 :: u176 :: u177 :: u178 :: u179 :: u180 :: u181 :: u182 :: u183 :: u184 :: u185 :: u186 :: u187 :: [])), []⟩ W) :
    (codeAt [1, 1, 1, 1, 1, 1, 1, 1, 1, 1, 1, 1, 1, 0] (Tryd.f3.body.getD .skip)).wp Tryd.prog Q ⟨(List.toArray (u0 :: u1 :: .pointer (some ⟨bx, 0, none⟩) :: u3 :: u4 :: u5 :: u6 :: u7 :: u8 :: u9 :: u10 :: u11 :: u12 :: u13 :: u14 :: u15 :: u16 :: u17 :: u18 :: u19 :: u20 :: u21 :: u22 :: u23 :: u24 :: u25 :: u26 :: u27 :: u28 :: u29 :: u30 :: u31 :: u32 :: u33 :: u34 :: u35 :: u36 :: u37 :: u38 :: u39 :: u40 :: u41 :: u42 :: u43 :: u44 :: u45 :: u46 :: u47 :: u48 :: u49 :: u50 :: u51 :: u52 :: u53 :: u54 :: u55 :: u56 :: u57 :: u58 :: u59 :: u60 :: u61 :: u62 :: u63 :: u64 :: u65 :: u66 :: u67 :: u68 :: u69 :: u70 :: u71 :: u72 :: u73 :: u74 :: u75 :: u76 :: u77 :: u78 :: u79 :: u80 :: u81 :: u82 :: u83 :: u84 :: u85 :: u86 :: u87 :: u88 :: u89 :: u90 :: u91 :: u92 :: u93 :: u94 :: u95 :: u96 :: u97 :: u98 :: u99 :: u100 :: u101 :: u102 :: u103 :: u104 :: u105 :: u106 :: u107 :: u108 :: u109 :: u110 :: u111 :: u112 :: u113 :: u114 :: u115 :: u116 :: u117 :: u118 :: u119 :: u120 :: u121 :: u122 :: u123 :: u124 :: u125 :: u126 :: u127 :: u128 :: u129 :: u130 :: u131 :: u132 :: u133 :: u134 :: u135 :: u136 :: u137 :: u138 :: u139 :: u140 :: u141 :: u142 :: u143 :: u144 :: u145 :: u146 :: u147 :: u148 :: u149 :: u150 :: u151 :: u152 :: u153 :: u154 :: u155 :: u156 :: u157 :: u158 :: u159 :: u160 :: u161 :: u162 :: u163 :: u164 :: u165 :: u166 :: u167 :: u168 :: u169 :: u170 :: u171 :: u172 :: u173 :: u174 :: u175 :: u176 :: u177 :: u178 :: u179 :: u180 :: u181 :: u182 :: u183 :: u184 :: u185 :: u186 :: u187 :: [])), []⟩ w := by
  have HDN := Lib.hid hdone
  clear hdone
  have HBX := Lib.hid hbx; have HN := Lib.hid hn; have HDD := Lib.hid hdd; have HND := Lib.hid hnd; have HDL := Lib.hid hdl; have HMX := Lib.hid hmx
  clear hbx hn hdd hnd hdl hmx
  conv in codeAt _ _ => whnf
  have HB := Lib.hid (Below.refl w.heap.size w)
  have c29 : w.cell? ⟨bx, 29, none⟩ = some (.int .u32 (n : Int)) := (cell_blk HBX.out 29).trans rfl
  have c37 : w.cell? ⟨bx, 37, none⟩ = some (.slice dA nd dC) := (cell_blk HBX.out 37).trans rfl
  have hmk := dom35 (c := dC) HN.out w HDD.out HMX.out
  rw [HND.out] at hmk
  have HMK := Lib.hid hmk
  clear hmk
  go_wp2_with fail
  clear c29 c37
  refine (HMK.out).mono ?_
  intro e wa hm
  obtain ⟨Aa, ca, na, rfl, hba, hag⟩ := made_again hm (by decide) (doms_len HDL.out) doms_bytes
  have HAG := Lib.hid hag
  have HBa := Lib.hid (HB.out.trans hba)
  clear hm hba hag HMK HB
  go_wp2_with fail
  refine (HAG.out).mono ?_
  rintro e wb ⟨Ab, rfl, hbs, hbb⟩
  have HBb := Lib.hid (HBa.out.trans (hbb.mono HBa.out.size))
  have HRD := Lib.hid (read_dom HN.out HDL.out HDD.out.size hbs)
  clear hbs hbb HAG HBa
  go_wp2_with fail
  refine (HRD.out).mono ?_
  rintro e wc ⟨X, V9, r, rfl, hr, hbc⟩
  have HB := Lib.hid (HBb.out.trans (hbc.mono HBb.out.size))
  have HR := Lib.hid hr
  clear hbc hr HRD HBb
  go_wp2_with fail
  exact HDN.out X V9 r _ _ _ _ _ _ _ _ _ _ _ wc HR.out HB.out
set_option maxRecDepth 100000 in
set_option maxHeartbeats 8000000 in
theorem regR26 {kp bits v p n bC sC dC nb ns nd bx X mm c16 : Nat} {m x q : Nat → Nat} {on auto : Bool} {bA sA dA : Option Addr} {A16 : Option Addr} {V9 : Value} {r : Bool} {T : List ByteArray} {w : World} (hbx : w.heap[bx]? = some (.cells #[.int .u8 (kp : Int), .int .u8 (m 0 : Int), .int .u8 (m 1 : Int), .int .u8 (m 2 : Int), .int .u8 (m 3 : Int), .int .u8 (m 4 : Int), .int .u8 (m 5 : Int), .int .u8 (x 0 : Int), .int .u8 (x 1 : Int), .int .u8 (x 2 : Int), .int .u8 (x 3 : Int), .int .u8 (x 4 : Int), .int .u8 (x 5 : Int), .int .u8 (x 6 : Int), .int .u8 (x 7 : Int), .int .u8 (x 8 : Int), .int .u8 (x 9 : Int), .int .u8 (x 10 : Int), .int .u8 (x 11 : Int), .int .u8 (x 12 : Int), .int .u8 (x 13 : Int), .int .u8 (x 14 : Int), .int .u8 (x 15 : Int), .int .u8 (bits : Int), .bool on, .bool auto, .int .u32 (v : Int), .int .u32 (p : Int), .slice bA nb bC, .int .u32 (n : Int), .int .u8 (q 0 : Int), .int .u8 (q 1 : Int), .int .u8 (q 2 : Int), .int .u8 (q 3 : Int), .int .u8 (q 4 : Int), .int .u8 (q 5 : Int), .slice sA ns sC, .slice dA nd dC] 35 (0, 0))) (hr : DomR n T w X V9 r) (hdd : DomsAt w w.heap.size A16 T) (htl : T.length = mm)
    {u0 u1 u3 u4 u5 u6 u7 u8 u9 u10 u11 u12 u13 u14 u15 u17 u21 u22 u23 u24 u25 u26 u27 u28 u29 u30 u31 u32 u33 u34 u35 u36 u37 u38 u39 u40 u41 u42 u43 u44 u45 u46 u47 u48 u49 u50 u51 u52 u53 u54 u55 u56 u57 u58 u59 u60 u61 u62 u63 u64 u65 u66 u67 u68 u69 u70 u71 u72 u73 u74 u75 u76 u77 u78 u79 u80 u81 u82 u83 u84 u85 u86 u87 u88 u89 u90 u91 u92 u93 u94 u95 u96 u97 u98 u99 u100 u101 u102 u103 u104 u105 u106 u107 u108 u109 u110 u111 u112 u113 u114 u115 u116 u117 u118 u119 u120 u121 u122 u123 u124 u125 u126 u127 u128 u129 u130 u131 u132 u133 u134 u135 u136 u137 u138 u139 u140 u141 u142 u143 u144 u145 u146 u147 u148 u149 u150 u151 u152 u153 u154 u155 u156 u157 u158 u159 u160 u161 u162 u163 u164 u165 u166 u167 u168 u169 u170 u171 u172 u173 u174 u175 u176 u177 u178 u179 u180 u181 u182 u183 u184 u185 u186 u187 : Value} {Q : Exit → Act → World → Prop}
    (hdone : ∀ (r165 r166 r167 r168 r169 r170 r171 r172 r173 r174 r175 r176 r177 r178 r179 r180 r181 r182 r183 r184 r185 r186 r187 : Value) (W : World), Below w.heap.size w W → Q .normal ⟨(List.toArray (u0 :: u1 :: .pointer (some ⟨bx, 0, none⟩) :: u3 :: .bool true :: u5 :: u6 :: u7 :: u8 :: u9 :: u10 :: u11 :: u12 :: u13 :: u14 :: u15 :: .slice A16 mm c16 :: u17 :: .int .u32 ((X : Nat) : Int) :: V9 :: .bool r :: u21 :: u22 :: u23 :: u24 :: u25 :: u26 :: u27 :: u28 :: u29 :: u30 :: u31 :: u32 :: u33 :: u34 :: u35 :: u36 :: u37 :: u38 :: u39 :: u40 :: u41 :: u42 :: u43 :: u44 :: u45 :: u46 :: u47 :: u48 :: u49 :: u50 :: u51 :: u52 :: u53 :: u54 :: u55 :: u56 :: u57 :: u58 :: u59 :: u60 :: u61 :: u62 :: u63 :: u64 :: u65 :: u66 :: u67 :: u68 :: u69 :: u70 :: u71 :: u72 :: u73 :: u74 :: u75 :: u76 :: u77 :: u78 :: u79 :: u80 :: u81 :: u82 :: u83 :: u84 :: u85 :: u86 :: u87 :: u88 :: u89 :: u90 :: u91 :: u92 :: u93 :: u94 :: u95 :: u96 :: u97 :: u98 :: u99 :: u100 :: u101 :: u102 :: u103 :: u104 :: u105 :: u106 :: u107 :: u108 :: u109 :: u110 :: u111 :: u112 :: u113 :: u114 :: u115 :: u116 :: u117 :: u118 :: u119 :: u120 :: u121 :: u122 :: u123 :: u124 :: u125 :: u126 :: u127 :: u128 :: u129 :: u130 :: u131 :: u132 :: u133 :: u134 :: u135 :: u136 :: u137 :: u138 :: u139 :: u140 :: u141 :: u142 :: u143 :: u144 :: u145 :: u146 :: u147 :: u148 :: u149 :: u150 :: u151 :: u152 :: u153 :: u154 :: u155 :: u156 :: u157 :: u158 :: u159 :: u160 :: u161 :: u162 :: u163 :: u164 :: r165 :: r166 :: r167 :: r168 :: r169 :: r170 :: r171 :: r172 :: r173 :: r174 :: r175 :: r176 :: r177 :: r178 :: r179 :: r180 :: r181 :: r182 :: r183 :: r184 :: r185 :: r186 :: r187 :: [])), []⟩ W) :
    (codeAt [1, 1, 1, 1, 1, 1, 1, 1, 1, 1, 1, 1, 1, 1, 0] (Tryd.f3.body.getD .skip)).wp Tryd.prog Q ⟨(List.toArray (u0 :: u1 :: .pointer (some ⟨bx, 0, none⟩) :: u3 :: u4 :: u5 :: u6 :: u7 :: u8 :: u9 :: u10 :: u11 :: u12 :: u13 :: u14 :: u15 :: .slice A16 mm c16 :: u17 :: .int .u32 ((X : Nat) : Int) :: V9 :: .bool r :: u21 :: u22 :: u23 :: u24 :: u25 :: u26 :: u27 :: u28 :: u29 :: u30 :: u31 :: u32 :: u33 :: u34 :: u35 :: u36 :: u37 :: u38 :: u39 :: u40 :: u41 :: u42 :: u43 :: u44 :: u45 :: u46 :: u47 :: u48 :: u49 :: u50 :: u51 :: u52 :: u53 :: u54 :: u55 :: u56 :: u57 :: u58 :: u59 :: u60 :: u61 :: u62 :: u63 :: u64 :: u65 :: u66 :: u67 :: u68 :: u69 :: u70 :: u71 :: u72 :: u73 :: u74 :: u75 :: u76 :: u77 :: u78 :: u79 :: u80 :: u81 :: u82 :: u83 :: u84 :: u85 :: u86 :: u87 :: u88 :: u89 :: u90 :: u91 :: u92 :: u93 :: u94 :: u95 :: u96 :: u97 :: u98 :: u99 :: u100 :: u101 :: u102 :: u103 :: u104 :: u105 :: u106 :: u107 :: u108 :: u109 :: u110 :: u111 :: u112 :: u113 :: u114 :: u115 :: u116 :: u117 :: u118 :: u119 :: u120 :: u121 :: u122 :: u123 :: u124 :: u125 :: u126 :: u127 :: u128 :: u129 :: u130 :: u131 :: u132 :: u133 :: u134 :: u135 :: u136 :: u137 :: u138 :: u139 :: u140 :: u141 :: u142 :: u143 :: u144 :: u145 :: u146 :: u147 :: u148 :: u149 :: u150 :: u151 :: u152 :: u153 :: u154 :: u155 :: u156 :: u157 :: u158 :: u159 :: u160 :: u161 :: u162 :: u163 :: u164 :: u165 :: u166 :: u167 :: u168 :: u169 :: u170 :: u171 :: u172 :: u173 :: u174 :: u175 :: u176 :: u177 :: u178 :: u179 :: u180 :: u181 :: u182 :: u183 :: u184 :: u185 :: u186 :: u187 :: [])), []⟩ w := by
  have HDN := Lib.hid hdone
  clear hdone
  have HBX := Lib.hid hbx; have HDD := Lib.hid hdd; have HTL := Lib.hid htl; have HR := Lib.hid hr
  clear hbx hdd htl hr
  conv in codeAt _ _ => whnf
  have c29 : w.cell? ⟨bx, 29, none⟩ = some (.int .u32 (n : Int)) := (cell_blk HBX.out 29).trans rfl
  rcases HR.out with ⟨hT, rfl, rfl, rfl⟩ | ⟨hT, rfl, rfl, A9, rfl, hA⟩
  · have e0 : mm = 0 := by rw [← HTL.out, hT]; rfl
    subst e0
    clear hT
    have HVL := Lib.hid (lives8 (w))
    go_wp2_with fail
    refine (HVL.out).mono ?_
    rintro e w9 ⟨rfl, hb⟩
    have HB9 := Lib.hid (hb)
    clear hb HVL
    go_wp2_with fail
    exact HDN.out _ _ _ _ _ _ _ _ _ _ _ _ _ _ _ _ _ _ _ _ _ _ _ w9 HB9.out
  · have hp : (0 : Int) < (mm : Int) := by rw [← HTL.out]; have := List.length_pos_iff.2 hT; omega
    have h19 := same19t (c := T.length) (c2 := c16) w hA HDD.out
    rw [HTL.out] at h19
    have H19 := Lib.hid h19
    have htl := HTL.out
    have hdn := HDN.out
    rw [htl] at hdn ⊢
    have HDN := Lib.hid hdn
    clear hT hA h19 htl hdn
    go_wp2_with fail
    refine (H19.out).mono ?_
    rintro e w1 ⟨rfl, j, rfl⟩
    have HBJ : Hid (Below w.heap.size w (w.drewN j)) := Lib.hid ⟨rfl, rfl, rfl, Nat.le_refl _, fun _ _ => rfl⟩
    have HVL := Lib.hid (lives8 (w.drewN j))
    go_wp2_with fail
    refine (HVL.out).mono ?_
    rintro e w9 ⟨rfl, hb⟩
    have HB9 := Lib.hid (HBJ.out.trans hb)
    clear hb HVL
    go_wp2_with fail
    exact HDN.out _ _ _ _ _ _ _ _ _ _ _ _ _ _ _ _ _ _ _ _ _ _ _ w9 HB9.out
end Go.Proofs.YtfolamkjlgpgmabDoor
