/- The region of OptionsKinds that makes four options. No condition but that the parts are few. (Printed by gRegK.py.) -/
import Derived.Test.YtfolamkjlgpgmaaDoorKindsP
import Derived.Outline
namespace Go.Proofs.YtfolamkjlgpgmaaDoor
open Go.RowKit
set_option linter.unusedVariables false
set_option linter.unusedSimpArgs false
/-- a row of four options made -/
def MadeRow4 (w0 W : World) (D : List (Nat × List Nat)) (v : Value) : Prop := ∃ (T : List Opt) (g : Nat), v = .slice (some ⟨g, 0, none⟩) 4 4 ∧ T.length = 4 ∧ kdO T = D ∧ OptsRd W W.heap.size (some ⟨g, 0, none⟩) T ∧ Below w0.heap.size w0 W
theorem AccL.row4 {w0 W : World} {T : List Opt} (h : AccL w0 W T) (hT : T.length = 4) : MadeRow4 w0 (W.alloc (.cells (rowV T).toArray 41)) (kdO T) (.slice (some ⟨W.heap.size, 0, none⟩) 4 4) := by
  have hb : Below W.heap.size W (W.alloc (.cells (rowV T).toArray 41)) := (Below.refl _ _).alloc (Nat.le_refl _) _
  have k0 := h.step hb
  have hr := heap_alloc_new W (.cells (rowV T).toArray 41)
  refine ⟨T, W.heap.size, rfl, hT, rfl, ⟨fun _ => ⟨W.heap.size, 0, rfl, lt_of_blk hr, fun i x hx => ?_⟩, k0.each, by omega⟩, k0.below⟩
  obtain ⟨r1, r2⟩ := rowV_get hx
  rw [Nat.zero_add, cell_blk hr, cell_blk hr, List.getElem?_toArray, List.getElem?_toArray]
  exact ⟨r1, r2⟩
set_option maxRecDepth 100000 in
set_option maxHeartbeats 20000000 in
theorem regK3 {kd bits v p n bC sC dC nb ns nd : Nat} {m x q : Nat → Nat} {on auto : Bool} {bA sA dA : Option Addr} {S : List (Nat → Nat)} {bx : Nat} {w : World} (hbx : w.heap[bx]? = some (.cells #[.int .u8 (kd : Int), .int .u8 (m 0 : Int), .int .u8 (m 1 : Int), .int .u8 (m 2 : Int), .int .u8 (m 3 : Int), .int .u8 (m 4 : Int), .int .u8 (m 5 : Int), .int .u8 (x 0 : Int), .int .u8 (x 1 : Int), .int .u8 (x 2 : Int), .int .u8 (x 3 : Int), .int .u8 (x 4 : Int), .int .u8 (x 5 : Int), .int .u8 (x 6 : Int), .int .u8 (x 7 : Int), .int .u8 (x 8 : Int), .int .u8 (x 9 : Int), .int .u8 (x 10 : Int), .int .u8 (x 11 : Int), .int .u8 (x 12 : Int), .int .u8 (x 13 : Int), .int .u8 (x 14 : Int), .int .u8 (x 15 : Int), .int .u8 (bits : Int), .bool on, .bool auto, .int .u32 (v : Int), .int .u32 (p : Int), .slice bA nb bC, .int .u32 (n : Int), .int .u8 (q 0 : Int), .int .u8 (q 1 : Int), .int .u8 (q 2 : Int), .int .u8 (q 3 : Int), .int .u8 (q 4 : Int), .int .u8 (q 5 : Int), .slice sA ns sC, .slice dA nd dC] 60 (0, 0)))
    (hv : v < 4294967296) (hp : p < 4294967296) (hn : n < 4294967296) (hSS : AdrsAt w w.heap.size sA S) (hns : S.length = ns)
    {u0 u1 u3 u4 u5 u6 u7 u8 u9 u10 u11 u12 u13 u14 u15 u16 u17 u18 u19 u20 u21 u22 u23 u24 u25 u26 u27 u28 u29 u30 u31 u32 u33 u34 u35 u36 u37 u38 u39 u40 u41 u42 u43 u44 u45 u46 u47 u48 u49 u50 u51 u52 u53 u54 u55 u56 u57 u58 u59 u60 u61 u62 u63 u64 u65 u66 u67 u68 u69 u70 u71 u72 u73 u74 u75 u76 u77 u78 u79 u80 u81 u82 u83 u84 u85 u86 u87 u88 u89 u90 u91 u92 u93 u94 u95 u96 u97 u98 u99 u100 u101 u102 u103 u104 u105 u106 u107 u108 u109 u110 u111 u112 u113 u114 u115 u116 u117 u118 u119 u120 u121 u122 u123 : Value} {Q : Exit → Act → World → Prop} (hQ : ∀ c (a : Act) d v W, Q (.panic c) (a.put d v) W → Q (.panic c) a W)
    (h : ∀ (z r22 r23 r24 r25 r26 r27 r28 r29 r30 r31 r32 r33 r34 r35 r36 : Value) (W : World), MadeRow4 w W (madeK bits v p n m x on auto S) z → Q .normal ⟨(List.toArray (u0 :: u1 :: .pointer (some ⟨bx, 0, none⟩) :: u3 :: u4 :: z :: u6 :: u7 :: u8 :: u9 :: u10 :: u11 :: u12 :: u13 :: u14 :: u15 :: u16 :: u17 :: u18 :: u19 :: u20 :: u21 :: r22 :: r23 :: r24 :: r25 :: r26 :: r27 :: r28 :: r29 :: r30 :: r31 :: r32 :: r33 :: r34 :: r35 :: r36 :: u37 :: u38 :: u39 :: u40 :: u41 :: u42 :: u43 :: u44 :: u45 :: u46 :: u47 :: u48 :: u49 :: u50 :: u51 :: u52 :: u53 :: u54 :: u55 :: u56 :: u57 :: u58 :: u59 :: u60 :: u61 :: u62 :: u63 :: u64 :: u65 :: u66 :: u67 :: u68 :: u69 :: u70 :: u71 :: u72 :: u73 :: u74 :: u75 :: u76 :: u77 :: u78 :: u79 :: u80 :: u81 :: u82 :: u83 :: u84 :: u85 :: u86 :: u87 :: u88 :: u89 :: u90 :: u91 :: u92 :: u93 :: u94 :: u95 :: u96 :: u97 :: u98 :: u99 :: u100 :: u101 :: u102 :: u103 :: u104 :: u105 :: u106 :: u107 :: u108 :: u109 :: u110 :: u111 :: u112 :: u113 :: u114 :: u115 :: u116 :: u117 :: u118 :: u119 :: u120 :: u121 :: u122 :: u123 :: [])), []⟩ W) :
    (codeAt [1, 1, 0] (Tryd.f7.body.getD .skip)).wp Tryd.prog Q ⟨(List.toArray (u0 :: u1 :: .pointer (some ⟨bx, 0, none⟩) :: u3 :: u4 :: u5 :: u6 :: u7 :: u8 :: u9 :: u10 :: u11 :: u12 :: u13 :: u14 :: u15 :: u16 :: u17 :: u18 :: u19 :: u20 :: u21 :: u22 :: u23 :: u24 :: u25 :: u26 :: u27 :: u28 :: u29 :: u30 :: u31 :: u32 :: u33 :: u34 :: u35 :: u36 :: u37 :: u38 :: u39 :: u40 :: u41 :: u42 :: u43 :: u44 :: u45 :: u46 :: u47 :: u48 :: u49 :: u50 :: u51 :: u52 :: u53 :: u54 :: u55 :: u56 :: u57 :: u58 :: u59 :: u60 :: u61 :: u62 :: u63 :: u64 :: u65 :: u66 :: u67 :: u68 :: u69 :: u70 :: u71 :: u72 :: u73 :: u74 :: u75 :: u76 :: u77 :: u78 :: u79 :: u80 :: u81 :: u82 :: u83 :: u84 :: u85 :: u86 :: u87 :: u88 :: u89 :: u90 :: u91 :: u92 :: u93 :: u94 :: u95 :: u96 :: u97 :: u98 :: u99 :: u100 :: u101 :: u102 :: u103 :: u104 :: u105 :: u106 :: u107 :: u108 :: u109 :: u110 :: u111 :: u112 :: u113 :: u114 :: u115 :: u116 :: u117 :: u118 :: u119 :: u120 :: u121 :: u122 :: u123 :: [])), []⟩ w := by
  have HBX := Lib.hid hbx
  have ck29 : ∀ W : World, Below w.heap.size w W → W.cell? ⟨bx, 29, none⟩ = some (.int .u32 (n : Int)) := fun W hW => (cell_blk ((hW.block bx (lt_of_blk HBX.out)).trans HBX.out) 29).trans rfl
  have ck36 : ∀ W : World, Below w.heap.size w W → W.cell? ⟨bx, 36, none⟩ = some (.slice sA ns sC) := fun W hW => (cell_blk ((hW.block bx (lt_of_blk HBX.out)).trans HBX.out) 36).trans rfl
  have cm1 : ∀ W : World, Below w.heap.size w W → W.rangeAt bx 1 [.int .u8 (m 0 : Int), .int .u8 (m 1 : Int), .int .u8 (m 2 : Int), .int .u8 (m 3 : Int), .int .u8 (m 4 : Int), .int .u8 (m 5 : Int)] := fun W hW => mid_at [.int .u8 (kd : Int)] [.int .u8 (m 0 : Int), .int .u8 (m 1 : Int), .int .u8 (m 2 : Int), .int .u8 (m 3 : Int), .int .u8 (m 4 : Int), .int .u8 (m 5 : Int)] [.int .u8 (x 0 : Int), .int .u8 (x 1 : Int), .int .u8 (x 2 : Int), .int .u8 (x 3 : Int), .int .u8 (x 4 : Int), .int .u8 (x 5 : Int), .int .u8 (x 6 : Int), .int .u8 (x 7 : Int), .int .u8 (x 8 : Int), .int .u8 (x 9 : Int), .int .u8 (x 10 : Int), .int .u8 (x 11 : Int), .int .u8 (x 12 : Int), .int .u8 (x 13 : Int), .int .u8 (x 14 : Int), .int .u8 (x 15 : Int), .int .u8 (bits : Int), .bool on, .bool auto, .int .u32 (v : Int), .int .u32 (p : Int), .slice bA nb bC, .int .u32 (n : Int), .int .u8 (q 0 : Int), .int .u8 (q 1 : Int), .int .u8 (q 2 : Int), .int .u8 (q 3 : Int), .int .u8 (q 4 : Int), .int .u8 (q 5 : Int), .slice sA ns sC, .slice dA nd dC] ((hW.block bx (lt_of_blk HBX.out)).trans HBX.out)
  have cm7 : ∀ W : World, Below w.heap.size w W → W.rangeAt bx 7 [.int .u8 (x 0 : Int), .int .u8 (x 1 : Int), .int .u8 (x 2 : Int), .int .u8 (x 3 : Int), .int .u8 (x 4 : Int), .int .u8 (x 5 : Int), .int .u8 (x 6 : Int), .int .u8 (x 7 : Int), .int .u8 (x 8 : Int), .int .u8 (x 9 : Int), .int .u8 (x 10 : Int), .int .u8 (x 11 : Int), .int .u8 (x 12 : Int), .int .u8 (x 13 : Int), .int .u8 (x 14 : Int), .int .u8 (x 15 : Int), .int .u8 (bits : Int), .bool on, .bool auto, .int .u32 (v : Int), .int .u32 (p : Int)] := fun W hW => mid_at [.int .u8 (kd : Int), .int .u8 (m 0 : Int), .int .u8 (m 1 : Int), .int .u8 (m 2 : Int), .int .u8 (m 3 : Int), .int .u8 (m 4 : Int), .int .u8 (m 5 : Int)] [.int .u8 (x 0 : Int), .int .u8 (x 1 : Int), .int .u8 (x 2 : Int), .int .u8 (x 3 : Int), .int .u8 (x 4 : Int), .int .u8 (x 5 : Int), .int .u8 (x 6 : Int), .int .u8 (x 7 : Int), .int .u8 (x 8 : Int), .int .u8 (x 9 : Int), .int .u8 (x 10 : Int), .int .u8 (x 11 : Int), .int .u8 (x 12 : Int), .int .u8 (x 13 : Int), .int .u8 (x 14 : Int), .int .u8 (x 15 : Int), .int .u8 (bits : Int), .bool on, .bool auto, .int .u32 (v : Int), .int .u32 (p : Int)] [.slice bA nb bC, .int .u32 (n : Int), .int .u8 (q 0 : Int), .int .u8 (q 1 : Int), .int .u8 (q 2 : Int), .int .u8 (q 3 : Int), .int .u8 (q 4 : Int), .int .u8 (q 5 : Int), .slice sA ns sC, .slice dA nd dC] ((hW.block bx (lt_of_blk HBX.out)).trans HBX.out)
  have HV := Lib.hid hv; have HP := Lib.hid hp; have HN := Lib.hid hn; have HSS := Lib.hid hSS; have HNS := Lib.hid hns
  have HC0 : Hid (∀ W : World, Below w.heap.size w W → Calls Tryd.prog 29 #[.int .u8 1, .agg #[.int .u8 (m 0 : Int), .int .u8 (m 1 : Int), .int .u8 (m 2 : Int), .int .u8 (m 3 : Int), .int .u8 (m 4 : Int), .int .u8 (m 5 : Int)]] W (MadePost 1 [m 0, m 1, m 2, m 3, m 4, m 5] W)) := Lib.hid fun W hW => link29 1 _ _ _ _ _ _ W
  have HC1 : Hid (∀ W : World, Below w.heap.size w W → Calls Tryd.prog 30 #[.agg #[.int .u8 (x 0 : Int), .int .u8 (x 1 : Int), .int .u8 (x 2 : Int), .int .u8 (x 3 : Int), .int .u8 (x 4 : Int), .int .u8 (x 5 : Int), .int .u8 (x 6 : Int), .int .u8 (x 7 : Int), .int .u8 (x 8 : Int), .int .u8 (x 9 : Int), .int .u8 (x 10 : Int), .int .u8 (x 11 : Int), .int .u8 (x 12 : Int), .int .u8 (x 13 : Int), .int .u8 (x 14 : Int), .int .u8 (x 15 : Int), .int .u8 (bits : Int), .bool on, .bool auto, .int .u32 (v : Int), .int .u32 (p : Int)]] W (MadePost 3 (infoB x bits v p (flagO on auto)) W)) := Lib.hid fun W hW => info30 x bits v p on auto HV.out HP.out W
  have HC2 : Hid (∀ W : World, Below w.heap.size w W → Calls Tryd.prog 32 #[.int .u32 (n : Int)] W (MadePost 5 ([0, 0] ++ be4 n) W)) := Lib.hid fun W hW => mtu32 n HN.out W
  have HC3 : Hid (∀ W : World, Below w.heap.size w W → Calls Tryd.prog 34 #[.int .u32 (n : Int), .slice sA ns sC] W (MadePost 25 (servB n S) W)) := Lib.hid fun W hW => (by have h := serv34 (c := sC) HN.out W ((HSS.out.below hW).mono hW.size); rw [HNS.out] at h; exact h)
  clear hbx hv hp hn hSS hns
  have HA := Lib.hid (AccL.step (AccL.nil w) (Below.refl _ _).drew)
  have hS : Below w.heap.size w w.drew := (Below.refl _ _).drew
  conv in codeAt _ _ => whnf
  refine wp_region_held_drew (S := fun W => Below w.heap.size w W) (by kernel_rfl) hS ?_
  clear hS
  intro HS
  refine wpAnyH_take (i := 0) (v := .pointer (some ⟨bx, 1, none⟩)) rfl (by kernel_rfl) (by kernel_rfl) (by kernel_rfl) (fun c x W h => hQ c _ _ _ W h) (Or.inl ⟨by go_simp, fun W hW => by go_simp⟩) HS ?_
  try simp only [List.getElem_toArray, List.getElem_cons_zero, List.getElem_cons_succ, Act.put, List.setIfInBounds_toArray, List.set_cons_zero, List.set_cons_succ]
  refine wpAnyH_take (i := 1) (v := .agg #[.int .u8 (m 0 : Int), .int .u8 (m 1 : Int), .int .u8 (m 2 : Int), .int .u8 (m 3 : Int), .int .u8 (m 4 : Int), .int .u8 (m 5 : Int)]) rfl (by kernel_rfl) (by kernel_rfl) (by kernel_rfl) (fun c x W h => hQ c _ _ _ W h) (by refine yieldsIf_load_mid ?_ 49 (.tmp 22) rfl bx 1 ?_ [.int .u8 (m 0 : Int), .int .u8 (m 1 : Int), .int .u8 (m 2 : Int), .int .u8 (m 3 : Int), .int .u8 (m 4 : Int), .int .u8 (m 5 : Int)] _ (fun W hW => cm1 W hW) Tryd.underlying49 rfl size49; (go_simp); (go_simp)) HS ?_
  try simp only [List.getElem_toArray, List.getElem_cons_zero, List.getElem_cons_succ, Act.put, List.setIfInBounds_toArray, List.set_cons_zero, List.set_cons_succ]
  refine wpAnyH_take (i := 3) (v := .pointer (some ⟨bx, 7, none⟩)) rfl (by kernel_rfl) (by kernel_rfl) (by kernel_rfl) (fun c x W h => hQ c _ _ _ W h) (Or.inl ⟨by go_simp, fun W hW => by go_simp⟩) HS ?_
  try simp only [List.getElem_toArray, List.getElem_cons_zero, List.getElem_cons_succ, Act.put, List.setIfInBounds_toArray, List.set_cons_zero, List.set_cons_succ]
  refine wpAnyH_take (i := 4) (v := .agg #[.int .u8 (x 0 : Int), .int .u8 (x 1 : Int), .int .u8 (x 2 : Int), .int .u8 (x 3 : Int), .int .u8 (x 4 : Int), .int .u8 (x 5 : Int), .int .u8 (x 6 : Int), .int .u8 (x 7 : Int), .int .u8 (x 8 : Int), .int .u8 (x 9 : Int), .int .u8 (x 10 : Int), .int .u8 (x 11 : Int), .int .u8 (x 12 : Int), .int .u8 (x 13 : Int), .int .u8 (x 14 : Int), .int .u8 (x 15 : Int), .int .u8 (bits : Int), .bool on, .bool auto, .int .u32 (v : Int), .int .u32 (p : Int)]) rfl (by kernel_rfl) (by kernel_rfl) (by kernel_rfl) (fun c x W h => hQ c _ _ _ W h) (by refine yieldsIf_load_mid ?_ 56 (.tmp 25) rfl bx 7 ?_ [.int .u8 (x 0 : Int), .int .u8 (x 1 : Int), .int .u8 (x 2 : Int), .int .u8 (x 3 : Int), .int .u8 (x 4 : Int), .int .u8 (x 5 : Int), .int .u8 (x 6 : Int), .int .u8 (x 7 : Int), .int .u8 (x 8 : Int), .int .u8 (x 9 : Int), .int .u8 (x 10 : Int), .int .u8 (x 11 : Int), .int .u8 (x 12 : Int), .int .u8 (x 13 : Int), .int .u8 (x 14 : Int), .int .u8 (x 15 : Int), .int .u8 (bits : Int), .bool on, .bool auto, .int .u32 (v : Int), .int .u32 (p : Int)] _ (fun W hW => cm7 W hW) Tryd.underlying56 rfl size56; (go_simp); (go_simp)) HS ?_
  try simp only [List.getElem_toArray, List.getElem_cons_zero, List.getElem_cons_succ, Act.put, List.setIfInBounds_toArray, List.set_cons_zero, List.set_cons_succ]
  refine wpAnyH_take (i := 6) (v := .pointer (some ⟨bx, 29, none⟩)) rfl (by kernel_rfl) (by kernel_rfl) (by kernel_rfl) (fun c x W h => hQ c _ _ _ W h) (Or.inl ⟨by go_simp, fun W hW => by go_simp⟩) HS ?_
  try simp only [List.getElem_toArray, List.getElem_cons_zero, List.getElem_cons_succ, Act.put, List.setIfInBounds_toArray, List.set_cons_zero, List.set_cons_succ]
  refine wpAnyH_take (i := 7) (v := .int .u32 (n : Int)) rfl (by kernel_rfl) (by kernel_rfl) (by kernel_rfl) (fun c x W h => hQ c _ _ _ W h) (Or.inl ⟨by go_simp, fun W hW => by have c29 := ck29 W hW; go_simp⟩) HS ?_
  try simp only [List.getElem_toArray, List.getElem_cons_zero, List.getElem_cons_succ, Act.put, List.setIfInBounds_toArray, List.set_cons_zero, List.set_cons_succ]
  refine wpAnyH_take (i := 9) (v := .pointer (some ⟨bx, 29, none⟩)) rfl (by kernel_rfl) (by kernel_rfl) (by kernel_rfl) (fun c x W h => hQ c _ _ _ W h) (Or.inl ⟨by go_simp, fun W hW => by go_simp⟩) HS ?_
  try simp only [List.getElem_toArray, List.getElem_cons_zero, List.getElem_cons_succ, Act.put, List.setIfInBounds_toArray, List.set_cons_zero, List.set_cons_succ]
  refine wpAnyH_take (i := 10) (v := .int .u32 (n : Int)) rfl (by kernel_rfl) (by kernel_rfl) (by kernel_rfl) (fun c x W h => hQ c _ _ _ W h) (Or.inl ⟨by go_simp, fun W hW => by have c29 := ck29 W hW; go_simp⟩) HS ?_
  try simp only [List.getElem_toArray, List.getElem_cons_zero, List.getElem_cons_succ, Act.put, List.setIfInBounds_toArray, List.set_cons_zero, List.set_cons_succ]
  refine wpAnyH_take (i := 11) (v := .pointer (some ⟨bx, 36, none⟩)) rfl (by kernel_rfl) (by kernel_rfl) (by kernel_rfl) (fun c x W h => hQ c _ _ _ W h) (Or.inl ⟨by go_simp, fun W hW => by go_simp⟩) HS ?_
  try simp only [List.getElem_toArray, List.getElem_cons_zero, List.getElem_cons_succ, Act.put, List.setIfInBounds_toArray, List.set_cons_zero, List.set_cons_succ]
  refine wpAnyH_take (i := 12) (v := .slice sA ns sC) rfl (by kernel_rfl) (by kernel_rfl) (by kernel_rfl) (fun c x W h => hQ c _ _ _ W h) (Or.inl ⟨by go_simp, fun W hW => by have c36 := ck36 W hW; go_simp⟩) HS ?_
  try simp only [List.getElem_toArray, List.getElem_cons_zero, List.getElem_cons_succ, Act.put, List.setIfInBounds_toArray, List.set_cons_zero, List.set_cons_succ]
  refine wpAnyH_ready (rs := [2]) (by kernel_rfl) (by simp) ?_
  refine AllReadyH.cons rfl (fun K hK => ?_) AllReadyH.nil
  rw [if_pos (by kernel_rfl)]
  simp only [List.getElem_toArray, List.getElem_cons_zero, List.getElem_cons_succ]
  go_simp
  refine (HC0.out _ HS).mono ?_
  intro e w0 hm
  obtain ⟨A0, c0, n0, rfl, e0, ha, hb0⟩ := HA.out.made hm
  have HA := Lib.hid ha
  have HE0 := Lib.hid e0
  have hW0 := HS.trans (hb0.mono HS.size)
  refine hK.out _ _ hW0 (fun HS => ?_)
  clear hK hm ha hb0 hW0 e0
  try simp only [List.getElem_toArray, List.getElem_cons_zero, List.getElem_cons_succ, Act.put, List.setIfInBounds_toArray, List.set_cons_zero, List.set_cons_succ]
  refine wpAnyH_ready (rs := [5]) (by kernel_rfl) (by simp) ?_
  refine AllReadyH.cons rfl (fun K hK => ?_) AllReadyH.nil
  rw [if_pos (by kernel_rfl)]
  simp only [List.getElem_toArray, List.getElem_cons_zero, List.getElem_cons_succ]
  go_simp
  refine (HC1.out _ HS).mono ?_
  intro e w1 hm
  obtain ⟨A1, c1, n1, rfl, e1, ha, hb1⟩ := HA.out.made hm
  have HA := Lib.hid ha
  have HE1 := Lib.hid e1
  have hW1 := HS.trans (hb1.mono HS.size)
  refine hK.out _ _ hW1 (fun HS => ?_)
  clear hK hm ha hb1 hW1 e1
  try simp only [List.getElem_toArray, List.getElem_cons_zero, List.getElem_cons_succ, Act.put, List.setIfInBounds_toArray, List.set_cons_zero, List.set_cons_succ]
  refine wpAnyH_ready (rs := [8]) (by kernel_rfl) (by simp) ?_
  refine AllReadyH.cons rfl (fun K hK => ?_) AllReadyH.nil
  rw [if_pos (by kernel_rfl)]
  simp only [List.getElem_toArray, List.getElem_cons_zero, List.getElem_cons_succ]
  go_simp
  refine (HC2.out _ HS).mono ?_
  intro e w2 hm
  obtain ⟨A2, c2, n2, rfl, e2, ha, hb2⟩ := HA.out.made hm
  have HA := Lib.hid ha
  have HE2 := Lib.hid e2
  have hW2 := HS.trans (hb2.mono HS.size)
  refine hK.out _ _ hW2 (fun HS => ?_)
  clear hK hm ha hb2 hW2 e2
  try simp only [List.getElem_toArray, List.getElem_cons_zero, List.getElem_cons_succ, Act.put, List.setIfInBounds_toArray, List.set_cons_zero, List.set_cons_succ]
  refine wpAnyH_ready (rs := [13]) (by kernel_rfl) (by simp) ?_
  refine AllReadyH.cons rfl (fun K hK => ?_) AllReadyH.nil
  rw [if_pos (by kernel_rfl)]
  simp only [List.getElem_toArray, List.getElem_cons_zero, List.getElem_cons_succ]
  go_simp
  refine (HC3.out _ HS).mono ?_
  intro e w3 hm
  obtain ⟨A3, c3, n3, rfl, e3, ha, hb3⟩ := HA.out.made hm
  have HA := Lib.hid ha
  have HE3 := Lib.hid e3
  have hW3 := HS.trans (hb3.mono HS.size)
  refine hK.out _ _ hW3 (fun HS => ?_)
  clear hK hm ha hb3 hW3 e3
  try simp only [List.getElem_toArray, List.getElem_cons_zero, List.getElem_cons_succ, Act.put, List.setIfInBounds_toArray, List.set_cons_zero, List.set_cons_succ]
  have HR := Lib.hid (HA.out.row4 rfl)
  have HWR := Lib.hid (HS.trans ((Below.refl w3.heap.size w3).alloc (Nat.le_refl _) (.cells (List.toArray [.int .u8 (1 : Int), .slice A0 n0 c0, .int .u8 (3 : Int), .slice A1 n1 c1, .int .u8 (5 : Int), .slice A2 n2 c2, .int .u8 (25 : Int), .slice A3 n3 c3]) 41)|>.mono HS.size))
  have hcells : (rowV [⟨1, A0, c0, [m 0, m 1, m 2, m 3, m 4, m 5]⟩, ⟨3, A1, c1, (infoB x bits v p (flagO on auto))⟩, ⟨5, A2, c2, ([0, 0] ++ be4 n)⟩, ⟨25, A3, c3, (servB n S)⟩]).toArray = List.toArray [.int .u8 (1 : Int), .slice A0 n0 c0, .int .u8 (3 : Int), .slice A1 n1 c1, .int .u8 (5 : Int), .slice A2 n2 c2, .int .u8 (25 : Int), .slice A3 n3 c3] := by
    simp only [rowV, List.flatMap_cons, List.flatMap_nil, List.append_nil, HE0.out, HE1.out, HE2.out, HE3.out]
    rfl
  have HR1 : Hid (MadeRow4 w (w3.alloc (.cells (List.toArray [.int .u8 (1 : Int), .slice A0 n0 c0, .int .u8 (3 : Int), .slice A1 n1 c1, .int .u8 (5 : Int), .slice A2 n2 c2, .int .u8 (25 : Int), .slice A3 n3 c3]) 41)) (madeK bits v p n m x on auto S) (.slice (some ⟨w3.heap.size, 0, none⟩) 4 4)) := Lib.hid (by
    rw [← hcells]; exact HR.out)
  clear hcells HR
  refine wpAnyH_ready (rs := [14]) (by kernel_rfl) (by simp) ?_
  refine AllReadyH.cons rfl (fun K hK => ?_) AllReadyH.nil
  rw [if_pos (by kernel_rfl)]
  simp only [List.getElem_toArray, List.getElem_cons_zero, List.getElem_cons_succ]
  go_simp
  refine hK.out _ _ HWR.out (fun HS => ?_)
  clear hK
  try simp only [List.getElem_toArray, List.getElem_cons_zero, List.getElem_cons_succ, Act.put, List.setIfInBounds_toArray, List.set_cons_zero, List.set_cons_succ]
  refine wpAnyH_take (i := 15) (v := ?_) rfl (by kernel_rfl) (by kernel_rfl) (by kernel_rfl) (fun c x W h => hQ c _ _ _ W h) (Or.inl ⟨by go_simp, ?hy⟩) HS ?_
  case hy => intro W hW; go_simp; (try with_reducible rfl)
  try simp only [List.getElem_toArray, List.getElem_cons_zero, List.getElem_cons_succ, Act.put, List.setIfInBounds_toArray, List.set_cons_zero, List.set_cons_succ]
  refine wpAnyH_done (by kernel_rfl) ?_ _
  exact h _ _ _ _ _ _ _ _ _ _ _ _ _ _ _ _ _ HR1.out
end Go.Proofs.YtfolamkjlgpgmaaDoor
