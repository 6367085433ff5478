/- The great region 6 of OptionsMade: seven options made. No condition but that the parts are few. (Printed by gReg.py.) -/
import Derived.Test.YtfolamkjlgpgmaaDoorAcc
import Derived.Outline
namespace Go.Proofs.YtfolamkjlgpgmaaDoor
open Go.RowKit
set_option linter.unusedVariables false
set_option linter.unusedSimpArgs false
set_option maxRecDepth 100000 in
set_option maxHeartbeats 20000000 in
theorem reg6 {kd bits v p n bC sC dC nb ns nd : Nat} {m x q : Nat → Nat} {on auto : Bool} {bA sA dA : Option Addr} {tA uA yA : Option Addr} {tC uC yC : Nat} {B : List Nat} {S : List (Nat → Nat)} {D : List ByteArray} {bx : Nat} {w : World} (hbx : w.heap[bx]? = some (.cells #[.int .u8 (kd : Int), .int .u8 (m 0 : Int), .int .u8 (m 1 : Int), .int .u8 (m 2 : Int), .int .u8 (m 3 : Int), .int .u8 (m 4 : Int), .int .u8 (m 5 : Int), .int .u8 (x 0 : Int), .int .u8 (x 1 : Int), .int .u8 (x 2 : Int), .int .u8 (x 3 : Int), .int .u8 (x 4 : Int), .int .u8 (x 5 : Int), .int .u8 (x 6 : Int), .int .u8 (x 7 : Int), .int .u8 (x 8 : Int), .int .u8 (x 9 : Int), .int .u8 (x 10 : Int), .int .u8 (x 11 : Int), .int .u8 (x 12 : Int), .int .u8 (x 13 : Int), .int .u8 (x 14 : Int), .int .u8 (x 15 : Int), .int .u8 (bits : Int), .bool on, .bool auto, .int .u32 (v : Int), .int .u32 (p : Int), .slice bA nb bC, .int .u32 (n : Int), .int .u8 (q 0 : Int), .int .u8 (q 1 : Int), .int .u8 (q 2 : Int), .int .u8 (q 3 : Int), .int .u8 (q 4 : Int), .int .u8 (q 5 : Int), .slice sA ns sC, .slice dA nd dC] 60 (0, 0)))
    (hv : v < 4294967296) (hp : p < 4294967296) (hn : n < 4294967296) (hB : Bs w w.heap.size tA tC B) (hBl : B.length ≤ 4000) (hnb : B.length = nb) (hSS : AdrsAt w w.heap.size uA S) (hns : S.length = ns) (hDD : DomsAt w w.heap.size yA D) (hnd : D.length = nd) (hmx : ∃ m : Int, w.cell? ⟨0, 0, none⟩ = some (.int .i64 m))
    {u0 u2 u6 u7 u8 u9 u10 u11 u12 u13 u14 u15 u16 u17 u18 u19 u20 u21 u22 u23 u24 u25 u26 u27 u28 u29 u30 u31 u32 u33 u34 u35 u36 u37 u38 u39 u40 u41 u42 u43 u44 u45 u46 u47 u48 u49 u50 u51 u52 u53 u54 u55 u56 u57 u58 u59 u60 u61 u62 u63 u64 u65 u66 u67 u68 u69 u70 u71 u72 u73 u74 u75 u76 u77 u78 u79 u80 u81 u82 u83 u84 u85 u86 u87 u88 u89 u90 u91 u92 u93 u94 u95 u96 u97 u98 u99 u100 u101 u102 u103 u104 u105 u106 u107 : Value} {Q : Exit → Act → World → Prop} (hQ : ∀ c (a : Act) d v W, Q (.panic c) (a.put d v) W → Q (.panic c) a W)
    (h : ∀ (z r21 r22 r23 r24 r25 r26 r27 r28 r29 r30 r31 r32 r33 r34 r35 r36 r37 r38 r39 r40 r41 r42 r43 r44 r45 : Value) (W : World), MadeRow w W (madeD kd bits v p n m x q on auto B S D) z → Q .normal ⟨(List.toArray (u0 :: .pointer (some ⟨bx, 0, none⟩) :: u2 :: .slice tA nb tC :: .slice uA ns uC :: .slice yA nd yC :: z :: u7 :: u8 :: u9 :: u10 :: u11 :: u12 :: u13 :: u14 :: u15 :: u16 :: u17 :: u18 :: u19 :: u20 :: r21 :: r22 :: r23 :: r24 :: r25 :: r26 :: r27 :: r28 :: r29 :: r30 :: r31 :: r32 :: r33 :: r34 :: r35 :: r36 :: r37 :: r38 :: r39 :: r40 :: r41 :: r42 :: r43 :: r44 :: r45 :: u46 :: u47 :: u48 :: u49 :: u50 :: u51 :: u52 :: u53 :: u54 :: u55 :: u56 :: u57 :: u58 :: u59 :: u60 :: u61 :: u62 :: u63 :: u64 :: u65 :: u66 :: u67 :: u68 :: u69 :: u70 :: u71 :: u72 :: u73 :: u74 :: u75 :: u76 :: u77 :: u78 :: u79 :: u80 :: u81 :: u82 :: u83 :: u84 :: u85 :: u86 :: u87 :: u88 :: u89 :: u90 :: u91 :: u92 :: u93 :: u94 :: u95 :: u96 :: u97 :: u98 :: u99 :: u100 :: u101 :: u102 :: u103 :: u104 :: u105 :: u106 :: u107 :: [])), []⟩ W) :
    (codeAt [1, 1, 1, 1, 1, 0] (Tryd.f6.body.getD .skip)).wp Tryd.prog Q ⟨(List.toArray (u0 :: .pointer (some ⟨bx, 0, none⟩) :: u2 :: .slice tA nb tC :: .slice uA ns uC :: .slice yA nd yC :: u6 :: u7 :: u8 :: u9 :: u10 :: u11 :: u12 :: u13 :: u14 :: u15 :: u16 :: u17 :: u18 :: u19 :: u20 :: u21 :: u22 :: u23 :: u24 :: u25 :: u26 :: u27 :: u28 :: u29 :: u30 :: u31 :: u32 :: u33 :: u34 :: u35 :: u36 :: u37 :: u38 :: u39 :: u40 :: u41 :: u42 :: u43 :: u44 :: u45 :: u46 :: u47 :: u48 :: u49 :: u50 :: u51 :: u52 :: u53 :: u54 :: u55 :: u56 :: u57 :: u58 :: u59 :: u60 :: u61 :: u62 :: u63 :: u64 :: u65 :: u66 :: u67 :: u68 :: u69 :: u70 :: u71 :: u72 :: u73 :: u74 :: u75 :: u76 :: u77 :: u78 :: u79 :: u80 :: u81 :: u82 :: u83 :: u84 :: u85 :: u86 :: u87 :: u88 :: u89 :: u90 :: u91 :: u92 :: u93 :: u94 :: u95 :: u96 :: u97 :: u98 :: u99 :: u100 :: u101 :: u102 :: u103 :: u104 :: u105 :: u106 :: u107 :: [])), []⟩ w := by
  have HBX := Lib.hid hbx
  have ck0 : ∀ W : World, Below w.heap.size w W → W.cell? ⟨bx, 0, none⟩ = some (.int .u8 (kd : Int)) := fun W hW => (cell_blk ((hW.block bx (lt_of_blk HBX.out)).trans HBX.out) 0).trans rfl
  have ck28 : ∀ W : World, Below w.heap.size w W → W.cell? ⟨bx, 28, none⟩ = some (.slice bA nb bC) := fun W hW => (cell_blk ((hW.block bx (lt_of_blk HBX.out)).trans HBX.out) 28).trans rfl
  have ck29 : ∀ W : World, Below w.heap.size w W → W.cell? ⟨bx, 29, none⟩ = some (.int .u32 (n : Int)) := fun W hW => (cell_blk ((hW.block bx (lt_of_blk HBX.out)).trans HBX.out) 29).trans rfl
  have ck36 : ∀ W : World, Below w.heap.size w W → W.cell? ⟨bx, 36, none⟩ = some (.slice sA ns sC) := fun W hW => (cell_blk ((hW.block bx (lt_of_blk HBX.out)).trans HBX.out) 36).trans rfl
  have ck37 : ∀ W : World, Below w.heap.size w W → W.cell? ⟨bx, 37, none⟩ = some (.slice dA nd dC) := fun W hW => (cell_blk ((hW.block bx (lt_of_blk HBX.out)).trans HBX.out) 37).trans rfl
  have cm1 : ∀ W : World, Below w.heap.size w W → W.rangeAt bx 1 [.int .u8 (m 0 : Int), .int .u8 (m 1 : Int), .int .u8 (m 2 : Int), .int .u8 (m 3 : Int), .int .u8 (m 4 : Int), .int .u8 (m 5 : Int)] := fun W hW => mid_at [.int .u8 (kd : Int)] [.int .u8 (m 0 : Int), .int .u8 (m 1 : Int), .int .u8 (m 2 : Int), .int .u8 (m 3 : Int), .int .u8 (m 4 : Int), .int .u8 (m 5 : Int)] [.int .u8 (x 0 : Int), .int .u8 (x 1 : Int), .int .u8 (x 2 : Int), .int .u8 (x 3 : Int), .int .u8 (x 4 : Int), .int .u8 (x 5 : Int), .int .u8 (x 6 : Int), .int .u8 (x 7 : Int), .int .u8 (x 8 : Int), .int .u8 (x 9 : Int), .int .u8 (x 10 : Int), .int .u8 (x 11 : Int), .int .u8 (x 12 : Int), .int .u8 (x 13 : Int), .int .u8 (x 14 : Int), .int .u8 (x 15 : Int), .int .u8 (bits : Int), .bool on, .bool auto, .int .u32 (v : Int), .int .u32 (p : Int), .slice bA nb bC, .int .u32 (n : Int), .int .u8 (q 0 : Int), .int .u8 (q 1 : Int), .int .u8 (q 2 : Int), .int .u8 (q 3 : Int), .int .u8 (q 4 : Int), .int .u8 (q 5 : Int), .slice sA ns sC, .slice dA nd dC] ((hW.block bx (lt_of_blk HBX.out)).trans HBX.out)
  have cm7 : ∀ W : World, Below w.heap.size w W → W.rangeAt bx 7 [.int .u8 (x 0 : Int), .int .u8 (x 1 : Int), .int .u8 (x 2 : Int), .int .u8 (x 3 : Int), .int .u8 (x 4 : Int), .int .u8 (x 5 : Int), .int .u8 (x 6 : Int), .int .u8 (x 7 : Int), .int .u8 (x 8 : Int), .int .u8 (x 9 : Int), .int .u8 (x 10 : Int), .int .u8 (x 11 : Int), .int .u8 (x 12 : Int), .int .u8 (x 13 : Int), .int .u8 (x 14 : Int), .int .u8 (x 15 : Int), .int .u8 (bits : Int), .bool on, .bool auto, .int .u32 (v : Int), .int .u32 (p : Int)] := fun W hW => mid_at [.int .u8 (kd : Int), .int .u8 (m 0 : Int), .int .u8 (m 1 : Int), .int .u8 (m 2 : Int), .int .u8 (m 3 : Int), .int .u8 (m 4 : Int), .int .u8 (m 5 : Int)] [.int .u8 (x 0 : Int), .int .u8 (x 1 : Int), .int .u8 (x 2 : Int), .int .u8 (x 3 : Int), .int .u8 (x 4 : Int), .int .u8 (x 5 : Int), .int .u8 (x 6 : Int), .int .u8 (x 7 : Int), .int .u8 (x 8 : Int), .int .u8 (x 9 : Int), .int .u8 (x 10 : Int), .int .u8 (x 11 : Int), .int .u8 (x 12 : Int), .int .u8 (x 13 : Int), .int .u8 (x 14 : Int), .int .u8 (x 15 : Int), .int .u8 (bits : Int), .bool on, .bool auto, .int .u32 (v : Int), .int .u32 (p : Int)] [.slice bA nb bC, .int .u32 (n : Int), .int .u8 (q 0 : Int), .int .u8 (q 1 : Int), .int .u8 (q 2 : Int), .int .u8 (q 3 : Int), .int .u8 (q 4 : Int), .int .u8 (q 5 : Int), .slice sA ns sC, .slice dA nd dC] ((hW.block bx (lt_of_blk HBX.out)).trans HBX.out)
  have cm30 : ∀ W : World, Below w.heap.size w W → W.rangeAt bx 30 [.int .u8 (q 0 : Int), .int .u8 (q 1 : Int), .int .u8 (q 2 : Int), .int .u8 (q 3 : Int), .int .u8 (q 4 : Int), .int .u8 (q 5 : Int)] := fun W hW => mid_at [.int .u8 (kd : Int), .int .u8 (m 0 : Int), .int .u8 (m 1 : Int), .int .u8 (m 2 : Int), .int .u8 (m 3 : Int), .int .u8 (m 4 : Int), .int .u8 (m 5 : Int), .int .u8 (x 0 : Int), .int .u8 (x 1 : Int), .int .u8 (x 2 : Int), .int .u8 (x 3 : Int), .int .u8 (x 4 : Int), .int .u8 (x 5 : Int), .int .u8 (x 6 : Int), .int .u8 (x 7 : Int), .int .u8 (x 8 : Int), .int .u8 (x 9 : Int), .int .u8 (x 10 : Int), .int .u8 (x 11 : Int), .int .u8 (x 12 : Int), .int .u8 (x 13 : Int), .int .u8 (x 14 : Int), .int .u8 (x 15 : Int), .int .u8 (bits : Int), .bool on, .bool auto, .int .u32 (v : Int), .int .u32 (p : Int), .slice bA nb bC, .int .u32 (n : Int)] [.int .u8 (q 0 : Int), .int .u8 (q 1 : Int), .int .u8 (q 2 : Int), .int .u8 (q 3 : Int), .int .u8 (q 4 : Int), .int .u8 (q 5 : Int)] [.slice sA ns sC, .slice dA nd dC] ((hW.block bx (lt_of_blk HBX.out)).trans HBX.out)
  have HV := Lib.hid hv; have HP := Lib.hid hp; have HN := Lib.hid hn
  have HB := Lib.hid hB; have HNB := Lib.hid hnb; have HSS := Lib.hid hSS; have HNS := Lib.hid hns; have HDD := Lib.hid hDD; have HND := Lib.hid hnd
  have HBL : Hid (B.length ≤ 100000000) := Lib.hid (by omega)
  have HMX := Lib.hid hmx
  have HC0 : Hid (∀ W : World, Below w.heap.size w W → Calls Tryd.prog 29 #[.int .u8 (kd : Int), .agg #[.int .u8 (m 0 : Int), .int .u8 (m 1 : Int), .int .u8 (m 2 : Int), .int .u8 (m 3 : Int), .int .u8 (m 4 : Int), .int .u8 (m 5 : Int)]] W (MadePost kd [m 0, m 1, m 2, m 3, m 4, m 5] W)) := Lib.hid fun W hW => link29 _ _ _ _ _ _ _ W
  have HC1 : Hid (∀ W : World, Below w.heap.size w W → Calls Tryd.prog 30 #[.agg #[.int .u8 (x 0 : Int), .int .u8 (x 1 : Int), .int .u8 (x 2 : Int), .int .u8 (x 3 : Int), .int .u8 (x 4 : Int), .int .u8 (x 5 : Int), .int .u8 (x 6 : Int), .int .u8 (x 7 : Int), .int .u8 (x 8 : Int), .int .u8 (x 9 : Int), .int .u8 (x 10 : Int), .int .u8 (x 11 : Int), .int .u8 (x 12 : Int), .int .u8 (x 13 : Int), .int .u8 (x 14 : Int), .int .u8 (x 15 : Int), .int .u8 (bits : Int), .bool on, .bool auto, .int .u32 (v : Int), .int .u32 (p : Int)]] W (MadePost 3 (infoB x bits v p (flagO on auto)) W)) := Lib.hid fun W hW => info30 x bits v p on auto HV.out HP.out W
  have HC2 : Hid (∀ W : World, Below w.heap.size w W → Calls Tryd.prog 31 #[.slice tA nb tC] W (MadePost 4 (List.replicate 6 0 ++ B) W)) := Lib.hid fun W hW => (by have h := red31 (c := tC) W ((HB.out.below hW).mono hW.size) HBL.out; rw [HNB.out] at h; exact h)
  have HC3 : Hid (∀ W : World, Below w.heap.size w W → Calls Tryd.prog 32 #[.int .u32 (n : Int)] W (MadePost 5 ([0, 0] ++ be4 n) W)) := Lib.hid fun W hW => mtu32 n HN.out W
  have HC4 : Hid (∀ W : World, Below w.heap.size w W → Calls Tryd.prog 33 #[.agg #[.int .u8 (q 0 : Int), .int .u8 (q 1 : Int), .int .u8 (q 2 : Int), .int .u8 (q 3 : Int), .int .u8 (q 4 : Int), .int .u8 (q 5 : Int)]] W (MadePost 14 [q 0, q 1, q 2, q 3, q 4, q 5] W)) := Lib.hid fun W hW => nonce33 _ _ _ _ _ _ W
  have HC5 : Hid (∀ W : World, Below w.heap.size w W → Calls Tryd.prog 34 #[.int .u32 (n : Int), .slice uA ns uC] W (MadePost 25 (servB n S) W)) := Lib.hid fun W hW => (by have h := serv34 (c := uC) HN.out W ((HSS.out.below hW).mono hW.size); rw [HNS.out] at h; exact h)
  have HC6 : Hid (∀ W : World, Below w.heap.size w W → Calls Tryd.prog 35 #[.int .u32 (n : Int), .slice yA nd yC] W (MadePost 31 (domsB n D) W)) := Lib.hid fun W hW => (by have h := dom35 (c := yC) HN.out W ((HDD.out.below hW).mono hW.size) (by obtain ⟨mx, hmx⟩ := HMX.out; exact ⟨mx, (hW.cell (p := ⟨0, 0, none⟩) (lt_of_cell hmx)).trans hmx⟩); rw [HND.out] at h; exact h)
  clear hbx hv hp hn hB hBl hnb hSS hns hDD hnd hmx
  have HA := Lib.hid (Acc.step (Acc.nil w) (Below.refl _ _).drew)
  have hS : Below w.heap.size w w.drew := (Below.refl _ _).drew
  conv in codeAt _ _ => whnf
  refine wp_region_held_drew (S := fun W => Below w.heap.size w W) (by kernel_rfl) hS ?_
  clear hS
  intro HS
  refine wpAnyH_take (i := 0) (v := .pointer (some ⟨bx, 0, none⟩)) rfl (by kernel_rfl) (by kernel_rfl) (by kernel_rfl) (fun c x W h => hQ c _ _ _ W h) (Or.inl ⟨by go_simp, fun W hW => by go_simp⟩) HS ?_
  try simp only [List.getElem_toArray, List.getElem_cons_zero, List.getElem_cons_succ, Act.put, List.setIfInBounds_toArray, List.set_cons_zero, List.set_cons_succ]
  refine wpAnyH_take (i := 1) (v := .int .u8 (kd : Int)) rfl (by kernel_rfl) (by kernel_rfl) (by kernel_rfl) (fun c x W h => hQ c _ _ _ W h) (Or.inl ⟨by go_simp, fun W hW => by have c0 := ck0 W hW; go_simp⟩) HS ?_
  try simp only [List.getElem_toArray, List.getElem_cons_zero, List.getElem_cons_succ, Act.put, List.setIfInBounds_toArray, List.set_cons_zero, List.set_cons_succ]
  refine wpAnyH_take (i := 2) (v := .pointer (some ⟨bx, 1, none⟩)) rfl (by kernel_rfl) (by kernel_rfl) (by kernel_rfl) (fun c x W h => hQ c _ _ _ W h) (Or.inl ⟨by go_simp, fun W hW => by go_simp⟩) HS ?_
  try simp only [List.getElem_toArray, List.getElem_cons_zero, List.getElem_cons_succ, Act.put, List.setIfInBounds_toArray, List.set_cons_zero, List.set_cons_succ]
  refine wpAnyH_take (i := 3) (v := .agg #[.int .u8 (m 0 : Int), .int .u8 (m 1 : Int), .int .u8 (m 2 : Int), .int .u8 (m 3 : Int), .int .u8 (m 4 : Int), .int .u8 (m 5 : Int)]) rfl (by kernel_rfl) (by kernel_rfl) (by kernel_rfl) (fun c x W h => hQ c _ _ _ W h) (by refine yieldsIf_load_mid ?_ 49 (.tmp 23) rfl bx 1 ?_ [.int .u8 (m 0 : Int), .int .u8 (m 1 : Int), .int .u8 (m 2 : Int), .int .u8 (m 3 : Int), .int .u8 (m 4 : Int), .int .u8 (m 5 : Int)] _ (fun W hW => cm1 W hW) Tryd.underlying49 rfl size49; (go_simp); (go_simp)) HS ?_
  try simp only [List.getElem_toArray, List.getElem_cons_zero, List.getElem_cons_succ, Act.put, List.setIfInBounds_toArray, List.set_cons_zero, List.set_cons_succ]
  refine wpAnyH_take (i := 5) (v := .pointer (some ⟨bx, 7, none⟩)) rfl (by kernel_rfl) (by kernel_rfl) (by kernel_rfl) (fun c x W h => hQ c _ _ _ W h) (Or.inl ⟨by go_simp, fun W hW => by go_simp⟩) HS ?_
  try simp only [List.getElem_toArray, List.getElem_cons_zero, List.getElem_cons_succ, Act.put, List.setIfInBounds_toArray, List.set_cons_zero, List.set_cons_succ]
  refine wpAnyH_take (i := 6) (v := .agg #[.int .u8 (x 0 : Int), .int .u8 (x 1 : Int), .int .u8 (x 2 : Int), .int .u8 (x 3 : Int), .int .u8 (x 4 : Int), .int .u8 (x 5 : Int), .int .u8 (x 6 : Int), .int .u8 (x 7 : Int), .int .u8 (x 8 : Int), .int .u8 (x 9 : Int), .int .u8 (x 10 : Int), .int .u8 (x 11 : Int), .int .u8 (x 12 : Int), .int .u8 (x 13 : Int), .int .u8 (x 14 : Int), .int .u8 (x 15 : Int), .int .u8 (bits : Int), .bool on, .bool auto, .int .u32 (v : Int), .int .u32 (p : Int)]) rfl (by kernel_rfl) (by kernel_rfl) (by kernel_rfl) (fun c x W h => hQ c _ _ _ W h) (by refine yieldsIf_load_mid ?_ 56 (.tmp 26) rfl bx 7 ?_ [.int .u8 (x 0 : Int), .int .u8 (x 1 : Int), .int .u8 (x 2 : Int), .int .u8 (x 3 : Int), .int .u8 (x 4 : Int), .int .u8 (x 5 : Int), .int .u8 (x 6 : Int), .int .u8 (x 7 : Int), .int .u8 (x 8 : Int), .int .u8 (x 9 : Int), .int .u8 (x 10 : Int), .int .u8 (x 11 : Int), .int .u8 (x 12 : Int), .int .u8 (x 13 : Int), .int .u8 (x 14 : Int), .int .u8 (x 15 : Int), .int .u8 (bits : Int), .bool on, .bool auto, .int .u32 (v : Int), .int .u32 (p : Int)] _ (fun W hW => cm7 W hW) Tryd.underlying56 rfl size56; (go_simp); (go_simp)) HS ?_
  try simp only [List.getElem_toArray, List.getElem_cons_zero, List.getElem_cons_succ, Act.put, List.setIfInBounds_toArray, List.set_cons_zero, List.set_cons_succ]
  refine wpAnyH_take (i := 8) (v := .slice tA nb tC) rfl (by kernel_rfl) (by kernel_rfl) (by kernel_rfl) (fun c x W h => hQ c _ _ _ W h) (Or.inl ⟨by go_simp, fun W hW => by go_simp⟩) HS ?_
  try simp only [List.getElem_toArray, List.getElem_cons_zero, List.getElem_cons_succ, Act.put, List.setIfInBounds_toArray, List.set_cons_zero, List.set_cons_succ]
  refine wpAnyH_take (i := 10) (v := .pointer (some ⟨bx, 29, none⟩)) rfl (by kernel_rfl) (by kernel_rfl) (by kernel_rfl) (fun c x W h => hQ c _ _ _ W h) (Or.inl ⟨by go_simp, fun W hW => by go_simp⟩) HS ?_
  try simp only [List.getElem_toArray, List.getElem_cons_zero, List.getElem_cons_succ, Act.put, List.setIfInBounds_toArray, List.set_cons_zero, List.set_cons_succ]
  refine wpAnyH_take (i := 11) (v := .int .u32 (n : Int)) rfl (by kernel_rfl) (by kernel_rfl) (by kernel_rfl) (fun c x W h => hQ c _ _ _ W h) (Or.inl ⟨by go_simp, fun W hW => by have c29 := ck29 W hW; go_simp⟩) HS ?_
  try simp only [List.getElem_toArray, List.getElem_cons_zero, List.getElem_cons_succ, Act.put, List.setIfInBounds_toArray, List.set_cons_zero, List.set_cons_succ]
  refine wpAnyH_take (i := 13) (v := .pointer (some ⟨bx, 30, none⟩)) rfl (by kernel_rfl) (by kernel_rfl) (by kernel_rfl) (fun c x W h => hQ c _ _ _ W h) (Or.inl ⟨by go_simp, fun W hW => by go_simp⟩) HS ?_
  try simp only [List.getElem_toArray, List.getElem_cons_zero, List.getElem_cons_succ, Act.put, List.setIfInBounds_toArray, List.set_cons_zero, List.set_cons_succ]
  refine wpAnyH_take (i := 14) (v := .agg #[.int .u8 (q 0 : Int), .int .u8 (q 1 : Int), .int .u8 (q 2 : Int), .int .u8 (q 3 : Int), .int .u8 (q 4 : Int), .int .u8 (q 5 : Int)]) rfl (by kernel_rfl) (by kernel_rfl) (by kernel_rfl) (fun c x W h => hQ c _ _ _ W h) (by refine yieldsIf_load_mid ?_ 48 (.tmp 34) rfl bx 30 ?_ [.int .u8 (q 0 : Int), .int .u8 (q 1 : Int), .int .u8 (q 2 : Int), .int .u8 (q 3 : Int), .int .u8 (q 4 : Int), .int .u8 (q 5 : Int)] _ (fun W hW => cm30 W hW) Tryd.underlying48 rfl size48; (go_simp); (go_simp)) HS ?_
  try simp only [List.getElem_toArray, List.getElem_cons_zero, List.getElem_cons_succ, Act.put, List.setIfInBounds_toArray, List.set_cons_zero, List.set_cons_succ]
  refine wpAnyH_take (i := 16) (v := .pointer (some ⟨bx, 29, none⟩)) rfl (by kernel_rfl) (by kernel_rfl) (by kernel_rfl) (fun c x W h => hQ c _ _ _ W h) (Or.inl ⟨by go_simp, fun W hW => by go_simp⟩) HS ?_
  try simp only [List.getElem_toArray, List.getElem_cons_zero, List.getElem_cons_succ, Act.put, List.setIfInBounds_toArray, List.set_cons_zero, List.set_cons_succ]
  refine wpAnyH_take (i := 17) (v := .int .u32 (n : Int)) rfl (by kernel_rfl) (by kernel_rfl) (by kernel_rfl) (fun c x W h => hQ c _ _ _ W h) (Or.inl ⟨by go_simp, fun W hW => by have c29 := ck29 W hW; go_simp⟩) HS ?_
  try simp only [List.getElem_toArray, List.getElem_cons_zero, List.getElem_cons_succ, Act.put, List.setIfInBounds_toArray, List.set_cons_zero, List.set_cons_succ]
  refine wpAnyH_take (i := 18) (v := .slice uA ns uC) rfl (by kernel_rfl) (by kernel_rfl) (by kernel_rfl) (fun c x W h => hQ c _ _ _ W h) (Or.inl ⟨by go_simp, fun W hW => by go_simp⟩) HS ?_
  try simp only [List.getElem_toArray, List.getElem_cons_zero, List.getElem_cons_succ, Act.put, List.setIfInBounds_toArray, List.set_cons_zero, List.set_cons_succ]
  refine wpAnyH_take (i := 20) (v := .pointer (some ⟨bx, 29, none⟩)) rfl (by kernel_rfl) (by kernel_rfl) (by kernel_rfl) (fun c x W h => hQ c _ _ _ W h) (Or.inl ⟨by go_simp, fun W hW => by go_simp⟩) HS ?_
  try simp only [List.getElem_toArray, List.getElem_cons_zero, List.getElem_cons_succ, Act.put, List.setIfInBounds_toArray, List.set_cons_zero, List.set_cons_succ]
  refine wpAnyH_take (i := 21) (v := .int .u32 (n : Int)) rfl (by kernel_rfl) (by kernel_rfl) (by kernel_rfl) (fun c x W h => hQ c _ _ _ W h) (Or.inl ⟨by go_simp, fun W hW => by have c29 := ck29 W hW; go_simp⟩) HS ?_
  try simp only [List.getElem_toArray, List.getElem_cons_zero, List.getElem_cons_succ, Act.put, List.setIfInBounds_toArray, List.set_cons_zero, List.set_cons_succ]
  refine wpAnyH_take (i := 22) (v := .slice yA nd yC) rfl (by kernel_rfl) (by kernel_rfl) (by kernel_rfl) (fun c x W h => hQ c _ _ _ W h) (Or.inl ⟨by go_simp, fun W hW => by go_simp⟩) HS ?_
  try simp only [List.getElem_toArray, List.getElem_cons_zero, List.getElem_cons_succ, Act.put, List.setIfInBounds_toArray, List.set_cons_zero, List.set_cons_succ]
  refine wpAnyH_ready (rs := [4]) (by kernel_rfl) (by simp) ?_
  refine AllReadyH.cons rfl (fun K hK => ?_) AllReadyH.nil
  rw [if_pos (by kernel_rfl)]
  simp only [List.getElem_toArray, List.getElem_cons_zero, List.getElem_cons_succ]
  go_simp
  refine (HC0.out _ HS).mono ?_
  intro e w0 hm
  obtain ⟨A0, c0, n0, rfl, e0, ha, hb0⟩ := HA.out.made hm
  have HA := Lib.hid ha
  have HE0 := Lib.hid e0
  have hW0 := HS.trans (hb0.mono HS.size)
  refine hK.out _ _ hW0 (fun HS => ?_)
  clear hK hm ha hb0 hW0 e0
  try simp only [List.getElem_toArray, List.getElem_cons_zero, List.getElem_cons_succ, Act.put, List.setIfInBounds_toArray, List.set_cons_zero, List.set_cons_succ]
  refine wpAnyH_ready (rs := [7]) (by kernel_rfl) (by simp) ?_
  refine AllReadyH.cons rfl (fun K hK => ?_) AllReadyH.nil
  rw [if_pos (by kernel_rfl)]
  simp only [List.getElem_toArray, List.getElem_cons_zero, List.getElem_cons_succ]
  go_simp
  refine (HC1.out _ HS).mono ?_
  intro e w1 hm
  obtain ⟨A1, c1, n1, rfl, e1, ha, hb1⟩ := HA.out.made hm
  have HA := Lib.hid ha
  have HE1 := Lib.hid e1
  have hW1 := HS.trans (hb1.mono HS.size)
  refine hK.out _ _ hW1 (fun HS => ?_)
  clear hK hm ha hb1 hW1 e1
  try simp only [List.getElem_toArray, List.getElem_cons_zero, List.getElem_cons_succ, Act.put, List.setIfInBounds_toArray, List.set_cons_zero, List.set_cons_succ]
  refine wpAnyH_ready (rs := [9]) (by kernel_rfl) (by simp) ?_
  refine AllReadyH.cons rfl (fun K hK => ?_) AllReadyH.nil
  rw [if_pos (by kernel_rfl)]
  simp only [List.getElem_toArray, List.getElem_cons_zero, List.getElem_cons_succ]
  go_simp
  refine (HC2.out _ HS).mono ?_
  intro e w2 hm
  obtain ⟨A2, c2, n2, rfl, e2, ha, hb2⟩ := HA.out.made hm
  have HA := Lib.hid ha
  have HE2 := Lib.hid e2
  have hW2 := HS.trans (hb2.mono HS.size)
  refine hK.out _ _ hW2 (fun HS => ?_)
  clear hK hm ha hb2 hW2 e2
  try simp only [List.getElem_toArray, List.getElem_cons_zero, List.getElem_cons_succ, Act.put, List.setIfInBounds_toArray, List.set_cons_zero, List.set_cons_succ]
  refine wpAnyH_ready (rs := [12]) (by kernel_rfl) (by simp) ?_
  refine AllReadyH.cons rfl (fun K hK => ?_) AllReadyH.nil
  rw [if_pos (by kernel_rfl)]
  simp only [List.getElem_toArray, List.getElem_cons_zero, List.getElem_cons_succ]
  go_simp
  refine (HC3.out _ HS).mono ?_
  intro e w3 hm
  obtain ⟨A3, c3, n3, rfl, e3, ha, hb3⟩ := HA.out.made hm
  have HA := Lib.hid ha
  have HE3 := Lib.hid e3
  have hW3 := HS.trans (hb3.mono HS.size)
  refine hK.out _ _ hW3 (fun HS => ?_)
  clear hK hm ha hb3 hW3 e3
  try simp only [List.getElem_toArray, List.getElem_cons_zero, List.getElem_cons_succ, Act.put, List.setIfInBounds_toArray, List.set_cons_zero, List.set_cons_succ]
  refine wpAnyH_ready (rs := [15]) (by kernel_rfl) (by simp) ?_
  refine AllReadyH.cons rfl (fun K hK => ?_) AllReadyH.nil
  rw [if_pos (by kernel_rfl)]
  simp only [List.getElem_toArray, List.getElem_cons_zero, List.getElem_cons_succ]
  go_simp
  refine (HC4.out _ HS).mono ?_
  intro e w4 hm
  obtain ⟨A4, c4, n4, rfl, e4, ha, hb4⟩ := HA.out.made hm
  have HA := Lib.hid ha
  have HE4 := Lib.hid e4
  have hW4 := HS.trans (hb4.mono HS.size)
  refine hK.out _ _ hW4 (fun HS => ?_)
  clear hK hm ha hb4 hW4 e4
  try simp only [List.getElem_toArray, List.getElem_cons_zero, List.getElem_cons_succ, Act.put, List.setIfInBounds_toArray, List.set_cons_zero, List.set_cons_succ]
  refine wpAnyH_ready (rs := [19]) (by kernel_rfl) (by simp) ?_
  refine AllReadyH.cons rfl (fun K hK => ?_) AllReadyH.nil
  rw [if_pos (by kernel_rfl)]
  simp only [List.getElem_toArray, List.getElem_cons_zero, List.getElem_cons_succ]
  go_simp
  refine (HC5.out _ HS).mono ?_
  intro e w5 hm
  obtain ⟨A5, c5, n5, rfl, e5, ha, hb5⟩ := HA.out.made hm
  have HA := Lib.hid ha
  have HE5 := Lib.hid e5
  have hW5 := HS.trans (hb5.mono HS.size)
  refine hK.out _ _ hW5 (fun HS => ?_)
  clear hK hm ha hb5 hW5 e5
  try simp only [List.getElem_toArray, List.getElem_cons_zero, List.getElem_cons_succ, Act.put, List.setIfInBounds_toArray, List.set_cons_zero, List.set_cons_succ]
  refine wpAnyH_ready (rs := [23]) (by kernel_rfl) (by simp) ?_
  refine AllReadyH.cons rfl (fun K hK => ?_) AllReadyH.nil
  rw [if_pos (by kernel_rfl)]
  simp only [List.getElem_toArray, List.getElem_cons_zero, List.getElem_cons_succ]
  go_simp
  refine (HC6.out _ HS).mono ?_
  intro e w6 hm
  obtain ⟨A6, c6, n6, rfl, e6, ha, hb6⟩ := HA.out.made hm
  have HA := Lib.hid ha
  have HE6 := Lib.hid e6
  have hW6 := HS.trans (hb6.mono HS.size)
  refine hK.out _ _ hW6 (fun HS => ?_)
  clear hK hm ha hb6 hW6 e6
  try simp only [List.getElem_toArray, List.getElem_cons_zero, List.getElem_cons_succ, Act.put, List.setIfInBounds_toArray, List.set_cons_zero, List.set_cons_succ]
  have HR := Lib.hid (HA.out.row rfl)
  have HWR := Lib.hid (HS.trans ((Below.refl w6.heap.size w6).alloc (Nat.le_refl _) (.cells (List.toArray [.int .u8 (kd : Int), .slice A0 n0 c0, .int .u8 (3 : Int), .slice A1 n1 c1, .int .u8 (4 : Int), .slice A2 n2 c2, .int .u8 (5 : Int), .slice A3 n3 c3, .int .u8 (14 : Int), .slice A4 n4 c4, .int .u8 (25 : Int), .slice A5 n5 c5, .int .u8 (31 : Int), .slice A6 n6 c6]) 41)|>.mono HS.size))
  have hcells : (rowV [⟨kd, A0, c0, [m 0, m 1, m 2, m 3, m 4, m 5]⟩, ⟨3, A1, c1, (infoB x bits v p (flagO on auto))⟩, ⟨4, A2, c2, (List.replicate 6 0 ++ B)⟩, ⟨5, A3, c3, ([0, 0] ++ be4 n)⟩, ⟨14, A4, c4, [q 0, q 1, q 2, q 3, q 4, q 5]⟩, ⟨25, A5, c5, (servB n S)⟩, ⟨31, A6, c6, (domsB n D)⟩]).toArray = List.toArray [.int .u8 (kd : Int), .slice A0 n0 c0, .int .u8 (3 : Int), .slice A1 n1 c1, .int .u8 (4 : Int), .slice A2 n2 c2, .int .u8 (5 : Int), .slice A3 n3 c3, .int .u8 (14 : Int), .slice A4 n4 c4, .int .u8 (25 : Int), .slice A5 n5 c5, .int .u8 (31 : Int), .slice A6 n6 c6] := by
    simp only [rowV, List.flatMap_cons, List.flatMap_nil, List.append_nil, HE0.out, HE1.out, HE2.out, HE3.out, HE4.out, HE5.out, HE6.out]
    rfl
  have HR1 : Hid (MadeRow w (w6.alloc (.cells (List.toArray [.int .u8 (kd : Int), .slice A0 n0 c0, .int .u8 (3 : Int), .slice A1 n1 c1, .int .u8 (4 : Int), .slice A2 n2 c2, .int .u8 (5 : Int), .slice A3 n3 c3, .int .u8 (14 : Int), .slice A4 n4 c4, .int .u8 (25 : Int), .slice A5 n5 c5, .int .u8 (31 : Int), .slice A6 n6 c6]) 41)) (madeD kd bits v p n m x q on auto B S D) (.slice (some ⟨w6.heap.size, 0, none⟩) 7 7)) := Lib.hid (by
    rw [← hcells]; exact HR.out)
  clear hcells HR
  refine wpAnyH_ready (rs := [24]) (by kernel_rfl) (by simp) ?_
  refine AllReadyH.cons rfl (fun K hK => ?_) AllReadyH.nil
  rw [if_pos (by kernel_rfl)]
  simp only [List.getElem_toArray, List.getElem_cons_zero, List.getElem_cons_succ]
  go_simp
  refine hK.out _ _ HWR.out (fun HS => ?_)
  clear hK
  try simp only [List.getElem_toArray, List.getElem_cons_zero, List.getElem_cons_succ, Act.put, List.setIfInBounds_toArray, List.set_cons_zero, List.set_cons_succ]
  refine wpAnyH_take (i := 25) (v := ?_) rfl (by kernel_rfl) (by kernel_rfl) (by kernel_rfl) (fun c x W h => hQ c _ _ _ W h) (Or.inl ⟨by go_simp, ?hy⟩) HS ?_
  case hy => intro W hW; go_simp; (try with_reducible rfl)
  try simp only [List.getElem_toArray, List.getElem_cons_zero, List.getElem_cons_succ, Act.put, List.setIfInBounds_toArray, List.set_cons_zero, List.set_cons_succ]
  refine wpAnyH_done (by kernel_rfl) ?_ _
  exact h _ _ _ _ _ _ _ _ _ _ _ _ _ _ _ _ _ _ _ _ _ _ _ _ _ _ _ HR1.out
end Go.Proofs.YtfolamkjlgpgmaaDoor
