/- PrefixesBound's inner round. No condition. -/
import Derived.Test.YtkhbchgocilclaaBoundI
namespace Go.Proofs.Ytkhbchgocilclaa
open Go.RowKit
set_option linter.unusedVariables false
set_option linter.unusedSimpArgs false
set_option maxRecDepth 100000 in
set_option maxHeartbeats 20000000 in
theorem bound_in {b mb : Nat} {D : PD} {w wr : World} {T : List UInt8 → Nat} {ks : List PKey} {g n k : Nat} (HB : Hid (BHeld b mb D w wr)) (HR : Hid (InRow T ks g wr)) (hn : ks.length = n) (h8 : n ≤ 8) (hk : k < n)
    (HU : Hid (∀ (i j : Nat) (x y : PKey), i < j → ks[i]? = some x → ks[j]? = some y → numK x < numK y)) (HM : Hid (∀ y ∈ ks, adrNe (masked (adrOf y) (bitsOf y)) (adrOf y) = false))
    {u0 u1 u2 u3 u4 u7 u8 u9 u10 u11 u12 u13 u14 u15 u16 u17 u18 u19 u20 u21 u22 u23 u24 u25 u26 u27 u28 u29 u30 u31 u32 u33 u34 u35 u36 u37 u38 u39 u40 u41 u42 u43 u44 u45 u46 u47 u48 u49 u50 u51 u52 u53 u54 u55 u56 u57 u58 u59 u60 u61 u62 u63 u64 u65 u66 u67 u68 u69 u70 u71 u72 u73 u74 u75 u76 u77 u78 u79 u80 u81 u82 u83 u84 u85 u86 u87 u88 u89 u90 u91 u92 u93 u94 u95 u96 u97 u98 : Value} {Q : Exit → Act → World → Prop} (hQ : ∀ c (a : Act) d v W, Q (.panic c) (a.put d v) W → Q (.panic c) a W)
    (h : ∀ (u7 u34 u35 u36 u37 u38 u39 u40 u41 u42 u43 u44 u45 u46 u47 u48 u49 u50 u51 u52 u53 u54 u55 u56 u57 u58 u59 u60 u61 u62 u63 u64 u65 u66 u67 u68 u69 u70 u71 u72 u73 u74 u75 u76 u77 u78 u79 u80 u81 u82 u83 u84 u85 u86 u87 u88 u89 u90 u91 u92 u93 u94 : Value) (W : World), BHeld b mb D w W → InRow T ks g W → Q .normal ⟨(List.toArray (u0 :: u1 :: u2 :: u3 :: u4 :: .slice (some ⟨g, 0, none⟩) n n :: .int .i64 (k + 1 : Nat) :: u7 :: u8 :: u9 :: u10 :: u11 :: u12 :: u13 :: u14 :: u15 :: u16 :: u17 :: u18 :: u19 :: u20 :: u21 :: u22 :: u23 :: u24 :: u25 :: u26 :: u27 :: u28 :: u29 :: u30 :: u31 :: u32 :: u33 :: u34 :: u35 :: u36 :: u37 :: u38 :: u39 :: u40 :: u41 :: u42 :: u43 :: u44 :: u45 :: u46 :: u47 :: u48 :: u49 :: u50 :: u51 :: u52 :: u53 :: u54 :: u55 :: u56 :: u57 :: u58 :: u59 :: u60 :: u61 :: u62 :: u63 :: u64 :: u65 :: u66 :: u67 :: u68 :: u69 :: u70 :: u71 :: u72 :: u73 :: u74 :: u75 :: u76 :: u77 :: u78 :: u79 :: u80 :: u81 :: u82 :: u83 :: u84 :: u85 :: u86 :: u87 :: u88 :: u89 :: u90 :: u91 :: u92 :: u93 :: u94 :: u95 :: u96 :: u97 :: u98 :: [])), []⟩ W) :
    (codeAt [1,1,1,0,1,0,0,1,0,0,1,1,0,1,0,0] (Try.f4.body.getD .skip)).wp Try.prog Q ⟨(List.toArray (u0 :: u1 :: u2 :: u3 :: u4 :: .slice (some ⟨g, 0, none⟩) n n :: .int .i64 (k : Int) :: u7 :: u8 :: u9 :: u10 :: u11 :: u12 :: u13 :: u14 :: u15 :: u16 :: u17 :: u18 :: u19 :: u20 :: u21 :: u22 :: u23 :: u24 :: u25 :: u26 :: u27 :: u28 :: u29 :: u30 :: u31 :: u32 :: u33 :: u34 :: u35 :: u36 :: u37 :: u38 :: u39 :: u40 :: u41 :: u42 :: u43 :: u44 :: u45 :: u46 :: u47 :: u48 :: u49 :: u50 :: u51 :: u52 :: u53 :: u54 :: u55 :: u56 :: u57 :: u58 :: u59 :: u60 :: u61 :: u62 :: u63 :: u64 :: u65 :: u66 :: u67 :: u68 :: u69 :: u70 :: u71 :: u72 :: u73 :: u74 :: u75 :: u76 :: u77 :: u78 :: u79 :: u80 :: u81 :: u82 :: u83 :: u84 :: u85 :: u86 :: u87 :: u88 :: u89 :: u90 :: u91 :: u92 :: u93 :: u94 :: u95 :: u96 :: u97 :: u98 :: [])), []⟩ wr := by
  have HH := Lib.hid h
  have HQ := Lib.hid hQ
  clear h hQ
  have hk1 : ¬ ((n : Int) ≤ k) := by omega
  have hk2 : (k : Int) < n := by omega
  have hk3 : decide ((k : Int) < n) = true := by simp; omega
  have ew : IntKind.i64.wrap ((k : Int) + 1) = (k + 1 : Nat) := by
    have := wrap_small (m := k + 1) (by omega)
    rw [← this]; rfl
  obtain ⟨y, hy⟩ : ∃ y, ks[k]? = some y := ⟨ks[k]'(by omega), List.getElem?_eq_getElem (by omega)⟩
  have HY := Lib.hid hy
  have hmk := HM.out y (List.mem_of_getElem? hy)
  have hrp := Lib.hid (HR.out.pre hy)
  have t6 := Turned.setRow (heap_alloc_new wr (.cells (preCells (fun _ => 0) 0) 25)) (preL (adrOf y) (bitsOf y)).toArray
  have hnew := heap_alloc_new wr (.cells (preCells (fun _ => 0) 0) 25)
  have B6 : Below wr.heap.size wr ((wr.alloc (.cells (preCells (fun _ => 0) 0) 25)).setRow wr.heap.size (preL (adrOf y) (bitsOf y)).toArray) := ((Below.refl _ _).alloc (Nat.le_refl _) _).trans (t6.below (Nat.le_refl _))
  have hn6 := t6.get (by simp)
  have I6 := HB.out.step B6
  have R6 := HR.out.step B6
  rw [← zeroPre] at t6 hnew B6 hn6 I6 R6
  have hsz : 17 = (preL (adrOf y) (bitsOf y)).toArray.size := by simp [preL_length]
  have HS := Lib.hid hsz; clear hsz
  have HN := Lib.hid hnew; have HI6 := Lib.hid I6; have HR6 := Lib.hid R6; have HN6 := Lib.hid hn6; have HMK := Lib.hid hmk
  clear t6 hnew B6 hn6 I6 R6 hy hmk HB HR
  conv in codeAt _ _ => whnf
  go_wp2_with (first | (refine wpList_store_row rfl 25 _ _ rfl wr.heap.size (preL (adrOf y) (bitsOf y)).toArray rfl rfl 25 _ HN.out (by rw [← HS.out]; kernel_rfl) HS.out (all_oneCell_toArray (preL_one _ _)) ?_) | (refine wpList_load_mid rfl 25 _ rfl g (k * 18) rfl (preL (adrOf y) (bitsOf y)) _ hrp.out Try.underlying25 rfl (info25 _ _) ?_))
  generalize (wr.alloc (.cells #[.int .u8 0, .int .u8 0, .int .u8 0, .int .u8 0, .int .u8 0, .int .u8 0, .int .u8 0, .int .u8 0, .int .u8 0, .int .u8 0, .int .u8 0, .int .u8 0, .int .u8 0, .int .u8 0, .int .u8 0, .int .u8 0, .int .u8 0] 25)).setRow wr.heap.size (preL (adrOf y) (bitsOf y)).toArray = w6 at *
  generalize wr.heap.size = PB at *
  clear HN HS hrp
  have hSeen : Seen13 (fun w' => (BHeld b mb D w w' ∧ InRow T ks g w') ∧ w'.heap[PB]? = some (.cells (preCells (adrOf y) (bitsOf y)) 25 (0, 0))) PB y :=
    ⟨fun W W' h hb => ⟨⟨h.1.1.step hb, h.1.2.step hb⟩, (hb.block _ (lt_of_blk h.2)).trans h.2⟩, fun W h => h.2⟩
  have hS : (BHeld b mb D w w6.drew ∧ InRow T ks g w6.drew) ∧ w6.drew.heap[PB]? = some (.cells (preCells (adrOf y) (bitsOf y)) 25 (0, 0)) := ⟨⟨HI6.out.step (Below.refl _ _).drew, HR6.out.step (Below.refl _ _).drew⟩, HN6.out⟩
  clear HI6 HR6 HN6
  rcases Nat.eq_zero_or_pos k with rfl | hpos
  · refine reg13_zero hSeen HMK.out (fun c a d v W h => HQ.out c _ _ _ W h) hS ?_
    clear hS hSeen
    intro W HS
    have HW := Lib.hid HS.1
    clear HS
    go_wp2_with fail
    exact HH.out _ _ _ _ _ _ _ _ _ _ _ _ _ _ _ _ _ _ _ _ _ _ _ _ _ _ _ _ _ _ _ _ _ _ _ _ _ _ _ _ _ _ _ _ _ _ _ _ _ _ _ _ _ _ _ _ _ _ _ _ _ _ _ HW.out.1 HW.out.2
  · obtain ⟨m, rfl⟩ : ∃ m, k = m + 1 := ⟨k - 1, by omega⟩
    obtain ⟨z, hz⟩ : ∃ z, ks[m]? = some z := ⟨ks[m]'(by omega), List.getElem?_eq_getElem (by omega)⟩
    have hlt := HU.out m (m + 1) z y (by omega) hz HY.out
    have hSb : Seen13b (fun w' => (BHeld b mb D w w' ∧ InRow T ks g w') ∧ w'.heap[PB]? = some (.cells (preCells (adrOf y) (bitsOf y)) 25 (0, 0))) g m z := ⟨fun W h => h.1.2.adr hz, fun W h => h.1.2.bits hz⟩
    cases hne : adrNe (adrOf z) (adrOf y) with
    | true =>
      refine reg13_diff hSeen HMK.out hSb hlt (by omega) h8 hne (fun c a d v W h => HQ.out c _ _ _ W h) hS ?_
      clear hS hSeen hSb hz
      intro W HS
      have HW := Lib.hid HS.1
      clear HS
      go_wp2_with fail
      exact HH.out _ _ _ _ _ _ _ _ _ _ _ _ _ _ _ _ _ _ _ _ _ _ _ _ _ _ _ _ _ _ _ _ _ _ _ _ _ _ _ _ _ _ _ _ _ _ _ _ _ _ _ _ _ _ _ _ _ _ _ _ _ _ _ HW.out.1 HW.out.2
    | false =>
      refine reg13_same hSeen HMK.out hSb hlt (by omega) h8 hne (fun c a d v W h => HQ.out c _ _ _ W h) hS ?_
      clear hS hSeen hSb hz
      intro W HS
      have HW := Lib.hid HS.1
      clear HS
      go_wp2_with fail
      exact HH.out _ _ _ _ _ _ _ _ _ _ _ _ _ _ _ _ _ _ _ _ _ _ _ _ _ _ _ _ _ _ _ _ _ _ _ _ _ _ _ _ _ _ _ _ _ _ _ _ _ _ _ _ _ _ _ _ _ _ _ _ _ _ _ HW.out.1 HW.out.2
end Go.Proofs.Ytkhbchgocilclaa
