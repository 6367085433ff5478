/- A round of the others. No condition. -/
import Derived.Test.YtkhbchgocilclaaHoldEq
import Derived.Outline
import Derived.Deep.RegionHeld3
namespace Go.Proofs.Ytkhbchgocilclaa
open Go.RowKit
set_option linter.unusedVariables false
set_option linter.unusedSimpArgs false

/-- the news that a slice of the law's acts tells -/
def ActsAt (w : World) (B : Nat) (A : Option Addr) (n : Nat) (o : Nat → Info) : Prop :=
  0 < n → ∃ b off, A = some ⟨b, off, none⟩ ∧ b < B ∧ ∀ k, k < n → w.rangeAt b (off + k * 23 + 1) (o k).L ∧ (o k).Ok

theorem range_of_L {w : World} {b o : Nat} {i : Info} (h : w.rangeAt b o i.L) : w.rangeAt b o (preL i.a i.n) := by
  intro j v hj
  have hl : j < (preL i.a i.n).length := (List.getElem?_eq_some_iff.1 hj).1
  refine h j v ?_
  have e : i.L = preL i.a i.n ++ [.bool i.on, .bool i.au, .int .u32 (i.v : Int), .int .u32 (i.pr : Int)] := by simp [Info.L, preL]
  rw [e, List.getElem?_append_left hl, hj]

theorem Held.drew {i : Info} {a : Nat → Nat} {B1 B2 b mb : Nat} {D : PD} {w w1 : World} (h : Held i a B1 B2 b mb D w w1) : Held i a B1 B2 b mb D w w1.drew := h.step (Below.refl _ _).drew

set_option maxRecDepth 100000 in
set_option maxHeartbeats 20000000 in
theorem hold_round {i1 : Info} {x : Nat → Nat} {B1 B2 b mb : Nat} {D : PD} {w wr : World} {p : Option Addr} {len cap : Nat} {o : Nat → Info} {k : Nat} (hA : ActsAt w w.heap.size p len o) (HI : Hid (Held i1 x B1 B2 b mb D w wr)) (HLOK : Hid (LOk D)) (HKEY : Hid (Maps.has D i1.key = true)) (ok1 : i1.Ok) (hlt : k < len) (hlen : len ≤ 100)
    {u0 u2 u4 u5 u6 u8 u9 u10 u11 u13 u14 u15 u16 u17 u18 u19 u20 u21 u22 u23 u24 u25 u26 u27 u28 u29 u30 u31 u32 u33 u34 u35 u36 u37 u38 u39 u40 u41 u42 u43 u44 u45 u46 u47 u48 u49 u50 u51 u52 u53 u54 u55 u56 u57 u58 u59 u60 u61 u62 u63 u64 u65 u66 u67 u68 u69 u70 u71 u72 u73 u74 u75 u76 u77 u78 u79 u80 u81 u82 u83 u84 u85 u86 u87 u88 u89 u90 u91 u92 u93 u94 u95 u96 u97 u98 u99 u100 u101 u102 u103 u104 u105 u106 u107 u108 u109 u110 u111 u112 u113 u114 u115 u116 u117 u118 u119 u120 u121 u122 u123 u124 u125 u126 u127 u128 u129 u130 u131 u132 u133 u134 u135 u136 u137 u138 u139 u140 u141 u142 u143 u144 u145 u146 u147 u148 u149 u150 u151 u152 u153 u154 u155 u156 u157 u158 : Value} {Q : Exit → Act → World → Prop} (hQ : ∀ c a a' W, Q (.panic c) a W → Q (.panic c) a' W)
    (h : ∀ (u13 u88 u89 u90 u91 u92 u93 u94 u95 u96 u97 u98 u99 u100 u101 u102 u103 u104 u105 u106 u107 u108 u109 u110 u111 u112 u113 u114 u115 u116 u117 u118 u119 u120 u121 u122 u123 u124 u125 u126 : Value) (D : PD) (W : World), Held i1 x B1 B2 b mb D w W → LOk D → Maps.has D i1.key = true → Q .normal ⟨(List.toArray (u0 :: .slice p len cap :: u2 :: .pointer (some ⟨B1, 0, none⟩) :: u4 :: u5 :: u6 :: .pointer (some ⟨b, 0, none⟩) :: u8 :: u9 :: u10 :: u11 :: .int .i64 (k + 1 : Nat) :: u13 :: u14 :: u15 :: u16 :: u17 :: u18 :: u19 :: u20 :: u21 :: u22 :: u23 :: u24 :: u25 :: u26 :: u27 :: u28 :: u29 :: u30 :: u31 :: u32 :: u33 :: u34 :: u35 :: u36 :: u37 :: u38 :: u39 :: u40 :: u41 :: u42 :: u43 :: u44 :: u45 :: u46 :: u47 :: u48 :: u49 :: u50 :: u51 :: u52 :: u53 :: u54 :: u55 :: u56 :: u57 :: u58 :: u59 :: u60 :: u61 :: u62 :: u63 :: u64 :: u65 :: u66 :: u67 :: u68 :: u69 :: u70 :: u71 :: u72 :: u73 :: u74 :: u75 :: u76 :: u77 :: u78 :: u79 :: u80 :: u81 :: u82 :: u83 :: u84 :: u85 :: u86 :: u87 :: u88 :: u89 :: u90 :: u91 :: u92 :: u93 :: u94 :: u95 :: u96 :: u97 :: u98 :: u99 :: u100 :: u101 :: u102 :: u103 :: u104 :: u105 :: u106 :: u107 :: u108 :: u109 :: u110 :: u111 :: u112 :: u113 :: u114 :: u115 :: u116 :: u117 :: u118 :: u119 :: u120 :: u121 :: u122 :: u123 :: u124 :: u125 :: u126 :: u127 :: u128 :: u129 :: u130 :: u131 :: u132 :: u133 :: u134 :: u135 :: u136 :: u137 :: u138 :: u139 :: u140 :: u141 :: u142 :: u143 :: u144 :: u145 :: u146 :: u147 :: u148 :: u149 :: u150 :: u151 :: u152 :: u153 :: u154 :: u155 :: u156 :: u157 :: u158 :: [])), []⟩ W) :
    (codeAt [1,1,1,1,1,1,1,0,1,0,0] (Try.f3.body.getD .skip)).wp Try.prog Q ⟨(List.toArray (u0 :: .slice p len cap :: u2 :: .pointer (some ⟨B1, 0, none⟩) :: u4 :: u5 :: u6 :: .pointer (some ⟨b, 0, none⟩) :: u8 :: u9 :: u10 :: u11 :: .int .i64 (k : Int) :: u13 :: u14 :: u15 :: u16 :: u17 :: u18 :: u19 :: u20 :: u21 :: u22 :: u23 :: u24 :: u25 :: u26 :: u27 :: u28 :: u29 :: u30 :: u31 :: u32 :: u33 :: u34 :: u35 :: u36 :: u37 :: u38 :: u39 :: u40 :: u41 :: u42 :: u43 :: u44 :: u45 :: u46 :: u47 :: u48 :: u49 :: u50 :: u51 :: u52 :: u53 :: u54 :: u55 :: u56 :: u57 :: u58 :: u59 :: u60 :: u61 :: u62 :: u63 :: u64 :: u65 :: u66 :: u67 :: u68 :: u69 :: u70 :: u71 :: u72 :: u73 :: u74 :: u75 :: u76 :: u77 :: u78 :: u79 :: u80 :: u81 :: u82 :: u83 :: u84 :: u85 :: u86 :: u87 :: u88 :: u89 :: u90 :: u91 :: u92 :: u93 :: u94 :: u95 :: u96 :: u97 :: u98 :: u99 :: u100 :: u101 :: u102 :: u103 :: u104 :: u105 :: u106 :: u107 :: u108 :: u109 :: u110 :: u111 :: u112 :: u113 :: u114 :: u115 :: u116 :: u117 :: u118 :: u119 :: u120 :: u121 :: u122 :: u123 :: u124 :: u125 :: u126 :: u127 :: u128 :: u129 :: u130 :: u131 :: u132 :: u133 :: u134 :: u135 :: u136 :: u137 :: u138 :: u139 :: u140 :: u141 :: u142 :: u143 :: u144 :: u145 :: u146 :: u147 :: u148 :: u149 :: u150 :: u151 :: u152 :: u153 :: u154 :: u155 :: u156 :: u157 :: u158 :: [])), []⟩ wr := by
  have HH := Lib.hid h
  have HQ := Lib.hid hQ
  clear h hQ
  obtain ⟨lb, off, rfl, hlb, hc⟩ := hA (by omega)
  have hr := (hc k hlt).1
  have hok := (hc k hlt).2
  have hr := range_below hr HI.out.below hlb
  have hA0 := Lib.hid hc
  obtain ⟨oi, hoi⟩ : ∃ z, z = o k := ⟨_, rfl⟩
  rw [← hoi] at hr hok
  have HOI := Lib.hid hoi; clear hoi
  have HOK := Lib.hid hok; clear hok
  have hrp := Lib.hid (range_of_L hr)
  have t6 := Turned.setRow (heap_alloc_new wr (.cells (preCells (fun _ => 0) 0) 25)) (preL oi.a oi.n).toArray
  have hnew := heap_alloc_new wr (.cells (preCells (fun _ => 0) 0) 25)
  have B6 : Below wr.heap.size wr ((wr.alloc (.cells (preCells (fun _ => 0) 0) 25)).setRow wr.heap.size (preL oi.a oi.n).toArray) := ((Below.refl _ _).alloc (Nat.le_refl _) _).trans (t6.below (Nat.le_refl _))
  have hn6 := t6.get (by simp)
  have I6 := HI.out.step B6
  rw [← zeroPre] at t6 hnew B6 hn6 I6
  have hsz : 17 = (preL oi.a oi.n).toArray.size := by simp [preL_length]
  have HS := Lib.hid hsz; clear hsz
  have HN := Lib.hid hnew; have HI6 := Lib.hid I6; have HN6 := Lib.hid hn6
  clear t6 hnew B6 hn6 I6 hr HI hA hc
  conv in codeAt _ _ => whnf
  go_wp2_with (first | (refine wpList_store_row rfl 25 _ _ rfl wr.heap.size (preL oi.a oi.n).toArray rfl rfl 25 _ HN.out (by rw [← HS.out]; kernel_rfl) HS.out (all_oneCell_toArray (preL_one _ _)) ?_) | (refine wpList_load_mid rfl 25 _ rfl lb (off + k * 23 + 1) rfl (preL oi.a oi.n) _ hrp.out Try.underlying25 rfl (info25 _ _) ?_))
  have tn0 : True := trivial
  generalize (wr.alloc (.cells #[.int .u8 0, .int .u8 0, .int .u8 0, .int .u8 0, .int .u8 0, .int .u8 0, .int .u8 0, .int .u8 0, .int .u8 0, .int .u8 0, .int .u8 0, .int .u8 0, .int .u8 0, .int .u8 0, .int .u8 0, .int .u8 0, .int .u8 0] 25)).setRow wr.heap.size (preL oi.a oi.n).toArray = w6 at *
  generalize wr.heap.size = PB at *
  clear HN HS hrp
  have I6 := HI6.out; have hn6 := HN6.out
  clear HI6 HN6
  have hSeen : ∀ ni, ni = i1.n → Seen (fun w' => Held i1 x B1 B2 b mb D w w' ∧ w'.heap[PB]? = some (.cells (preCells oi.a oi.n) 25 (0, 0))) PB B1 oi.a i1.a oi.n ni := fun ni e =>
    ⟨fun W W' h hb => ⟨h.1.step hb, (hb.block _ (lt_of_blk h.2)).trans h.2⟩, fun W h => h.2, fun W h => by rw [e]; exact h.1.c16, fun W h => range_adrI h.1.h1⟩
  have hS : Held i1 x B1 B2 b mb D w w6.drew ∧ w6.drew.heap[PB]? = some (.cells (preCells oi.a oi.n) 25 (0, 0)) := ⟨I6.drew, hn6⟩
  clear I6 hn6
  have HO := Lib.hid HOK.out.n
  have learns : ∀ (W : World), Held i1 x B1 B2 b mb D w W → oi.key ≠ i1.key → Calls Try.prog 8 #[.pointer (some ⟨b, 0, none⟩), .int .u64 0, .agg oi.L.toArray] W fun e w' => ∃ v, e = .returned v ∧ Held i1 x B1 B2 b mb (learnD oi 0 D) w w' ∧ LOk (learnD oi 0 D) ∧ Maps.has (learnD oi 0 D) i1.key = true := fun W HW hne =>
    (learn_any oi b mb 0 D W HOK.out (by decide) HW.hb HW.map HLOK.out.size).mono fun e w' ⟨h1, h2⟩ => ⟨_, h1, HW.learnt h2, HLOK.out.learn HOK.out, learn_other HKEY.out hne⟩
  have HL := Lib.hid learns; clear learns
  by_cases hne : oi.n = i1.n
  · have key_ne : adrNe (masked oi.a oi.n) (masked i1.a oi.n) = true → oi.key ≠ i1.key := fun hz e => by
      refine adrNe_true hz ?_
      have := (keyLit_inj (fun j hj => top_lt (HOK.out.a j hj) _) (fun j hj => top_lt (ok1.a j hj) _) HOK.out.n ok1.n e).2
      rw [hne] at this ⊢; exact this
    have HK := Lib.hid key_ne; clear key_ne
    refine reg21_same (hSeen _ hne) HOK.out.a ok1.a HOK.out.n (fun c a a' W h => HQ.out c a a' W h) hS (z := adrNe (masked oi.a oi.n) (masked i1.a oi.n)) (fun W => adr_neq (fun j hj => top_lt (HOK.out.a j hj) _) (fun j hj => top_lt (ok1.a j hj) _) W) ?_
    clear hS hSeen HO
    intro W HS
    cases hz : adrNe (masked oi.a oi.n) (masked i1.a oi.n) with
    | true =>
      have HW := Lib.hid HS.1
      have HRN := Lib.hid (range_below (hA0.out k hlt).1 HS.1.below hlb)
      rw [← HOI.out] at HRN
      have hkn := Lib.hid (HK.out hz)
      clear HS hne hz
      go_wp2_with (refine wpList_load_mid rfl 28 _ rfl lb (off + k * 23 + 1) rfl oi.L _ HRN.out Try.underlying28 rfl (info28 _) ?_)
      refine (HL.out _ HW.out hkn.out).mono ?_
      rintro e w8 ⟨v, rfl, h8⟩
      have H8 := Lib.hid h8; clear h8
      go_wp2_with fail
      exact HH.out _ _ _ _ _ _ _ _ _ _ _ _ _ _ _ _ _ _ _ _ _ _ _ _ _ _ _ _ _ _ _ _ _ _ _ _ _ _ _ _ _ _ H8.out.1 H8.out.2.1 H8.out.2.2
    | false =>
      have HW := Lib.hid HS.1
      clear HS hne hz
      go_wp2_with fail
      exact HH.out _ _ _ _ _ _ _ _ _ _ _ _ _ _ _ _ _ _ _ _ _ _ _ _ _ _ _ _ _ _ _ _ _ _ _ _ _ _ _ _ _ _ HW.out HLOK.out HKEY.out
  · have hkn := Lib.hid (show oi.key ≠ i1.key from fun e => hne (keyLit_inj (fun j hj => top_lt (HOK.out.a j hj) _) (fun j hj => top_lt (ok1.a j hj) _) HOK.out.n ok1.n e).1)
    refine reg21_diff (hSeen _ rfl) (fun c a a' W h => HQ.out c a a' W h) hS hne ?_
    clear hS hSeen HO
    intro W HS
    have HW := Lib.hid HS.1
    have HRN := Lib.hid (range_below (hA0.out k hlt).1 HS.1.below hlb)
    rw [← HOI.out] at HRN
    clear HS hne
    go_wp2_with (refine wpList_load_mid rfl 28 _ rfl lb (off + k * 23 + 1) rfl oi.L _ HRN.out Try.underlying28 rfl (info28 _) ?_)
    refine (HL.out _ HW.out hkn.out).mono ?_
    rintro e w8 ⟨v, rfl, h8⟩
    have H8 := Lib.hid h8; clear h8
    go_wp2_with fail
    exact HH.out _ _ _ _ _ _ _ _ _ _ _ _ _ _ _ _ _ _ _ _ _ _ _ _ _ _ _ _ _ _ _ _ _ _ _ _ _ _ _ _ _ _ H8.out.1 H8.out.2.1 H8.out.2.2
end Go.Proofs.Ytkhbchgocilclaa
