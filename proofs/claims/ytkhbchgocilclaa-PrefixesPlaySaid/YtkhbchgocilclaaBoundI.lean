/- PrefixesBound's rounds. No condition but that the numbers fit. -/
import Derived.Test.YtkhbchgocilclaaBoundR
import Derived.Test.YtkhbchgocilclaaCome
namespace Go.Proofs.Ytkhbchgocilclaa
open Go.RowKit
set_option linter.unusedVariables false
set_option linter.unusedSimpArgs false
/-- a list that this call has made -/
structure BHeld (b mb : Nat) (D : PD) (w w1 : World) : Prop where
  hb : w1.heap[b]? = some (.cells #[.map (some mb)] 58 (0, 0))
  map : MapIs w1 mb D
  gb : w.heap.size ≤ b
  gm : w.heap.size ≤ mb
  below : Below w.heap.size w w1
theorem BHeld.step {b mb : Nat} {D : PD} {w w1 w2 : World} (h : BHeld b mb D w w1) (hb : Below w1.heap.size w1 w2) : BHeld b mb D w w2 :=
  ⟨(hb.block _ (lt_of_blk h.hb)).trans h.hb, h.map.below hb h.map.lt, h.gb, h.gm, h.below.trans (hb.mono h.below.size)⟩
theorem BHeld.learnt {b mb : Nat} {D D' : PD} {w w1 w2 : World} (h : BHeld b mb D w w1) (L : Learnt b mb D' w1 w2) : BHeld b mb D' w w2 :=
  ⟨L.hb, L.map, h.gb, h.gm, L.below h.below h.below.size h.gm⟩
theorem adrNe_eq {a b : Nat → Nat} (h : ∀ i, i < 16 → a i = b i) : adrNe a b = false := by
  unfold adrNe
  rw [List.map_congr_left (g := fun i => UInt8.ofNat (b i)) (fun i hi => by rw [h i (by simpa using hi)])]
  simp
theorem key_parts {y : PKey} {p : Nat → Nat} {n : Nat} (hp : ∀ i, i < 16 → p i < 256) (hn : n < 256) (h : (.string y.1 : Lit) = keyLit p n) : (∀ i, i < 16 → adrOf y i = p i) ∧ bitsOf y = n := by
  have e : y.1 = keyBytesOf p n := by injection h
  constructor
  · intro i hi
    unfold adrOf
    rw [e]
    have := hp i hi
    simp [keyBytesOf, List.getD_eq_getElem?_getD, List.getElem?_append_left, hi, Nat.mod_eq_of_lt this]
  · unfold bitsOf
    rw [e]
    simp [keyBytesOf, List.getD_eq_getElem?_getD, Nat.mod_eq_of_lt hn]
theorem key_masked {D : PD} (hD : LOk D) {y : PKey} (h : Maps.has D (.string y.1) = true) : adrNe (masked (adrOf y) (bitsOf y)) (adrOf y) = false := by
  obtain ⟨p, n, hp, hn, e, hm⟩ := hD.keys _ h
  obtain ⟨h1, h2⟩ := key_parts hp (by omega) e
  refine adrNe_eq fun i hi => ?_
  have := hm i hi
  unfold masked at *
  rw [h2, h1 i hi]; exact this
theorem enc_pre (T : List UInt8 → Nat) (y : PKey) : encK T y = preL (adrOf y) (bitsOf y) ++ [.int .u64 (T y.1 : Int)] := by
  have e : y = keyOfP (adrOf y) (bitsOf y) := by
    apply Subtype.ext
    show y.1 = keyBytesOf (adrOf y) (bitsOf y)
    have hy := y.2
    apply List.ext_getElem?
    intro i
    unfold keyBytesOf
    rcases Nat.lt_or_ge i 16 with q | q
    · rw [List.getElem?_append_left (by simp; omega), List.getElem?_map, List.getElem?_range q, List.getElem?_eq_getElem (by omega)]
      show _ = some (UInt8.ofNat (y.1.getD i 0).toNat)
      rw [List.getD_eq_getElem?_getD, List.getElem?_eq_getElem (by omega)]
      simp
    · rw [List.getElem?_append_right (by simp; omega)]
      rcases Nat.lt_or_ge 16 i with q2 | q2
      · rw [List.getElem?_eq_none (by omega), List.getElem?_eq_none (by simp; omega)]
      · obtain rfl : i = 16 := by omega
        show _ = [UInt8.ofNat (y.1.getD 16 0).toNat][16 - ((List.range 16).map _).length]?
        rw [List.getD_eq_getElem?_getD, List.getElem?_eq_getElem (by omega)]
        simp
  have h := enc_key T (adrOf_lt y) (bitsOf_lt y)
  rw [← e] at h
  rw [h]
  congr 3
  show ((T (keyBytesOf (adrOf y) (bitsOf y)) : Nat) : Int) = _
  rw [show keyBytesOf (adrOf y) (bitsOf y) = y.1 from congrArg Subtype.val e.symm]
/-- the entries, as they stand in memory -/
structure InRow (T : List UInt8 → Nat) (ks : List PKey) (g : Nat) (W : World) : Prop where
  lt : g < W.heap.size
  at_ : ∀ (i c : Nat) (k : PKey) (x : Value), ks[i]? = some k → (encK T k)[c]? = some x → W.cell? ⟨g, i * 18 + c, none⟩ = some x
theorem InRow.step {T : List UInt8 → Nat} {ks : List PKey} {g : Nat} {W W' : World} (h : InRow T ks g W) (hb : Below W.heap.size W W') : InRow T ks g W' :=
  ⟨Nat.lt_of_lt_of_le h.lt hb.size, fun i c k x h1 h2 => (hb.cell (p := ⟨g, i * 18 + c, none⟩) h.lt).trans (h.at_ i c k x h1 h2)⟩
theorem InRow.pre {T : List UInt8 → Nat} {ks : List PKey} {g : Nat} {W : World} (h : InRow T ks g W) {i : Nat} {y : PKey} (hy : ks[i]? = some y) : W.rangeAt g (i * 18) (preL (adrOf y) (bitsOf y)) := fun j v hj => by
  refine h.at_ i j y v hy ?_
  rw [enc_pre, List.getElem?_append_left (List.getElem?_eq_some_iff.1 hj).1]; exact hj
theorem InRow.adr {T : List UInt8 → Nat} {ks : List PKey} {g : Nat} {W : World} (h : InRow T ks g W) {i : Nat} {y : PKey} (hy : ks[i]? = some y) : W.rangeAt g (i * 18) (adrL (adrOf y)) := fun j v hj => by
  refine h.pre hy j v ?_
  unfold preL
  rw [List.getElem?_append_left (List.getElem?_eq_some_iff.1 hj).1]; exact hj
theorem InRow.bits {T : List UInt8 → Nat} {ks : List PKey} {g : Nat} {W : World} (h : InRow T ks g W) {i : Nat} {y : PKey} (hy : ks[i]? = some y) : W.cell? ⟨g, i * 18 + 16, none⟩ = some (.int .u8 (bitsOf y : Int)) := by
  refine h.pre hy 16 _ ?_
  unfold preL
  rw [List.getElem?_append_right (by rw [adrL_length]; omega), adrL_length]; rfl

set_option maxRecDepth 100000 in
set_option maxHeartbeats 20000000 in
theorem reg7 {b mb : Nat} {D : PD} {w w1 : World} {lb off len cap i la : Nat} {oi : Info} (H : BHeld b mb D w w1) (hD : LOk D) (ok : oi.Ok) (hi : i < len) (hl : len ≤ 150) (hlb : lb < w.heap.size) (hr : w.rangeAt lb (off + i * 23 + 1) oi.L) (hc : w.cell? ⟨lb, off + i * 23 + 22, none⟩ = some (.int .u32 (la : Int))) (hla0 : la < 4294967296)
    {u1 u2 u5 u6 u7 u8 u9 u10 u11 u12 u13 u14 u15 u16 u17 u18 u19 u20 u21 u22 u23 u24 u25 u26 u27 u28 u29 u30 u31 u32 u33 u34 u35 u36 u37 u38 u39 u40 u41 u42 u43 u44 u45 u46 u47 u48 u49 u50 u51 u52 u53 u54 u55 u56 u57 u58 u59 u60 u61 u62 u63 u64 u65 u66 u67 u68 u69 u70 u71 u72 u73 u74 u75 u76 u77 u78 u79 u80 u81 u82 u83 u84 u85 u86 u87 u88 u89 u90 u91 u92 u93 u94 u95 u96 u97 u98 : Value} {Q : Exit → Act → World → Prop} (hQ : ∀ c (a : Act) d v W, Q (.panic c) (a.put d v) W → Q (.panic c) a W)
    (h : ∀ (W : World), BHeld b mb (learnD oi la D) w W → Q .normal ⟨(List.toArray (.slice (some ⟨lb, off, none⟩) len cap :: u1 :: u2 :: .pointer (some ⟨b, 0, none⟩) :: .int .i64 (i : Int) :: u5 :: u6 :: u7 :: u8 :: u9 :: u10 :: u11 :: u12 :: u13 :: u14 :: u15 :: u16 :: u17 :: u18 :: .pointer (some ⟨b, 0, none⟩) :: .slice (some ⟨lb, off, none⟩) len cap :: .int .i64 (i : Int) :: .pointer (some ⟨lb, off + i * 23, none⟩) :: .pointer (some ⟨lb, off + i * 23 + 22, none⟩) :: .int .u32 (la : Int) :: .int .u64 (la : Int) :: .slice (some ⟨lb, off, none⟩) len cap :: .int .i64 (i : Int) :: .pointer (some ⟨lb, off + i * 23, none⟩) :: .pointer (some ⟨lb, off + i * 23 + 1, none⟩) :: .agg oi.L.toArray :: .bool (learnOk oi D) :: u32 :: u33 :: u34 :: u35 :: u36 :: u37 :: u38 :: u39 :: u40 :: u41 :: u42 :: u43 :: u44 :: u45 :: u46 :: u47 :: u48 :: u49 :: u50 :: u51 :: u52 :: u53 :: u54 :: u55 :: u56 :: u57 :: u58 :: u59 :: u60 :: u61 :: u62 :: u63 :: u64 :: u65 :: u66 :: u67 :: u68 :: u69 :: u70 :: u71 :: u72 :: u73 :: u74 :: u75 :: u76 :: u77 :: u78 :: u79 :: u80 :: u81 :: u82 :: u83 :: u84 :: u85 :: u86 :: u87 :: u88 :: u89 :: u90 :: u91 :: u92 :: u93 :: u94 :: u95 :: u96 :: u97 :: u98 :: [])), []⟩ W) : (codeAt [1,1,1,0,1,0,0,1,0,0,0] (Try.f4.body.getD .skip)).wp Try.prog Q ⟨(List.toArray (.slice (some ⟨lb, off, none⟩) len cap :: u1 :: u2 :: .pointer (some ⟨b, 0, none⟩) :: .int .i64 (i : Int) :: u5 :: u6 :: u7 :: u8 :: u9 :: u10 :: u11 :: u12 :: u13 :: u14 :: u15 :: u16 :: u17 :: u18 :: u19 :: u20 :: u21 :: u22 :: u23 :: u24 :: u25 :: u26 :: u27 :: u28 :: u29 :: u30 :: u31 :: u32 :: u33 :: u34 :: u35 :: u36 :: u37 :: u38 :: u39 :: u40 :: u41 :: u42 :: u43 :: u44 :: u45 :: u46 :: u47 :: u48 :: u49 :: u50 :: u51 :: u52 :: u53 :: u54 :: u55 :: u56 :: u57 :: u58 :: u59 :: u60 :: u61 :: u62 :: u63 :: u64 :: u65 :: u66 :: u67 :: u68 :: u69 :: u70 :: u71 :: u72 :: u73 :: u74 :: u75 :: u76 :: u77 :: u78 :: u79 :: u80 :: u81 :: u82 :: u83 :: u84 :: u85 :: u86 :: u87 :: u88 :: u89 :: u90 :: u91 :: u92 :: u93 :: u94 :: u95 :: u96 :: u97 :: u98 :: [])), []⟩ w1 := by
    have hL : ∀ W, Below w.heap.size w W → W.rangeAt lb (off + i * 23 + 1) oi.L := fun W hW => range_below hr hW hlb
    have hla : ∀ W, Below w.heap.size w W → W.cell? ⟨lb, off + i * 23 + 22, none⟩ = some (.int .u32 (la : Int)) := fun W hW => (hW.cell (p := ⟨lb, off + i * 23 + 22, none⟩) hlb).trans hc
    have hi1 : ¬ ((len : Int) ≤ i) := by omega
    have hi2 : (i : Int) < len := by omega
    have ew : IntKind.u64.wrap (la : Int) = (la : Int) := by simp [IntKind.wrap, IntKind.signed, IntKind.bits]; omega
    have HLA := Lib.hid (show la < 18446744073709551616 by omega)
    clear hr hc hl hla0
    have hS : BHeld b mb D w w1.drew := H.step (Below.refl _ _).drew
    conv in codeAt _ _ => whnf
    refine wp_region_held_drew (S := fun W => Below w.heap.size w W) (by kernel_rfl) hS.below ?_
    have HB := Lib.hid hS
    clear hS H
    intro HS
    refine wpAnyH_take (i := 0) (v := .pointer (some ⟨b, 0, none⟩)) rfl (by kernel_rfl) (by kernel_rfl) (by kernel_rfl) (fun c x W h => hQ c _ _ _ W h) (Or.inl ⟨by rfl, fun W hW => by go_simp⟩) HS ?_
    try simp only [List.getElem_toArray, List.getElem_cons_zero, List.getElem_cons_succ, Act.put, List.setIfInBounds_toArray, List.set_cons_zero, List.set_cons_succ]
    refine wpAnyH_take (i := 1) (v := .slice (some ⟨lb, off, none⟩) len cap) rfl (by kernel_rfl) (by kernel_rfl) (by kernel_rfl) (fun c x W h => hQ c _ _ _ W h) (Or.inl ⟨by rfl, fun W hW => by go_simp⟩) HS ?_
    try simp only [List.getElem_toArray, List.getElem_cons_zero, List.getElem_cons_succ, Act.put, List.setIfInBounds_toArray, List.set_cons_zero, List.set_cons_succ]
    refine wpAnyH_take (i := 2) (v := .int .i64 (i : Int)) rfl (by kernel_rfl) (by kernel_rfl) (by kernel_rfl) (fun c x W h => hQ c _ _ _ W h) (Or.inl ⟨by rfl, fun W hW => by go_simp⟩) HS ?_
    try simp only [List.getElem_toArray, List.getElem_cons_zero, List.getElem_cons_succ, Act.put, List.setIfInBounds_toArray, List.set_cons_zero, List.set_cons_succ]
    refine wpAnyH_take (i := 3) (v := .pointer (some ⟨lb, off + i * 23, none⟩)) rfl (by kernel_rfl) (by kernel_rfl) (by kernel_rfl) (fun c x W h => hQ c _ _ _ W h) (Or.inl ⟨by rfl, fun W hW => by go_simp⟩) HS ?_
    try simp only [List.getElem_toArray, List.getElem_cons_zero, List.getElem_cons_succ, Act.put, List.setIfInBounds_toArray, List.set_cons_zero, List.set_cons_succ]
    refine wpAnyH_take (i := 4) (v := .pointer (some ⟨lb, off + i * 23 + 22, none⟩)) rfl (by kernel_rfl) (by kernel_rfl) (by kernel_rfl) (fun c x W h => hQ c _ _ _ W h) (Or.inl ⟨by rfl, fun W hW => by go_simp⟩) HS ?_
    try simp only [List.getElem_toArray, List.getElem_cons_zero, List.getElem_cons_succ, Act.put, List.setIfInBounds_toArray, List.set_cons_zero, List.set_cons_succ]
    refine wpAnyH_take (i := 5) (v := .int .u32 (la : Int)) rfl (by kernel_rfl) (by kernel_rfl) (by kernel_rfl) (fun c x W h => hQ c _ _ _ W h) (Or.inl ⟨by rfl, fun W hW => by have := hla W hW; go_simp⟩) HS ?_
    try simp only [List.getElem_toArray, List.getElem_cons_zero, List.getElem_cons_succ, Act.put, List.setIfInBounds_toArray, List.set_cons_zero, List.set_cons_succ]
    refine wpAnyH_take (i := 6) (v := .int .u64 (la : Int)) rfl (by kernel_rfl) (by kernel_rfl) (by kernel_rfl) (fun c x W h => hQ c _ _ _ W h) (Or.inl ⟨by rfl, fun W hW => by go_simp⟩) HS ?_
    try simp only [List.getElem_toArray, List.getElem_cons_zero, List.getElem_cons_succ, Act.put, List.setIfInBounds_toArray, List.set_cons_zero, List.set_cons_succ]
    refine wpAnyH_take (i := 7) (v := .slice (some ⟨lb, off, none⟩) len cap) rfl (by kernel_rfl) (by kernel_rfl) (by kernel_rfl) (fun c x W h => hQ c _ _ _ W h) (Or.inl ⟨by rfl, fun W hW => by go_simp⟩) HS ?_
    try simp only [List.getElem_toArray, List.getElem_cons_zero, List.getElem_cons_succ, Act.put, List.setIfInBounds_toArray, List.set_cons_zero, List.set_cons_succ]
    refine wpAnyH_take (i := 8) (v := .int .i64 (i : Int)) rfl (by kernel_rfl) (by kernel_rfl) (by kernel_rfl) (fun c x W h => hQ c _ _ _ W h) (Or.inl ⟨by rfl, fun W hW => by go_simp⟩) HS ?_
    try simp only [List.getElem_toArray, List.getElem_cons_zero, List.getElem_cons_succ, Act.put, List.setIfInBounds_toArray, List.set_cons_zero, List.set_cons_succ]
    refine wpAnyH_take (i := 9) (v := .pointer (some ⟨lb, off + i * 23, none⟩)) rfl (by kernel_rfl) (by kernel_rfl) (by kernel_rfl) (fun c x W h => hQ c _ _ _ W h) (Or.inl ⟨by rfl, fun W hW => by go_simp⟩) HS ?_
    try simp only [List.getElem_toArray, List.getElem_cons_zero, List.getElem_cons_succ, Act.put, List.setIfInBounds_toArray, List.set_cons_zero, List.set_cons_succ]
    refine wpAnyH_take (i := 10) (v := .pointer (some ⟨lb, off + i * 23 + 1, none⟩)) rfl (by kernel_rfl) (by kernel_rfl) (by kernel_rfl) (fun c x W h => hQ c _ _ _ W h) (Or.inl ⟨by rfl, fun W hW => by go_simp⟩) HS ?_
    try simp only [List.getElem_toArray, List.getElem_cons_zero, List.getElem_cons_succ, Act.put, List.setIfInBounds_toArray, List.set_cons_zero, List.set_cons_succ]
    refine wpAnyH_take (i := 11) (v := .agg oi.L.toArray) rfl (by kernel_rfl) (by kernel_rfl) (by kernel_rfl) (fun c x W h => hQ c _ _ _ W h) (yieldsIf_load_mid (by rfl) 28 _ rfl lb (off + i * 23 + 1) rfl oi.L _ (fun W hW => hL W hW) Try.underlying28 rfl (info28 _)) HS ?_
    try simp only [List.getElem_toArray, List.getElem_cons_zero, List.getElem_cons_succ, Act.put, List.setIfInBounds_toArray, List.set_cons_zero, List.set_cons_succ]
    refine wpAnyH_ready (rs := [12]) (by kernel_rfl) (by simp) ?_
    refine AllReadyH.cons rfl (fun K hK => ?_) AllReadyH.nil
    rw [if_pos (by kernel_rfl)]
    simp only [List.getElem_toArray, List.getElem_cons_zero, List.getElem_cons_succ]
    go_simp
    refine (learn_any oi b mb la D _ ok HLA.out HB.out.hb HB.out.map hD.size).mono ?_
    rintro e w7 ⟨rfl, L7⟩
    have H7 := Lib.hid (HB.out.learnt L7)
    refine hK.out _ _ H7.out.below (fun HS => ?_)
    clear hK L7
    try simp only [List.getElem_toArray, List.getElem_cons_zero, List.getElem_cons_succ, Act.put, List.setIfInBounds_toArray, List.set_cons_zero, List.set_cons_succ]
    refine wpAnyH_done (by kernel_rfl) ?_ _
    exact act_eq (by kernel_rfl) (h _ H7.out)
end Go.Proofs.Ytkhbchgocilclaa
