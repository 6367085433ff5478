/- PrefixesBound's test of two entries, one behind the other. No condition. -/
import Derived.Test.YtkhbchgocilclaaList
import Derived.Test.YtkhbchgocilclaaHoldEq
import Derived.Laws.IdiomStrings
import Derived.Outline
import Derived.Deep.RegionHeld3
namespace Go.Proofs.Ytkhbchgocilclaa
open Go.RowKit
set_option linter.unusedVariables false
set_option linter.unusedSimpArgs false
def adrOf (y : PKey) : Nat → Nat := fun i => (y.1.getD i 0).toNat
def bitsOf (y : PKey) : Nat := (y.1.getD 16 0).toNat
theorem adrOf_lt (y : PKey) : ∀ j, j < 16 → adrOf y j < 256 := fun j _ => (y.1.getD j 0).toNat_lt
theorem bitsOf_lt (y : PKey) : bitsOf y < 256 := (y.1.getD 16 0).toNat_lt
theorem less_num : ∀ (xs ys : List UInt8), xs.length = ys.length → Op.bytesLess xs ys = decide (numB xs < numB ys)
  | [], [], _ => by simp [Op.bytesLess]
  | x :: xs, y :: ys, h => by
    have h' : xs.length = ys.length := by simpa using h
    have h1 := numB_lt xs
    have h2 := numB_lt ys
    rw [← h'] at h2
    unfold Op.bytesLess
    rw [less_num xs ys h', numB_cons, numB_cons, ← h']
    rw [Bool.eq_iff_iff]
    simp only [Bool.or_eq_true, Bool.and_eq_true, decide_eq_true_eq, beq_iff_eq]
    rw [lex_lt h1 h2, UInt8.lt_iff_toNat_lt, UInt8.toNat_inj]
  | [], _ :: _, h => by simp at h
  | _ :: _, [], h => by simp at h
theorem take_num {y z : PKey} (h : numK z < numK y) : numB (z.1.take 16) ≤ numB (y.1.take 16) ∧ (numB (z.1.take 16) = numB (y.1.take 16) → bitsOf z < bitsOf y) := by
  rw [numK_eq, numK_eq] at h
  have h1 := bitsOf_lt z
  have h2 := bitsOf_lt y
  unfold bitsOf at *
  omega
theorem not_gtr {y z : PKey} (h : numK z < numK y) : (!(Op.bytesLess (z.1.take 16) (y.1.take 16) || z.1.take 16 == y.1.take 16)) = false := by
  have hl : (z.1.take 16).length = (y.1.take 16).length := by rw [List.length_take, List.length_take, y.2, z.2]
  rw [less_num _ _ hl]
  rcases Nat.lt_or_ge (numB (z.1.take 16)) (numB (y.1.take 16)) with q | q
  · rw [decide_eq_true q]; rfl
  · have e := numB_inj _ _ hl (Nat.le_antisymm (take_num h).1 q)
    rw [e]; simp
theorem adrNe_false {y z : PKey} (h : adrNe (adrOf z) (adrOf y) = false) : z.1.take 16 = y.1.take 16 := by
  unfold adrNe at h
  have h := eq_of_beq (by simpa using h : ((List.range 16).map (fun i => UInt8.ofNat (adrOf z i)) == (List.range 16).map (fun i => UInt8.ofNat (adrOf y i))) = true)
  have e : ∀ x : PKey, (List.range 16).map (fun i => UInt8.ofNat (adrOf x i)) = x.1.take 16 := fun x => by
    apply List.ext_getElem?
    intro i
    have hx := x.2
    rcases Nat.lt_or_ge i 16 with q | q
    · rw [List.getElem?_map, List.getElem?_range q, List.getElem?_take_of_lt q, List.getElem?_eq_getElem (by omega)]
      show some (UInt8.ofNat (x.1.getD i 0).toNat) = _
      rw [List.getD_eq_getElem?_getD, List.getElem?_eq_getElem (by omega)]
      simp
    · rw [List.getElem?_eq_none (by simp; omega), List.getElem?_eq_none (by simp; omega)]
  rw [e, e] at h
  exact h
theorem adr_eql {a b : Nat → Nat} (ha : ∀ i, i < 16 → a i < 256) (hb : ∀ i, i < 16 → b i < 256) (W : World) : (binOp .eql 23 (.agg (adrCells a)) (.agg (adrCells b))).run Try.prog W = .ok (.bool (!adrNe a b)) W := by
  rw [adr_cell ha, adr_cell hb, run_eql_bytes W 23 5 16 (by kernel_rfl) (by kernel_rfl) size5 _ _ (by simp) (by simp)]
  unfold adrNe; rw [Bool.not_not]
theorem wrap_small {m : Nat} (h : m < 9223372036854775808) : IntKind.i64.wrap (m : Int) = (m : Int) := by
  simp [IntKind.wrap, IntKind.signed, IntKind.bits]; omega
/-- what the test reads -/
structure Seen13 (S : World → Prop) (PB : Nat) (y : PKey) : Prop where
  step : ∀ W W', S W → Below W.heap.size W W' → S W'
  p : ∀ W, S W → W.heap[PB]? = some (.cells (preCells (adrOf y) (bitsOf y)) 25 (0, 0))
/-- .. of the one ahead -/
structure Seen13b (S : World → Prop) (g m : Nat) (z : PKey) : Prop where
  r : ∀ W, S W → W.rangeAt g (m * 18) (adrL (adrOf z))
  b : ∀ W, S W → W.cell? ⟨g, m * 18 + 16, none⟩ = some (.int .u8 (bitsOf z : Int))
theorem adrL_at (a : Nat → Nat) {i : Nat} (h : i < 16) : (adrL a)[i]? = some (.int .u8 (a i : Int)) := by
  have := adrCells_get a h; simpa [adrCells] using this
theorem conv_row {W : World} {b o : Nat} {y : PKey} (h : W.rangeAt b o (adrL (adrOf y))) : (convert 45 9 (.slice (some ⟨b, o, none⟩) 16 16)).run Try.prog W = .ok (.string ⟨(y.1.take 16).toArray⟩) W := by
  have hl : (y.1.take 16).length = 16 := by rw [List.length_take, y.2]; rfl
  have := run_convert_bytes_back (P := Try.prog) W 45 9 5 ⟨b, o, none⟩ 16 (y.1.take 16) Try.underlying45 Try.underlying5 Try.underlying9 (fun j hj => by
    rw [hl] at hj
    rw [Addr.add_mid]
    have := h j _ (adrL_at (adrOf y) hj)
    rw [this]
    unfold adrOf
    have hy := y.2
    rw [List.getD_eq_getElem?_getD, List.getElem?_eq_getElem (by omega)]
    simp)
  rw [hl] at this
  exact this
set_option maxRecDepth 100000 in
set_option maxHeartbeats 20000000 in
theorem reg13_zero {S : World → Prop} {PB : Nat} {y : PKey} {X : Value} (hs : Seen13 S PB y) (hmk : adrNe (masked (adrOf y) (bitsOf y)) (adrOf y) = false) {u0 u1 u2 u3 u4 u8 u9 u10 u11 u12 u13 u14 u15 u16 u17 u18 u19 u20 u21 u22 u23 u24 u25 u26 u27 u28 u29 u30 u31 u32 u33 u34 u35 u36 u37 u38 u39 u40 u41 u42 u43 u44 u45 u46 u47 u48 u49 u50 u51 u52 u53 u54 u55 u56 u57 u58 u59 u60 u61 u62 u63 u64 u65 u66 u67 u68 u69 u70 u71 u72 u73 u74 u75 u76 u77 u78 u79 u80 u81 u82 u83 u84 u85 u86 u87 u88 u89 u90 u91 u92 u93 u94 u95 u96 u97 u98 : Value} {w : World} {Q : Exit → Act → World → Prop} (hQ : ∀ c (a : Act) d v W, Q (.panic c) (a.put d v) W → Q (.panic c) a W) (hS : S w.drew)
    (h : ∀ (W : World), S W → Q .normal ⟨(List.toArray (u0 :: u1 :: u2 :: u3 :: u4 :: X :: .int .i64 0 :: .pointer (some ⟨PB, 0, none⟩) :: u8 :: u9 :: u10 :: u11 :: u12 :: u13 :: u14 :: u15 :: u16 :: u17 :: u18 :: u19 :: u20 :: u21 :: u22 :: u23 :: u24 :: u25 :: u26 :: u27 :: u28 :: u29 :: u30 :: u31 :: u32 :: u33 :: u34 :: u35 :: u36 :: u37 :: u38 :: u39 :: u40 :: u41 :: u42 :: u43 :: u44 :: .pointer (some ⟨PB, 0, none⟩) :: .agg (adrL (adrOf y)).toArray :: .pointer (some ⟨PB, 16, none⟩) :: .int .u8 (bitsOf y : Int) :: .agg (adrCells (masked (adrOf y) (bitsOf y))) :: .pointer (some ⟨PB, 0, none⟩) :: .agg (adrL (adrOf y)).toArray :: .bool false :: .bool false :: .int .i64 0 :: .bool false :: .bool false :: undef :: undef :: undef :: undef :: undef :: undef :: undef :: undef :: undef :: undef :: undef :: undef :: undef :: undef :: undef :: undef :: undef :: undef :: undef :: undef :: undef :: undef :: undef :: undef :: undef :: undef :: undef :: undef :: undef :: undef :: undef :: undef :: undef :: undef :: undef :: undef :: .bool false :: .bool false :: u95 :: u96 :: u97 :: u98 :: [])), []⟩ W) : (codeAt [1,1,1,0,1,0,0,1,0,0,1,1,0,1,0,0,1,0,0,1,0] (Try.f4.body.getD .skip)).wp Try.prog Q ⟨(List.toArray (u0 :: u1 :: u2 :: u3 :: u4 :: X :: .int .i64 0 :: .pointer (some ⟨PB, 0, none⟩) :: u8 :: u9 :: u10 :: u11 :: u12 :: u13 :: u14 :: u15 :: u16 :: u17 :: u18 :: u19 :: u20 :: u21 :: u22 :: u23 :: u24 :: u25 :: u26 :: u27 :: u28 :: u29 :: u30 :: u31 :: u32 :: u33 :: u34 :: u35 :: u36 :: u37 :: u38 :: u39 :: u40 :: u41 :: u42 :: u43 :: u44 :: u45 :: u46 :: u47 :: u48 :: u49 :: u50 :: u51 :: u52 :: u53 :: u54 :: u55 :: u56 :: u57 :: u58 :: u59 :: u60 :: u61 :: u62 :: u63 :: u64 :: u65 :: u66 :: u67 :: u68 :: u69 :: u70 :: u71 :: u72 :: u73 :: u74 :: u75 :: u76 :: u77 :: u78 :: u79 :: u80 :: u81 :: u82 :: u83 :: u84 :: u85 :: u86 :: u87 :: u88 :: u89 :: u90 :: u91 :: u92 :: u93 :: u94 :: u95 :: u96 :: u97 :: u98 :: [])), []⟩ w := by
    have hz : ∀ W : World, (binOp .neq 23 (.agg (adrCells (masked (adrOf y) (bitsOf y)))) (.agg (adrL (adrOf y)).toArray)).run Try.prog W = .ok (.bool false) W := fun W => by
      show (binOp .neq 23 (.agg (adrCells (masked (adrOf y) (bitsOf y)))) (.agg (adrCells (adrOf y)))).run Try.prog W = _
      rw [adr_neq (a := masked (adrOf y) (bitsOf y)) (fun j hj => top_lt (adrOf_lt y j hj) _) (adrOf_lt y), hmk]
    conv in codeAt _ _ => whnf
    refine wp_region_held_drew (S := S) (by kernel_rfl) hS ?_
    clear hS
    intro HS
    refine wpAnyH_take (i := 0) (v := .pointer (some ⟨PB, 0, none⟩)) rfl (by kernel_rfl) (by kernel_rfl) (by kernel_rfl) (fun c x W h => hQ c _ _ _ W h) (Or.inl ⟨by rfl, fun W hW => by go_simp⟩) HS ?_
    try simp only [List.getElem_toArray, List.getElem_cons_zero, List.getElem_cons_succ, Act.put, List.setIfInBounds_toArray, List.set_cons_zero, List.set_cons_succ]
    refine wpAnyH_take (i := 1) (v := .agg (adrL (adrOf y)).toArray) rfl (by kernel_rfl) (by kernel_rfl) (by kernel_rfl) (fun c x W h => hQ c _ _ _ W h) (by refine yieldsIf_load_mid ?_ 23 (.tmp 45) rfl PB 0 ?_ (adrL (adrOf y)) _ (fun W hW => range_pre (hs.p W hW)) Try.underlying23 rfl (info23 _); (go_simp); (go_simp)) HS ?_
    try simp only [List.getElem_toArray, List.getElem_cons_zero, List.getElem_cons_succ, Act.put, List.setIfInBounds_toArray, List.set_cons_zero, List.set_cons_succ]
    refine wpAnyH_take (i := 2) (v := .pointer (some ⟨PB, 16, none⟩)) rfl (by kernel_rfl) (by kernel_rfl) (by kernel_rfl) (fun c x W h => hQ c _ _ _ W h) (Or.inl ⟨by rfl, fun W hW => by go_simp⟩) HS ?_
    try simp only [List.getElem_toArray, List.getElem_cons_zero, List.getElem_cons_succ, Act.put, List.setIfInBounds_toArray, List.set_cons_zero, List.set_cons_succ]
    refine wpAnyH_take (i := 3) (v := .int .u8 (bitsOf y : Int)) rfl (by kernel_rfl) (by kernel_rfl) (by kernel_rfl) (fun c x W h => hQ c _ _ _ W h) (Or.inl ⟨by rfl, fun W hW => by have := seen_p (hs.p W hW); go_simp⟩) HS ?_
    try simp only [List.getElem_toArray, List.getElem_cons_zero, List.getElem_cons_succ, Act.put, List.setIfInBounds_toArray, List.set_cons_zero, List.set_cons_succ]
    refine wpAnyH_take (i := 5) (v := .pointer (some ⟨PB, 0, none⟩)) rfl (by kernel_rfl) (by kernel_rfl) (by kernel_rfl) (fun c x W h => hQ c _ _ _ W h) (Or.inl ⟨by rfl, fun W hW => by go_simp⟩) HS ?_
    try simp only [List.getElem_toArray, List.getElem_cons_zero, List.getElem_cons_succ, Act.put, List.setIfInBounds_toArray, List.set_cons_zero, List.set_cons_succ]
    refine wpAnyH_take (i := 6) (v := .agg (adrL (adrOf y)).toArray) rfl (by kernel_rfl) (by kernel_rfl) (by kernel_rfl) (fun c x W h => hQ c _ _ _ W h) (by refine yieldsIf_load_mid ?_ 23 (.tmp 50) rfl PB 0 ?_ (adrL (adrOf y)) _ (fun W hW => range_pre (hs.p W hW)) Try.underlying23 rfl (info23 _); (go_simp); (go_simp)) HS ?_
    try simp only [List.getElem_toArray, List.getElem_cons_zero, List.getElem_cons_succ, Act.put, List.setIfInBounds_toArray, List.set_cons_zero, List.set_cons_succ]
    refine wpAnyH_ready (rs := [4]) (by kernel_rfl) (by simp) ?_
    refine AllReadyH.cons rfl (fun K hK => ?_) AllReadyH.nil
    rw [if_pos (by kernel_rfl)]
    simp only [List.getElem_toArray, List.getElem_cons_zero, List.getElem_cons_succ]
    go_simp
    refine (masked_any (adrOf y) (bitsOf y) _ (adrOf_lt y) (bitsOf_lt y)).mono ?_
    rintro e w7 ⟨rfl, b7⟩
    refine hK.out _ _ (hs.step _ _ HS b7) (fun HS => ?_)
    clear hK b7
    try simp only [List.getElem_toArray, List.getElem_cons_zero, List.getElem_cons_succ, Act.put, List.setIfInBounds_toArray, List.set_cons_zero, List.set_cons_succ]
    refine wpAnyH_take (i := 7) (v := .bool false) rfl (by kernel_rfl) (by kernel_rfl) (by kernel_rfl) (fun c x W h => hQ c _ _ _ W h) (Or.inl ⟨by rfl, fun W hW => by have := hz W; go_simp⟩) HS ?_
    try simp only [List.getElem_toArray, List.getElem_cons_zero, List.getElem_cons_succ, Act.put, List.setIfInBounds_toArray, List.set_cons_zero, List.set_cons_succ]
    refine wpAnyH_take (i := 8) (v := .bool false) rfl (by kernel_rfl) (by kernel_rfl) (by kernel_rfl) (fun c x W h => hQ c _ _ _ W h) (Or.inl ⟨by rfl, fun W hW => by go_simp⟩) HS ?_
    try simp only [List.getElem_toArray, List.getElem_cons_zero, List.getElem_cons_succ, Act.put, List.setIfInBounds_toArray, List.set_cons_zero, List.set_cons_succ]
    refine wpAnyH_take (i := 9) (v := .int .i64 0) rfl (by kernel_rfl) (by kernel_rfl) (by kernel_rfl) (fun c x W h => hQ c _ _ _ W h) (Or.inl ⟨by kernel_rfl, fun W hW => by go_simp⟩) HS ?_
    try simp only [List.getElem_toArray, List.getElem_cons_zero, List.getElem_cons_succ, Act.put, List.setIfInBounds_toArray, List.set_cons_zero, List.set_cons_succ]
    refine wpAnyH_take (i := 10) (v := .bool false) rfl (by kernel_rfl) (by kernel_rfl) (by kernel_rfl) (fun c x W h => hQ c _ _ _ W h) (Or.inl ⟨by kernel_rfl, fun W hW => by go_simp⟩) HS ?_
    try simp only [List.getElem_toArray, List.getElem_cons_zero, List.getElem_cons_succ, Act.put, List.setIfInBounds_toArray, List.set_cons_zero, List.set_cons_succ]
    refine wpAnyH_take (i := 11) (v := .bool false) rfl (by kernel_rfl) (by kernel_rfl) (by kernel_rfl) (fun c x W h => hQ c _ _ _ W h) (Or.inl ⟨by kernel_rfl, fun W hW => by go_simp⟩) HS ?_
    try simp only [List.getElem_toArray, List.getElem_cons_zero, List.getElem_cons_succ, Act.put, List.setIfInBounds_toArray, List.set_cons_zero, List.set_cons_succ]
    refine wpAnyH_take (i := 12) (v := undef) rfl (by kernel_rfl) (by kernel_rfl) (by kernel_rfl) (fun c x W h => hQ c _ _ _ W h) (Or.inr ⟨by kernel_rfl, rfl⟩) HS ?_
    try simp only [List.getElem_toArray, List.getElem_cons_zero, List.getElem_cons_succ, Act.put, List.setIfInBounds_toArray, List.set_cons_zero, List.set_cons_succ]
    refine wpAnyH_take (i := 13) (v := undef) rfl (by kernel_rfl) (by kernel_rfl) (by kernel_rfl) (fun c x W h => hQ c _ _ _ W h) (Or.inr ⟨by kernel_rfl, rfl⟩) HS ?_
    try simp only [List.getElem_toArray, List.getElem_cons_zero, List.getElem_cons_succ, Act.put, List.setIfInBounds_toArray, List.set_cons_zero, List.set_cons_succ]
    refine wpAnyH_take (i := 14) (v := undef) rfl (by kernel_rfl) (by kernel_rfl) (by kernel_rfl) (fun c x W h => hQ c _ _ _ W h) (Or.inr ⟨by kernel_rfl, rfl⟩) HS ?_
    try simp only [List.getElem_toArray, List.getElem_cons_zero, List.getElem_cons_succ, Act.put, List.setIfInBounds_toArray, List.set_cons_zero, List.set_cons_succ]
    refine wpAnyH_take (i := 15) (v := undef) rfl (by kernel_rfl) (by kernel_rfl) (by kernel_rfl) (fun c x W h => hQ c _ _ _ W h) (Or.inr ⟨by kernel_rfl, rfl⟩) HS ?_
    try simp only [List.getElem_toArray, List.getElem_cons_zero, List.getElem_cons_succ, Act.put, List.setIfInBounds_toArray, List.set_cons_zero, List.set_cons_succ]
    refine wpAnyH_take (i := 16) (v := undef) rfl (by kernel_rfl) (by kernel_rfl) (by kernel_rfl) (fun c x W h => hQ c _ _ _ W h) (Or.inr ⟨by kernel_rfl, rfl⟩) HS ?_
    try simp only [List.getElem_toArray, List.getElem_cons_zero, List.getElem_cons_succ, Act.put, List.setIfInBounds_toArray, List.set_cons_zero, List.set_cons_succ]
    refine wpAnyH_take (i := 17) (v := undef) rfl (by kernel_rfl) (by kernel_rfl) (by kernel_rfl) (fun c x W h => hQ c _ _ _ W h) (Or.inr ⟨by kernel_rfl, rfl⟩) HS ?_
    try simp only [List.getElem_toArray, List.getElem_cons_zero, List.getElem_cons_succ, Act.put, List.setIfInBounds_toArray, List.set_cons_zero, List.set_cons_succ]
    refine wpAnyH_take (i := 18) (v := undef) rfl (by kernel_rfl) (by kernel_rfl) (by kernel_rfl) (fun c x W h => hQ c _ _ _ W h) (Or.inr ⟨by kernel_rfl, rfl⟩) HS ?_
    try simp only [List.getElem_toArray, List.getElem_cons_zero, List.getElem_cons_succ, Act.put, List.setIfInBounds_toArray, List.set_cons_zero, List.set_cons_succ]
    refine wpAnyH_take (i := 19) (v := undef) rfl (by kernel_rfl) (by kernel_rfl) (by kernel_rfl) (fun c x W h => hQ c _ _ _ W h) (Or.inr ⟨by kernel_rfl, rfl⟩) HS ?_
    try simp only [List.getElem_toArray, List.getElem_cons_zero, List.getElem_cons_succ, Act.put, List.setIfInBounds_toArray, List.set_cons_zero, List.set_cons_succ]
    refine wpAnyH_take (i := 20) (v := undef) rfl (by kernel_rfl) (by kernel_rfl) (by kernel_rfl) (fun c x W h => hQ c _ _ _ W h) (Or.inr ⟨by kernel_rfl, rfl⟩) HS ?_
    try simp only [List.getElem_toArray, List.getElem_cons_zero, List.getElem_cons_succ, Act.put, List.setIfInBounds_toArray, List.set_cons_zero, List.set_cons_succ]
    refine wpAnyH_take (i := 21) (v := undef) rfl (by kernel_rfl) (by kernel_rfl) (by kernel_rfl) (fun c x W h => hQ c _ _ _ W h) (Or.inr ⟨by kernel_rfl, rfl⟩) HS ?_
    try simp only [List.getElem_toArray, List.getElem_cons_zero, List.getElem_cons_succ, Act.put, List.setIfInBounds_toArray, List.set_cons_zero, List.set_cons_succ]
    refine wpAnyH_take (i := 22) (v := undef) rfl (by kernel_rfl) (by kernel_rfl) (by kernel_rfl) (fun c x W h => hQ c _ _ _ W h) (Or.inr ⟨by kernel_rfl, rfl⟩) HS ?_
    try simp only [List.getElem_toArray, List.getElem_cons_zero, List.getElem_cons_succ, Act.put, List.setIfInBounds_toArray, List.set_cons_zero, List.set_cons_succ]
    refine wpAnyH_take (i := 23) (v := undef) rfl (by kernel_rfl) (by kernel_rfl) (by kernel_rfl) (fun c x W h => hQ c _ _ _ W h) (Or.inr ⟨by kernel_rfl, rfl⟩) HS ?_
    try simp only [List.getElem_toArray, List.getElem_cons_zero, List.getElem_cons_succ, Act.put, List.setIfInBounds_toArray, List.set_cons_zero, List.set_cons_succ]
    refine wpAnyH_take (i := 24) (v := undef) rfl (by kernel_rfl) (by kernel_rfl) (by kernel_rfl) (fun c x W h => hQ c _ _ _ W h) (Or.inr ⟨by kernel_rfl, rfl⟩) HS ?_
    try simp only [List.getElem_toArray, List.getElem_cons_zero, List.getElem_cons_succ, Act.put, List.setIfInBounds_toArray, List.set_cons_zero, List.set_cons_succ]
    refine wpAnyH_take (i := 25) (v := undef) rfl (by kernel_rfl) (by kernel_rfl) (by kernel_rfl) (fun c x W h => hQ c _ _ _ W h) (Or.inr ⟨by kernel_rfl, rfl⟩) HS ?_
    try simp only [List.getElem_toArray, List.getElem_cons_zero, List.getElem_cons_succ, Act.put, List.setIfInBounds_toArray, List.set_cons_zero, List.set_cons_succ]
    refine wpAnyH_take (i := 26) (v := undef) rfl (by kernel_rfl) (by kernel_rfl) (by kernel_rfl) (fun c x W h => hQ c _ _ _ W h) (Or.inr ⟨by kernel_rfl, rfl⟩) HS ?_
    try simp only [List.getElem_toArray, List.getElem_cons_zero, List.getElem_cons_succ, Act.put, List.setIfInBounds_toArray, List.set_cons_zero, List.set_cons_succ]
    refine wpAnyH_take (i := 27) (v := undef) rfl (by kernel_rfl) (by kernel_rfl) (by kernel_rfl) (fun c x W h => hQ c _ _ _ W h) (Or.inr ⟨by kernel_rfl, rfl⟩) HS ?_
    try simp only [List.getElem_toArray, List.getElem_cons_zero, List.getElem_cons_succ, Act.put, List.setIfInBounds_toArray, List.set_cons_zero, List.set_cons_succ]
    refine wpAnyH_take (i := 28) (v := undef) rfl (by kernel_rfl) (by kernel_rfl) (by kernel_rfl) (fun c x W h => hQ c _ _ _ W h) (Or.inr ⟨by kernel_rfl, rfl⟩) HS ?_
    try simp only [List.getElem_toArray, List.getElem_cons_zero, List.getElem_cons_succ, Act.put, List.setIfInBounds_toArray, List.set_cons_zero, List.set_cons_succ]
    refine wpAnyH_take (i := 29) (v := undef) rfl (by kernel_rfl) (by kernel_rfl) (by kernel_rfl) (fun c x W h => hQ c _ _ _ W h) (Or.inr ⟨by kernel_rfl, rfl⟩) HS ?_
    try simp only [List.getElem_toArray, List.getElem_cons_zero, List.getElem_cons_succ, Act.put, List.setIfInBounds_toArray, List.set_cons_zero, List.set_cons_succ]
    refine wpAnyH_take (i := 30) (v := undef) rfl (by kernel_rfl) (by kernel_rfl) (by kernel_rfl) (fun c x W h => hQ c _ _ _ W h) (Or.inr ⟨by kernel_rfl, rfl⟩) HS ?_
    try simp only [List.getElem_toArray, List.getElem_cons_zero, List.getElem_cons_succ, Act.put, List.setIfInBounds_toArray, List.set_cons_zero, List.set_cons_succ]
    refine wpAnyH_take (i := 31) (v := undef) rfl (by kernel_rfl) (by kernel_rfl) (by kernel_rfl) (fun c x W h => hQ c _ _ _ W h) (Or.inr ⟨by kernel_rfl, rfl⟩) HS ?_
    try simp only [List.getElem_toArray, List.getElem_cons_zero, List.getElem_cons_succ, Act.put, List.setIfInBounds_toArray, List.set_cons_zero, List.set_cons_succ]
    refine wpAnyH_take (i := 32) (v := undef) rfl (by kernel_rfl) (by kernel_rfl) (by kernel_rfl) (fun c x W h => hQ c _ _ _ W h) (Or.inr ⟨by kernel_rfl, rfl⟩) HS ?_
    try simp only [List.getElem_toArray, List.getElem_cons_zero, List.getElem_cons_succ, Act.put, List.setIfInBounds_toArray, List.set_cons_zero, List.set_cons_succ]
    refine wpAnyH_take (i := 33) (v := undef) rfl (by kernel_rfl) (by kernel_rfl) (by kernel_rfl) (fun c x W h => hQ c _ _ _ W h) (Or.inr ⟨by kernel_rfl, rfl⟩) HS ?_
    try simp only [List.getElem_toArray, List.getElem_cons_zero, List.getElem_cons_succ, Act.put, List.setIfInBounds_toArray, List.set_cons_zero, List.set_cons_succ]
    refine wpAnyH_take (i := 34) (v := undef) rfl (by kernel_rfl) (by kernel_rfl) (by kernel_rfl) (fun c x W h => hQ c _ _ _ W h) (Or.inr ⟨by kernel_rfl, rfl⟩) HS ?_
    try simp only [List.getElem_toArray, List.getElem_cons_zero, List.getElem_cons_succ, Act.put, List.setIfInBounds_toArray, List.set_cons_zero, List.set_cons_succ]
    refine wpAnyH_take (i := 35) (v := undef) rfl (by kernel_rfl) (by kernel_rfl) (by kernel_rfl) (fun c x W h => hQ c _ _ _ W h) (Or.inr ⟨by kernel_rfl, rfl⟩) HS ?_
    try simp only [List.getElem_toArray, List.getElem_cons_zero, List.getElem_cons_succ, Act.put, List.setIfInBounds_toArray, List.set_cons_zero, List.set_cons_succ]
    refine wpAnyH_take (i := 36) (v := undef) rfl (by kernel_rfl) (by kernel_rfl) (by kernel_rfl) (fun c x W h => hQ c _ _ _ W h) (Or.inr ⟨by kernel_rfl, rfl⟩) HS ?_
    try simp only [List.getElem_toArray, List.getElem_cons_zero, List.getElem_cons_succ, Act.put, List.setIfInBounds_toArray, List.set_cons_zero, List.set_cons_succ]
    refine wpAnyH_take (i := 37) (v := undef) rfl (by kernel_rfl) (by kernel_rfl) (by kernel_rfl) (fun c x W h => hQ c _ _ _ W h) (Or.inr ⟨by kernel_rfl, rfl⟩) HS ?_
    try simp only [List.getElem_toArray, List.getElem_cons_zero, List.getElem_cons_succ, Act.put, List.setIfInBounds_toArray, List.set_cons_zero, List.set_cons_succ]
    refine wpAnyH_take (i := 38) (v := undef) rfl (by kernel_rfl) (by kernel_rfl) (by kernel_rfl) (fun c x W h => hQ c _ _ _ W h) (Or.inr ⟨by kernel_rfl, rfl⟩) HS ?_
    try simp only [List.getElem_toArray, List.getElem_cons_zero, List.getElem_cons_succ, Act.put, List.setIfInBounds_toArray, List.set_cons_zero, List.set_cons_succ]
    refine wpAnyH_take (i := 39) (v := undef) rfl (by kernel_rfl) (by kernel_rfl) (by kernel_rfl) (fun c x W h => hQ c _ _ _ W h) (Or.inr ⟨by kernel_rfl, rfl⟩) HS ?_
    try simp only [List.getElem_toArray, List.getElem_cons_zero, List.getElem_cons_succ, Act.put, List.setIfInBounds_toArray, List.set_cons_zero, List.set_cons_succ]
    refine wpAnyH_take (i := 40) (v := undef) rfl (by kernel_rfl) (by kernel_rfl) (by kernel_rfl) (fun c x W h => hQ c _ _ _ W h) (Or.inr ⟨by kernel_rfl, rfl⟩) HS ?_
    try simp only [List.getElem_toArray, List.getElem_cons_zero, List.getElem_cons_succ, Act.put, List.setIfInBounds_toArray, List.set_cons_zero, List.set_cons_succ]
    refine wpAnyH_take (i := 41) (v := undef) rfl (by kernel_rfl) (by kernel_rfl) (by kernel_rfl) (fun c x W h => hQ c _ _ _ W h) (Or.inr ⟨by kernel_rfl, rfl⟩) HS ?_
    try simp only [List.getElem_toArray, List.getElem_cons_zero, List.getElem_cons_succ, Act.put, List.setIfInBounds_toArray, List.set_cons_zero, List.set_cons_succ]
    refine wpAnyH_take (i := 42) (v := undef) rfl (by kernel_rfl) (by kernel_rfl) (by kernel_rfl) (fun c x W h => hQ c _ _ _ W h) (Or.inr ⟨by kernel_rfl, rfl⟩) HS ?_
    try simp only [List.getElem_toArray, List.getElem_cons_zero, List.getElem_cons_succ, Act.put, List.setIfInBounds_toArray, List.set_cons_zero, List.set_cons_succ]
    refine wpAnyH_take (i := 43) (v := undef) rfl (by kernel_rfl) (by kernel_rfl) (by kernel_rfl) (fun c x W h => hQ c _ _ _ W h) (Or.inr ⟨by kernel_rfl, rfl⟩) HS ?_
    try simp only [List.getElem_toArray, List.getElem_cons_zero, List.getElem_cons_succ, Act.put, List.setIfInBounds_toArray, List.set_cons_zero, List.set_cons_succ]
    refine wpAnyH_take (i := 44) (v := undef) rfl (by kernel_rfl) (by kernel_rfl) (by kernel_rfl) (fun c x W h => hQ c _ _ _ W h) (Or.inr ⟨by kernel_rfl, rfl⟩) HS ?_
    try simp only [List.getElem_toArray, List.getElem_cons_zero, List.getElem_cons_succ, Act.put, List.setIfInBounds_toArray, List.set_cons_zero, List.set_cons_succ]
    refine wpAnyH_take (i := 45) (v := undef) rfl (by kernel_rfl) (by kernel_rfl) (by kernel_rfl) (fun c x W h => hQ c _ _ _ W h) (Or.inr ⟨by kernel_rfl, rfl⟩) HS ?_
    try simp only [List.getElem_toArray, List.getElem_cons_zero, List.getElem_cons_succ, Act.put, List.setIfInBounds_toArray, List.set_cons_zero, List.set_cons_succ]
    refine wpAnyH_take (i := 46) (v := undef) rfl (by kernel_rfl) (by kernel_rfl) (by kernel_rfl) (fun c x W h => hQ c _ _ _ W h) (Or.inr ⟨by kernel_rfl, rfl⟩) HS ?_
    try simp only [List.getElem_toArray, List.getElem_cons_zero, List.getElem_cons_succ, Act.put, List.setIfInBounds_toArray, List.set_cons_zero, List.set_cons_succ]
    refine wpAnyH_take (i := 47) (v := undef) rfl (by kernel_rfl) (by kernel_rfl) (by kernel_rfl) (fun c x W h => hQ c _ _ _ W h) (Or.inr ⟨by kernel_rfl, rfl⟩) HS ?_
    try simp only [List.getElem_toArray, List.getElem_cons_zero, List.getElem_cons_succ, Act.put, List.setIfInBounds_toArray, List.set_cons_zero, List.set_cons_succ]
    refine wpAnyH_take (i := 48) (v := .bool false) rfl (by kernel_rfl) (by kernel_rfl) (by kernel_rfl) (fun c x W h => hQ c _ _ _ W h) (Or.inl ⟨by kernel_rfl, fun W hW => by go_simp⟩) HS ?_
    try simp only [List.getElem_toArray, List.getElem_cons_zero, List.getElem_cons_succ, Act.put, List.setIfInBounds_toArray, List.set_cons_zero, List.set_cons_succ]
    refine wpAnyH_take (i := 49) (v := .bool false) rfl (by kernel_rfl) (by kernel_rfl) (by kernel_rfl) (fun c x W h => hQ c _ _ _ W h) (Or.inl ⟨by rfl, fun W hW => by go_simp⟩) HS ?_
    try simp only [List.getElem_toArray, List.getElem_cons_zero, List.getElem_cons_succ, Act.put, List.setIfInBounds_toArray, List.set_cons_zero, List.set_cons_succ]
    refine wpAnyH_done (by kernel_rfl) ?_ _
    exact act_eq (by kernel_rfl) (h _ HS)
set_option maxRecDepth 100000 in
set_option maxHeartbeats 20000000 in
theorem reg13_diff {S : World → Prop} {PB : Nat} {g m n : Nat} {y z : PKey} (hs : Seen13 S PB y) (hmk : adrNe (masked (adrOf y) (bitsOf y)) (adrOf y) = false) (hb : Seen13b S g m z) (hlt : numK z < numK y) (hm : m < n) (hn : n ≤ 8) (hne : adrNe (adrOf z) (adrOf y) = true) {u0 u1 u2 u3 u4 u8 u9 u10 u11 u12 u13 u14 u15 u16 u17 u18 u19 u20 u21 u22 u23 u24 u25 u26 u27 u28 u29 u30 u31 u32 u33 u34 u35 u36 u37 u38 u39 u40 u41 u42 u43 u44 u45 u46 u47 u48 u49 u50 u51 u52 u53 u54 u55 u56 u57 u58 u59 u60 u61 u62 u63 u64 u65 u66 u67 u68 u69 u70 u71 u72 u73 u74 u75 u76 u77 u78 u79 u80 u81 u82 u83 u84 u85 u86 u87 u88 u89 u90 u91 u92 u93 u94 u95 u96 u97 u98 : Value} {w : World} {Q : Exit → Act → World → Prop} (hQ : ∀ c (a : Act) d v W, Q (.panic c) (a.put d v) W → Q (.panic c) a W) (hS : S w.drew)
    (h : ∀ (W : World), S W → Q .normal ⟨(List.toArray (u0 :: u1 :: u2 :: u3 :: u4 :: .slice (some ⟨g, 0, none⟩) n n :: .int .i64 ((m + 1 : Nat) : Int) :: .pointer (some ⟨PB, 0, none⟩) :: u8 :: u9 :: u10 :: u11 :: u12 :: u13 :: u14 :: u15 :: u16 :: u17 :: u18 :: u19 :: u20 :: u21 :: u22 :: u23 :: u24 :: u25 :: u26 :: u27 :: u28 :: u29 :: u30 :: u31 :: u32 :: u33 :: u34 :: u35 :: u36 :: u37 :: u38 :: u39 :: u40 :: u41 :: u42 :: u43 :: u44 :: .pointer (some ⟨PB, 0, none⟩) :: .agg (adrL (adrOf y)).toArray :: .pointer (some ⟨PB, 16, none⟩) :: .int .u8 (bitsOf y : Int) :: .agg (adrCells (masked (adrOf y) (bitsOf y))) :: .pointer (some ⟨PB, 0, none⟩) :: .agg (adrL (adrOf y)).toArray :: .bool false :: .bool false :: .int .i64 ((m + 1 : Nat) : Int) :: .bool true :: .bool true :: .slice (some ⟨g, 0, none⟩) n n :: .int .i64 ((m + 1 : Nat) : Int) :: .int .i64 (m : Int) :: .pointer (some ⟨g, m * 18, none⟩) :: .pointer (some ⟨g, m * 18, none⟩) :: .pointer (some ⟨g, m * 18, none⟩) :: .slice (some ⟨g, m * 18, none⟩) 16 16 :: .string ⟨(z.1.take 16).toArray⟩ :: .pointer (some ⟨PB, 0, none⟩) :: .slice (some ⟨PB, 0, none⟩) 16 16 :: .string ⟨(y.1.take 16).toArray⟩ :: .bool false :: .bool false :: .slice (some ⟨g, 0, none⟩) n n :: .int .i64 ((m + 1 : Nat) : Int) :: .int .i64 (m : Int) :: .pointer (some ⟨g, m * 18, none⟩) :: .pointer (some ⟨g, m * 18, none⟩) :: .pointer (some ⟨g, m * 18, none⟩) :: .agg (adrL (adrOf z)).toArray :: .pointer (some ⟨PB, 0, none⟩) :: .agg (adrL (adrOf y)).toArray :: .bool false :: .bool false :: undef :: undef :: undef :: undef :: undef :: undef :: undef :: undef :: undef :: undef :: .bool false :: .bool false :: .bool false :: .bool false :: u95 :: u96 :: u97 :: u98 :: [])), []⟩ W) : (codeAt [1,1,1,0,1,0,0,1,0,0,1,1,0,1,0,0,1,0,0,1,0] (Try.f4.body.getD .skip)).wp Try.prog Q ⟨(List.toArray (u0 :: u1 :: u2 :: u3 :: u4 :: .slice (some ⟨g, 0, none⟩) n n :: .int .i64 ((m + 1 : Nat) : Int) :: .pointer (some ⟨PB, 0, none⟩) :: u8 :: u9 :: u10 :: u11 :: u12 :: u13 :: u14 :: u15 :: u16 :: u17 :: u18 :: u19 :: u20 :: u21 :: u22 :: u23 :: u24 :: u25 :: u26 :: u27 :: u28 :: u29 :: u30 :: u31 :: u32 :: u33 :: u34 :: u35 :: u36 :: u37 :: u38 :: u39 :: u40 :: u41 :: u42 :: u43 :: u44 :: u45 :: u46 :: u47 :: u48 :: u49 :: u50 :: u51 :: u52 :: u53 :: u54 :: u55 :: u56 :: u57 :: u58 :: u59 :: u60 :: u61 :: u62 :: u63 :: u64 :: u65 :: u66 :: u67 :: u68 :: u69 :: u70 :: u71 :: u72 :: u73 :: u74 :: u75 :: u76 :: u77 :: u78 :: u79 :: u80 :: u81 :: u82 :: u83 :: u84 :: u85 :: u86 :: u87 :: u88 :: u89 :: u90 :: u91 :: u92 :: u93 :: u94 :: u95 :: u96 :: u97 :: u98 :: [])), []⟩ w := by
    have hz : ∀ W : World, (binOp .neq 23 (.agg (adrCells (masked (adrOf y) (bitsOf y)))) (.agg (adrL (adrOf y)).toArray)).run Try.prog W = .ok (.bool false) W := fun W => by
      show (binOp .neq 23 (.agg (adrCells (masked (adrOf y) (bitsOf y)))) (.agg (adrCells (adrOf y)))).run Try.prog W = _
      rw [adr_neq (a := masked (adrOf y) (bitsOf y)) (fun j hj => top_lt (adrOf_lt y j hj) _) (adrOf_lt y), hmk]
    have ew : IntKind.i64.wrap (m : Int) = (m : Int) := wrap_small (by omega)
    have hidx : ∀ W : World, (Instr.indexAt 41 (.slice (some ⟨g, 0, none⟩) n n) (.int .i64 (m : Int))).run Try.prog W = .ok (.pointer (some ⟨g, m * 18, none⟩)) W := fun W => by
      have h1 : ¬ ((n : Int) ≤ m) := by omega
      have h2 : (m : Int) < n := by omega
      go_simp
    have hg2 : Op.bytesLess (z.1.take 16) (y.1.take 16) = false → z.1.take 16 = y.1.take 16 := fun q => by
      have := not_gtr hlt
      rw [q] at this
      simpa using this
    have HG := Lib.hid hg2; clear hg2
    have he : ∀ W : World, (binOp .eql 23 (.agg (adrL (adrOf z)).toArray) (.agg (adrL (adrOf y)).toArray)).run Try.prog W = .ok (.bool false) W := fun W => by
      have := adr_eql (adrOf_lt z) (adrOf_lt y) W
      rw [hne] at this; exact this
    clear hlt hne
    conv in codeAt _ _ => whnf
    refine wp_region_held_drew (S := S) (by kernel_rfl) hS ?_
    clear hS
    intro HS
    refine wpAnyH_take (i := 0) (v := .pointer (some ⟨PB, 0, none⟩)) rfl (by kernel_rfl) (by kernel_rfl) (by kernel_rfl) (fun c x W h => hQ c _ _ _ W h) (Or.inl ⟨by rfl, fun W hW => by go_simp⟩) HS ?_
    try simp only [List.getElem_toArray, List.getElem_cons_zero, List.getElem_cons_succ, Act.put, List.setIfInBounds_toArray, List.set_cons_zero, List.set_cons_succ]
    refine wpAnyH_take (i := 1) (v := .agg (adrL (adrOf y)).toArray) rfl (by kernel_rfl) (by kernel_rfl) (by kernel_rfl) (fun c x W h => hQ c _ _ _ W h) (by refine yieldsIf_load_mid ?_ 23 (.tmp 45) rfl PB 0 ?_ (adrL (adrOf y)) _ (fun W hW => range_pre (hs.p W hW)) Try.underlying23 rfl (info23 _); (go_simp); (go_simp)) HS ?_
    try simp only [List.getElem_toArray, List.getElem_cons_zero, List.getElem_cons_succ, Act.put, List.setIfInBounds_toArray, List.set_cons_zero, List.set_cons_succ]
    refine wpAnyH_take (i := 2) (v := .pointer (some ⟨PB, 16, none⟩)) rfl (by kernel_rfl) (by kernel_rfl) (by kernel_rfl) (fun c x W h => hQ c _ _ _ W h) (Or.inl ⟨by rfl, fun W hW => by go_simp⟩) HS ?_
    try simp only [List.getElem_toArray, List.getElem_cons_zero, List.getElem_cons_succ, Act.put, List.setIfInBounds_toArray, List.set_cons_zero, List.set_cons_succ]
    refine wpAnyH_take (i := 3) (v := .int .u8 (bitsOf y : Int)) rfl (by kernel_rfl) (by kernel_rfl) (by kernel_rfl) (fun c x W h => hQ c _ _ _ W h) (Or.inl ⟨by rfl, fun W hW => by have := seen_p (hs.p W hW); go_simp⟩) HS ?_
    try simp only [List.getElem_toArray, List.getElem_cons_zero, List.getElem_cons_succ, Act.put, List.setIfInBounds_toArray, List.set_cons_zero, List.set_cons_succ]
    refine wpAnyH_take (i := 5) (v := .pointer (some ⟨PB, 0, none⟩)) rfl (by kernel_rfl) (by kernel_rfl) (by kernel_rfl) (fun c x W h => hQ c _ _ _ W h) (Or.inl ⟨by rfl, fun W hW => by go_simp⟩) HS ?_
    try simp only [List.getElem_toArray, List.getElem_cons_zero, List.getElem_cons_succ, Act.put, List.setIfInBounds_toArray, List.set_cons_zero, List.set_cons_succ]
    refine wpAnyH_take (i := 6) (v := .agg (adrL (adrOf y)).toArray) rfl (by kernel_rfl) (by kernel_rfl) (by kernel_rfl) (fun c x W h => hQ c _ _ _ W h) (by refine yieldsIf_load_mid ?_ 23 (.tmp 50) rfl PB 0 ?_ (adrL (adrOf y)) _ (fun W hW => range_pre (hs.p W hW)) Try.underlying23 rfl (info23 _); (go_simp); (go_simp)) HS ?_
    try simp only [List.getElem_toArray, List.getElem_cons_zero, List.getElem_cons_succ, Act.put, List.setIfInBounds_toArray, List.set_cons_zero, List.set_cons_succ]
    refine wpAnyH_ready (rs := [4]) (by kernel_rfl) (by simp) ?_
    refine AllReadyH.cons rfl (fun K hK => ?_) AllReadyH.nil
    rw [if_pos (by kernel_rfl)]
    simp only [List.getElem_toArray, List.getElem_cons_zero, List.getElem_cons_succ]
    go_simp
    refine (masked_any (adrOf y) (bitsOf y) _ (adrOf_lt y) (bitsOf_lt y)).mono ?_
    rintro e w7 ⟨rfl, b7⟩
    refine hK.out _ _ (hs.step _ _ HS b7) (fun HS => ?_)
    clear hK b7
    try simp only [List.getElem_toArray, List.getElem_cons_zero, List.getElem_cons_succ, Act.put, List.setIfInBounds_toArray, List.set_cons_zero, List.set_cons_succ]
    refine wpAnyH_take (i := 7) (v := .bool false) rfl (by kernel_rfl) (by kernel_rfl) (by kernel_rfl) (fun c x W h => hQ c _ _ _ W h) (Or.inl ⟨by rfl, fun W hW => by have := hz W; go_simp⟩) HS ?_
    try simp only [List.getElem_toArray, List.getElem_cons_zero, List.getElem_cons_succ, Act.put, List.setIfInBounds_toArray, List.set_cons_zero, List.set_cons_succ]
    refine wpAnyH_take (i := 8) (v := .bool false) rfl (by kernel_rfl) (by kernel_rfl) (by kernel_rfl) (fun c x W h => hQ c _ _ _ W h) (Or.inl ⟨by rfl, fun W hW => by go_simp⟩) HS ?_
    try simp only [List.getElem_toArray, List.getElem_cons_zero, List.getElem_cons_succ, Act.put, List.setIfInBounds_toArray, List.set_cons_zero, List.set_cons_succ]
    refine wpAnyH_take (i := 9) (v := .int .i64 ((m + 1 : Nat) : Int)) rfl (by kernel_rfl) (by kernel_rfl) (by kernel_rfl) (fun c x W h => hQ c _ _ _ W h) (Or.inl ⟨by kernel_rfl, fun W hW => by go_simp⟩) HS ?_
    try simp only [List.getElem_toArray, List.getElem_cons_zero, List.getElem_cons_succ, Act.put, List.setIfInBounds_toArray, List.set_cons_zero, List.set_cons_succ]
    refine wpAnyH_take (i := 10) (v := .bool true) rfl (by kernel_rfl) (by kernel_rfl) (by kernel_rfl) (fun c x W h => hQ c _ _ _ W h) (Or.inl ⟨by kernel_rfl, fun W hW => by go_simp⟩) HS ?_
    try simp only [List.getElem_toArray, List.getElem_cons_zero, List.getElem_cons_succ, Act.put, List.setIfInBounds_toArray, List.set_cons_zero, List.set_cons_succ]
    refine wpAnyH_take (i := 11) (v := .bool true) rfl (by kernel_rfl) (by kernel_rfl) (by kernel_rfl) (fun c x W h => hQ c _ _ _ W h) (Or.inl ⟨by kernel_rfl, fun W hW => by go_simp⟩) HS ?_
    try simp only [List.getElem_toArray, List.getElem_cons_zero, List.getElem_cons_succ, Act.put, List.setIfInBounds_toArray, List.set_cons_zero, List.set_cons_succ]
    refine wpAnyH_take (i := 12) (v := .slice (some ⟨g, 0, none⟩) n n) rfl (by kernel_rfl) (by kernel_rfl) (by kernel_rfl) (fun c x W h => hQ c _ _ _ W h) (Or.inl ⟨by kernel_rfl, fun W hW => by go_simp⟩) HS ?_
    try simp only [List.getElem_toArray, List.getElem_cons_zero, List.getElem_cons_succ, Act.put, List.setIfInBounds_toArray, List.set_cons_zero, List.set_cons_succ]
    refine wpAnyH_take (i := 13) (v := .int .i64 ((m + 1 : Nat) : Int)) rfl (by kernel_rfl) (by kernel_rfl) (by kernel_rfl) (fun c x W h => hQ c _ _ _ W h) (Or.inl ⟨by kernel_rfl, fun W hW => by go_simp⟩) HS ?_
    try simp only [List.getElem_toArray, List.getElem_cons_zero, List.getElem_cons_succ, Act.put, List.setIfInBounds_toArray, List.set_cons_zero, List.set_cons_succ]
    refine wpAnyH_take (i := 14) (v := .int .i64 (m : Int)) rfl (by kernel_rfl) (by kernel_rfl) (by kernel_rfl) (fun c x W h => hQ c _ _ _ W h) (Or.inl ⟨by kernel_rfl, fun W hW => by go_simp⟩) HS ?_
    try simp only [List.getElem_toArray, List.getElem_cons_zero, List.getElem_cons_succ, Act.put, List.setIfInBounds_toArray, List.set_cons_zero, List.set_cons_succ]
    refine wpAnyH_take (i := 15) (v := .pointer (some ⟨g, m * 18, none⟩)) rfl (by kernel_rfl) (by kernel_rfl) (by kernel_rfl) (fun c x W h => hQ c _ _ _ W h) (Or.inl ⟨by kernel_rfl, fun W hW => by have := hidx W; go_simp⟩) HS ?_
    try simp only [List.getElem_toArray, List.getElem_cons_zero, List.getElem_cons_succ, Act.put, List.setIfInBounds_toArray, List.set_cons_zero, List.set_cons_succ]
    refine wpAnyH_take (i := 16) (v := .pointer (some ⟨g, m * 18, none⟩)) rfl (by kernel_rfl) (by kernel_rfl) (by kernel_rfl) (fun c x W h => hQ c _ _ _ W h) (Or.inl ⟨by kernel_rfl, fun W hW => by go_simp⟩) HS ?_
    try simp only [List.getElem_toArray, List.getElem_cons_zero, List.getElem_cons_succ, Act.put, List.setIfInBounds_toArray, List.set_cons_zero, List.set_cons_succ]
    refine wpAnyH_take (i := 17) (v := .pointer (some ⟨g, m * 18, none⟩)) rfl (by kernel_rfl) (by kernel_rfl) (by kernel_rfl) (fun c x W h => hQ c _ _ _ W h) (Or.inl ⟨by kernel_rfl, fun W hW => by go_simp⟩) HS ?_
    try simp only [List.getElem_toArray, List.getElem_cons_zero, List.getElem_cons_succ, Act.put, List.setIfInBounds_toArray, List.set_cons_zero, List.set_cons_succ]
    refine wpAnyH_take (i := 18) (v := .slice (some ⟨g, m * 18, none⟩) 16 16) rfl (by kernel_rfl) (by kernel_rfl) (by kernel_rfl) (fun c x W h => hQ c _ _ _ W h) (Or.inl ⟨by kernel_rfl, fun W hW => by go_simp⟩) HS ?_
    try simp only [List.getElem_toArray, List.getElem_cons_zero, List.getElem_cons_succ, Act.put, List.setIfInBounds_toArray, List.set_cons_zero, List.set_cons_succ]
    refine wpAnyH_take (i := 19) (v := .string ⟨(z.1.take 16).toArray⟩) rfl (by kernel_rfl) (by kernel_rfl) (by kernel_rfl) (fun c x W h => hQ c _ _ _ W h) (Or.inl ⟨by kernel_rfl, fun W hW => by have := conv_row (hb.r W hW); go_simp⟩) HS ?_
    try simp only [List.getElem_toArray, List.getElem_cons_zero, List.getElem_cons_succ, Act.put, List.setIfInBounds_toArray, List.set_cons_zero, List.set_cons_succ]
    refine wpAnyH_take (i := 20) (v := .pointer (some ⟨PB, 0, none⟩)) rfl (by kernel_rfl) (by kernel_rfl) (by kernel_rfl) (fun c x W h => hQ c _ _ _ W h) (Or.inl ⟨by kernel_rfl, fun W hW => by go_simp⟩) HS ?_
    try simp only [List.getElem_toArray, List.getElem_cons_zero, List.getElem_cons_succ, Act.put, List.setIfInBounds_toArray, List.set_cons_zero, List.set_cons_succ]
    refine wpAnyH_take (i := 21) (v := .slice (some ⟨PB, 0, none⟩) 16 16) rfl (by kernel_rfl) (by kernel_rfl) (by kernel_rfl) (fun c x W h => hQ c _ _ _ W h) (Or.inl ⟨by kernel_rfl, fun W hW => by go_simp⟩) HS ?_
    try simp only [List.getElem_toArray, List.getElem_cons_zero, List.getElem_cons_succ, Act.put, List.setIfInBounds_toArray, List.set_cons_zero, List.set_cons_succ]
    refine wpAnyH_take (i := 22) (v := .string ⟨(y.1.take 16).toArray⟩) rfl (by kernel_rfl) (by kernel_rfl) (by kernel_rfl) (fun c x W h => hQ c _ _ _ W h) (Or.inl ⟨by kernel_rfl, fun W hW => by have := conv_row (range_pre (hs.p W hW)); go_simp⟩) HS ?_
    try simp only [List.getElem_toArray, List.getElem_cons_zero, List.getElem_cons_succ, Act.put, List.setIfInBounds_toArray, List.set_cons_zero, List.set_cons_succ]
    refine wpAnyH_take (i := 23) (v := .bool false) rfl (by kernel_rfl) (by kernel_rfl) (by kernel_rfl) (fun c x W h => hQ c _ _ _ W h) (Or.inl ⟨by kernel_rfl, fun W hW => by go_simp; exact HG.out⟩) HS ?_
    try simp only [List.getElem_toArray, List.getElem_cons_zero, List.getElem_cons_succ, Act.put, List.setIfInBounds_toArray, List.set_cons_zero, List.set_cons_succ]
    refine wpAnyH_take (i := 24) (v := .bool false) rfl (by kernel_rfl) (by kernel_rfl) (by kernel_rfl) (fun c x W h => hQ c _ _ _ W h) (Or.inl ⟨by kernel_rfl, fun W hW => by go_simp⟩) HS ?_
    try simp only [List.getElem_toArray, List.getElem_cons_zero, List.getElem_cons_succ, Act.put, List.setIfInBounds_toArray, List.set_cons_zero, List.set_cons_succ]
    refine wpAnyH_take (i := 25) (v := .slice (some ⟨g, 0, none⟩) n n) rfl (by kernel_rfl) (by kernel_rfl) (by kernel_rfl) (fun c x W h => hQ c _ _ _ W h) (Or.inl ⟨by kernel_rfl, fun W hW => by go_simp⟩) HS ?_
    try simp only [List.getElem_toArray, List.getElem_cons_zero, List.getElem_cons_succ, Act.put, List.setIfInBounds_toArray, List.set_cons_zero, List.set_cons_succ]
    refine wpAnyH_take (i := 26) (v := .int .i64 ((m + 1 : Nat) : Int)) rfl (by kernel_rfl) (by kernel_rfl) (by kernel_rfl) (fun c x W h => hQ c _ _ _ W h) (Or.inl ⟨by kernel_rfl, fun W hW => by go_simp⟩) HS ?_
    try simp only [List.getElem_toArray, List.getElem_cons_zero, List.getElem_cons_succ, Act.put, List.setIfInBounds_toArray, List.set_cons_zero, List.set_cons_succ]
    refine wpAnyH_take (i := 27) (v := .int .i64 (m : Int)) rfl (by kernel_rfl) (by kernel_rfl) (by kernel_rfl) (fun c x W h => hQ c _ _ _ W h) (Or.inl ⟨by kernel_rfl, fun W hW => by go_simp⟩) HS ?_
    try simp only [List.getElem_toArray, List.getElem_cons_zero, List.getElem_cons_succ, Act.put, List.setIfInBounds_toArray, List.set_cons_zero, List.set_cons_succ]
    refine wpAnyH_take (i := 28) (v := .pointer (some ⟨g, m * 18, none⟩)) rfl (by kernel_rfl) (by kernel_rfl) (by kernel_rfl) (fun c x W h => hQ c _ _ _ W h) (Or.inl ⟨by kernel_rfl, fun W hW => by have := hidx W; go_simp⟩) HS ?_
    try simp only [List.getElem_toArray, List.getElem_cons_zero, List.getElem_cons_succ, Act.put, List.setIfInBounds_toArray, List.set_cons_zero, List.set_cons_succ]
    refine wpAnyH_take (i := 29) (v := .pointer (some ⟨g, m * 18, none⟩)) rfl (by kernel_rfl) (by kernel_rfl) (by kernel_rfl) (fun c x W h => hQ c _ _ _ W h) (Or.inl ⟨by kernel_rfl, fun W hW => by go_simp⟩) HS ?_
    try simp only [List.getElem_toArray, List.getElem_cons_zero, List.getElem_cons_succ, Act.put, List.setIfInBounds_toArray, List.set_cons_zero, List.set_cons_succ]
    refine wpAnyH_take (i := 30) (v := .pointer (some ⟨g, m * 18, none⟩)) rfl (by kernel_rfl) (by kernel_rfl) (by kernel_rfl) (fun c x W h => hQ c _ _ _ W h) (Or.inl ⟨by kernel_rfl, fun W hW => by go_simp⟩) HS ?_
    try simp only [List.getElem_toArray, List.getElem_cons_zero, List.getElem_cons_succ, Act.put, List.setIfInBounds_toArray, List.set_cons_zero, List.set_cons_succ]
    refine wpAnyH_take (i := 31) (v := .agg (adrL (adrOf z)).toArray) rfl (by kernel_rfl) (by kernel_rfl) (by kernel_rfl) (fun c x W h => hQ c _ _ _ W h) (by refine yieldsIf_load_mid ?_ 23 (.tmp 75) rfl g (m * 18) ?_ (adrL (adrOf z)) _ (fun W hW => hb.r W hW) Try.underlying23 rfl (info23 _); (go_simp); (go_simp)) HS ?_
    try simp only [List.getElem_toArray, List.getElem_cons_zero, List.getElem_cons_succ, Act.put, List.setIfInBounds_toArray, List.set_cons_zero, List.set_cons_succ]
    refine wpAnyH_take (i := 32) (v := .pointer (some ⟨PB, 0, none⟩)) rfl (by kernel_rfl) (by kernel_rfl) (by kernel_rfl) (fun c x W h => hQ c _ _ _ W h) (Or.inl ⟨by kernel_rfl, fun W hW => by go_simp⟩) HS ?_
    try simp only [List.getElem_toArray, List.getElem_cons_zero, List.getElem_cons_succ, Act.put, List.setIfInBounds_toArray, List.set_cons_zero, List.set_cons_succ]
    refine wpAnyH_take (i := 33) (v := .agg (adrL (adrOf y)).toArray) rfl (by kernel_rfl) (by kernel_rfl) (by kernel_rfl) (fun c x W h => hQ c _ _ _ W h) (by refine yieldsIf_load_mid ?_ 23 (.tmp 77) rfl PB 0 ?_ (adrL (adrOf y)) _ (fun W hW => range_pre (hs.p W hW)) Try.underlying23 rfl (info23 _); (go_simp); (go_simp)) HS ?_
    try simp only [List.getElem_toArray, List.getElem_cons_zero, List.getElem_cons_succ, Act.put, List.setIfInBounds_toArray, List.set_cons_zero, List.set_cons_succ]
    refine wpAnyH_take (i := 34) (v := .bool false) rfl (by kernel_rfl) (by kernel_rfl) (by kernel_rfl) (fun c x W h => hQ c _ _ _ W h) (Or.inl ⟨by kernel_rfl, fun W hW => by have := he W; go_simp⟩) HS ?_
    try simp only [List.getElem_toArray, List.getElem_cons_zero, List.getElem_cons_succ, Act.put, List.setIfInBounds_toArray, List.set_cons_zero, List.set_cons_succ]
    refine wpAnyH_take (i := 35) (v := .bool false) rfl (by kernel_rfl) (by kernel_rfl) (by kernel_rfl) (fun c x W h => hQ c _ _ _ W h) (Or.inl ⟨by kernel_rfl, fun W hW => by go_simp⟩) HS ?_
    try simp only [List.getElem_toArray, List.getElem_cons_zero, List.getElem_cons_succ, Act.put, List.setIfInBounds_toArray, List.set_cons_zero, List.set_cons_succ]
    refine wpAnyH_take (i := 36) (v := undef) rfl (by kernel_rfl) (by kernel_rfl) (by kernel_rfl) (fun c x W h => hQ c _ _ _ W h) (Or.inr ⟨by kernel_rfl, rfl⟩) HS ?_
    try simp only [List.getElem_toArray, List.getElem_cons_zero, List.getElem_cons_succ, Act.put, List.setIfInBounds_toArray, List.set_cons_zero, List.set_cons_succ]
    refine wpAnyH_take (i := 37) (v := undef) rfl (by kernel_rfl) (by kernel_rfl) (by kernel_rfl) (fun c x W h => hQ c _ _ _ W h) (Or.inr ⟨by kernel_rfl, rfl⟩) HS ?_
    try simp only [List.getElem_toArray, List.getElem_cons_zero, List.getElem_cons_succ, Act.put, List.setIfInBounds_toArray, List.set_cons_zero, List.set_cons_succ]
    refine wpAnyH_take (i := 38) (v := undef) rfl (by kernel_rfl) (by kernel_rfl) (by kernel_rfl) (fun c x W h => hQ c _ _ _ W h) (Or.inr ⟨by kernel_rfl, rfl⟩) HS ?_
    try simp only [List.getElem_toArray, List.getElem_cons_zero, List.getElem_cons_succ, Act.put, List.setIfInBounds_toArray, List.set_cons_zero, List.set_cons_succ]
    refine wpAnyH_take (i := 39) (v := undef) rfl (by kernel_rfl) (by kernel_rfl) (by kernel_rfl) (fun c x W h => hQ c _ _ _ W h) (Or.inr ⟨by kernel_rfl, rfl⟩) HS ?_
    try simp only [List.getElem_toArray, List.getElem_cons_zero, List.getElem_cons_succ, Act.put, List.setIfInBounds_toArray, List.set_cons_zero, List.set_cons_succ]
    refine wpAnyH_take (i := 40) (v := undef) rfl (by kernel_rfl) (by kernel_rfl) (by kernel_rfl) (fun c x W h => hQ c _ _ _ W h) (Or.inr ⟨by kernel_rfl, rfl⟩) HS ?_
    try simp only [List.getElem_toArray, List.getElem_cons_zero, List.getElem_cons_succ, Act.put, List.setIfInBounds_toArray, List.set_cons_zero, List.set_cons_succ]
    refine wpAnyH_take (i := 41) (v := undef) rfl (by kernel_rfl) (by kernel_rfl) (by kernel_rfl) (fun c x W h => hQ c _ _ _ W h) (Or.inr ⟨by kernel_rfl, rfl⟩) HS ?_
    try simp only [List.getElem_toArray, List.getElem_cons_zero, List.getElem_cons_succ, Act.put, List.setIfInBounds_toArray, List.set_cons_zero, List.set_cons_succ]
    refine wpAnyH_take (i := 42) (v := undef) rfl (by kernel_rfl) (by kernel_rfl) (by kernel_rfl) (fun c x W h => hQ c _ _ _ W h) (Or.inr ⟨by kernel_rfl, rfl⟩) HS ?_
    try simp only [List.getElem_toArray, List.getElem_cons_zero, List.getElem_cons_succ, Act.put, List.setIfInBounds_toArray, List.set_cons_zero, List.set_cons_succ]
    refine wpAnyH_take (i := 43) (v := undef) rfl (by kernel_rfl) (by kernel_rfl) (by kernel_rfl) (fun c x W h => hQ c _ _ _ W h) (Or.inr ⟨by kernel_rfl, rfl⟩) HS ?_
    try simp only [List.getElem_toArray, List.getElem_cons_zero, List.getElem_cons_succ, Act.put, List.setIfInBounds_toArray, List.set_cons_zero, List.set_cons_succ]
    refine wpAnyH_take (i := 44) (v := undef) rfl (by kernel_rfl) (by kernel_rfl) (by kernel_rfl) (fun c x W h => hQ c _ _ _ W h) (Or.inr ⟨by kernel_rfl, rfl⟩) HS ?_
    try simp only [List.getElem_toArray, List.getElem_cons_zero, List.getElem_cons_succ, Act.put, List.setIfInBounds_toArray, List.set_cons_zero, List.set_cons_succ]
    refine wpAnyH_take (i := 45) (v := undef) rfl (by kernel_rfl) (by kernel_rfl) (by kernel_rfl) (fun c x W h => hQ c _ _ _ W h) (Or.inr ⟨by kernel_rfl, rfl⟩) HS ?_
    try simp only [List.getElem_toArray, List.getElem_cons_zero, List.getElem_cons_succ, Act.put, List.setIfInBounds_toArray, List.set_cons_zero, List.set_cons_succ]
    refine wpAnyH_take (i := 46) (v := .bool false) rfl (by kernel_rfl) (by kernel_rfl) (by kernel_rfl) (fun c x W h => hQ c _ _ _ W h) (Or.inl ⟨by kernel_rfl, fun W hW => by go_simp⟩) HS ?_
    try simp only [List.getElem_toArray, List.getElem_cons_zero, List.getElem_cons_succ, Act.put, List.setIfInBounds_toArray, List.set_cons_zero, List.set_cons_succ]
    refine wpAnyH_take (i := 47) (v := .bool false) rfl (by kernel_rfl) (by kernel_rfl) (by kernel_rfl) (fun c x W h => hQ c _ _ _ W h) (Or.inl ⟨by kernel_rfl, fun W hW => by go_simp⟩) HS ?_
    try simp only [List.getElem_toArray, List.getElem_cons_zero, List.getElem_cons_succ, Act.put, List.setIfInBounds_toArray, List.set_cons_zero, List.set_cons_succ]
    refine wpAnyH_take (i := 48) (v := .bool false) rfl (by kernel_rfl) (by kernel_rfl) (by kernel_rfl) (fun c x W h => hQ c _ _ _ W h) (Or.inl ⟨by kernel_rfl, fun W hW => by go_simp⟩) HS ?_
    try simp only [List.getElem_toArray, List.getElem_cons_zero, List.getElem_cons_succ, Act.put, List.setIfInBounds_toArray, List.set_cons_zero, List.set_cons_succ]
    refine wpAnyH_take (i := 49) (v := .bool false) rfl (by kernel_rfl) (by kernel_rfl) (by kernel_rfl) (fun c x W h => hQ c _ _ _ W h) (Or.inl ⟨by rfl, fun W hW => by go_simp⟩) HS ?_
    try simp only [List.getElem_toArray, List.getElem_cons_zero, List.getElem_cons_succ, Act.put, List.setIfInBounds_toArray, List.set_cons_zero, List.set_cons_succ]
    refine wpAnyH_done (by kernel_rfl) ?_ _
    exact act_eq (by kernel_rfl) (h _ HS)
set_option maxRecDepth 100000 in
set_option maxHeartbeats 20000000 in
theorem reg13_same {S : World → Prop} {PB : Nat} {g m n : Nat} {y z : PKey} (hs : Seen13 S PB y) (hmk : adrNe (masked (adrOf y) (bitsOf y)) (adrOf y) = false) (hb : Seen13b S g m z) (hlt : numK z < numK y) (hm : m < n) (hn : n ≤ 8) (hne : adrNe (adrOf z) (adrOf y) = false) {u0 u1 u2 u3 u4 u8 u9 u10 u11 u12 u13 u14 u15 u16 u17 u18 u19 u20 u21 u22 u23 u24 u25 u26 u27 u28 u29 u30 u31 u32 u33 u34 u35 u36 u37 u38 u39 u40 u41 u42 u43 u44 u45 u46 u47 u48 u49 u50 u51 u52 u53 u54 u55 u56 u57 u58 u59 u60 u61 u62 u63 u64 u65 u66 u67 u68 u69 u70 u71 u72 u73 u74 u75 u76 u77 u78 u79 u80 u81 u82 u83 u84 u85 u86 u87 u88 u89 u90 u91 u92 u93 u94 u95 u96 u97 u98 : Value} {w : World} {Q : Exit → Act → World → Prop} (hQ : ∀ c (a : Act) d v W, Q (.panic c) (a.put d v) W → Q (.panic c) a W) (hS : S w.drew)
    (h : ∀ (W : World), S W → Q .normal ⟨(List.toArray (u0 :: u1 :: u2 :: u3 :: u4 :: .slice (some ⟨g, 0, none⟩) n n :: .int .i64 ((m + 1 : Nat) : Int) :: .pointer (some ⟨PB, 0, none⟩) :: u8 :: u9 :: u10 :: u11 :: u12 :: u13 :: u14 :: u15 :: u16 :: u17 :: u18 :: u19 :: u20 :: u21 :: u22 :: u23 :: u24 :: u25 :: u26 :: u27 :: u28 :: u29 :: u30 :: u31 :: u32 :: u33 :: u34 :: u35 :: u36 :: u37 :: u38 :: u39 :: u40 :: u41 :: u42 :: u43 :: u44 :: .pointer (some ⟨PB, 0, none⟩) :: .agg (adrL (adrOf y)).toArray :: .pointer (some ⟨PB, 16, none⟩) :: .int .u8 (bitsOf y : Int) :: .agg (adrCells (masked (adrOf y) (bitsOf y))) :: .pointer (some ⟨PB, 0, none⟩) :: .agg (adrL (adrOf y)).toArray :: .bool false :: .bool false :: .int .i64 ((m + 1 : Nat) : Int) :: .bool true :: .bool true :: .slice (some ⟨g, 0, none⟩) n n :: .int .i64 ((m + 1 : Nat) : Int) :: .int .i64 (m : Int) :: .pointer (some ⟨g, m * 18, none⟩) :: .pointer (some ⟨g, m * 18, none⟩) :: .pointer (some ⟨g, m * 18, none⟩) :: .slice (some ⟨g, m * 18, none⟩) 16 16 :: .string ⟨(z.1.take 16).toArray⟩ :: .pointer (some ⟨PB, 0, none⟩) :: .slice (some ⟨PB, 0, none⟩) 16 16 :: .string ⟨(y.1.take 16).toArray⟩ :: .bool false :: .bool false :: .slice (some ⟨g, 0, none⟩) n n :: .int .i64 ((m + 1 : Nat) : Int) :: .int .i64 (m : Int) :: .pointer (some ⟨g, m * 18, none⟩) :: .pointer (some ⟨g, m * 18, none⟩) :: .pointer (some ⟨g, m * 18, none⟩) :: .agg (adrL (adrOf z)).toArray :: .pointer (some ⟨PB, 0, none⟩) :: .agg (adrL (adrOf y)).toArray :: .bool true :: .bool true :: .slice (some ⟨g, 0, none⟩) n n :: .int .i64 ((m + 1 : Nat) : Int) :: .int .i64 (m : Int) :: .pointer (some ⟨g, m * 18, none⟩) :: .pointer (some ⟨g, m * 18, none⟩) :: .pointer (some ⟨g, (m * 18 + 16), none⟩) :: .int .u8 (bitsOf z : Int) :: .pointer (some ⟨PB, 16, none⟩) :: .int .u8 (bitsOf y : Int) :: .bool false :: .bool false :: .bool false :: .bool false :: .bool false :: u95 :: u96 :: u97 :: u98 :: [])), []⟩ W) : (codeAt [1,1,1,0,1,0,0,1,0,0,1,1,0,1,0,0,1,0,0,1,0] (Try.f4.body.getD .skip)).wp Try.prog Q ⟨(List.toArray (u0 :: u1 :: u2 :: u3 :: u4 :: .slice (some ⟨g, 0, none⟩) n n :: .int .i64 ((m + 1 : Nat) : Int) :: .pointer (some ⟨PB, 0, none⟩) :: u8 :: u9 :: u10 :: u11 :: u12 :: u13 :: u14 :: u15 :: u16 :: u17 :: u18 :: u19 :: u20 :: u21 :: u22 :: u23 :: u24 :: u25 :: u26 :: u27 :: u28 :: u29 :: u30 :: u31 :: u32 :: u33 :: u34 :: u35 :: u36 :: u37 :: u38 :: u39 :: u40 :: u41 :: u42 :: u43 :: u44 :: u45 :: u46 :: u47 :: u48 :: u49 :: u50 :: u51 :: u52 :: u53 :: u54 :: u55 :: u56 :: u57 :: u58 :: u59 :: u60 :: u61 :: u62 :: u63 :: u64 :: u65 :: u66 :: u67 :: u68 :: u69 :: u70 :: u71 :: u72 :: u73 :: u74 :: u75 :: u76 :: u77 :: u78 :: u79 :: u80 :: u81 :: u82 :: u83 :: u84 :: u85 :: u86 :: u87 :: u88 :: u89 :: u90 :: u91 :: u92 :: u93 :: u94 :: u95 :: u96 :: u97 :: u98 :: [])), []⟩ w := by
    have hz : ∀ W : World, (binOp .neq 23 (.agg (adrCells (masked (adrOf y) (bitsOf y)))) (.agg (adrL (adrOf y)).toArray)).run Try.prog W = .ok (.bool false) W := fun W => by
      show (binOp .neq 23 (.agg (adrCells (masked (adrOf y) (bitsOf y)))) (.agg (adrCells (adrOf y)))).run Try.prog W = _
      rw [adr_neq (a := masked (adrOf y) (bitsOf y)) (fun j hj => top_lt (adrOf_lt y j hj) _) (adrOf_lt y), hmk]
    have ew : IntKind.i64.wrap (m : Int) = (m : Int) := wrap_small (by omega)
    have hidx : ∀ W : World, (Instr.indexAt 41 (.slice (some ⟨g, 0, none⟩) n n) (.int .i64 (m : Int))).run Try.prog W = .ok (.pointer (some ⟨g, m * 18, none⟩)) W := fun W => by
      have h1 : ¬ ((n : Int) ≤ m) := by omega
      have h2 : (m : Int) < n := by omega
      go_simp
    have hg2 : Op.bytesLess (z.1.take 16) (y.1.take 16) = false → z.1.take 16 = y.1.take 16 := fun q => by
      have := not_gtr hlt
      rw [q] at this
      simpa using this
    have HG := Lib.hid hg2; clear hg2
    have he : ∀ W : World, (binOp .eql 23 (.agg (adrL (adrOf z)).toArray) (.agg (adrL (adrOf y)).toArray)).run Try.prog W = .ok (.bool true) W := fun W => by
      have := adr_eql (adrOf_lt z) (adrOf_lt y) W
      rw [hne] at this; exact this
    have hbits : bitsOf z < bitsOf y := (take_num hlt).2 (by rw [adrNe_false hne])
    clear hlt hne
    conv in codeAt _ _ => whnf
    refine wp_region_held_drew (S := S) (by kernel_rfl) hS ?_
    clear hS
    intro HS
    refine wpAnyH_take (i := 0) (v := .pointer (some ⟨PB, 0, none⟩)) rfl (by kernel_rfl) (by kernel_rfl) (by kernel_rfl) (fun c x W h => hQ c _ _ _ W h) (Or.inl ⟨by rfl, fun W hW => by go_simp⟩) HS ?_
    try simp only [List.getElem_toArray, List.getElem_cons_zero, List.getElem_cons_succ, Act.put, List.setIfInBounds_toArray, List.set_cons_zero, List.set_cons_succ]
    refine wpAnyH_take (i := 1) (v := .agg (adrL (adrOf y)).toArray) rfl (by kernel_rfl) (by kernel_rfl) (by kernel_rfl) (fun c x W h => hQ c _ _ _ W h) (by refine yieldsIf_load_mid ?_ 23 (.tmp 45) rfl PB 0 ?_ (adrL (adrOf y)) _ (fun W hW => range_pre (hs.p W hW)) Try.underlying23 rfl (info23 _); (go_simp); (go_simp)) HS ?_
    try simp only [List.getElem_toArray, List.getElem_cons_zero, List.getElem_cons_succ, Act.put, List.setIfInBounds_toArray, List.set_cons_zero, List.set_cons_succ]
    refine wpAnyH_take (i := 2) (v := .pointer (some ⟨PB, 16, none⟩)) rfl (by kernel_rfl) (by kernel_rfl) (by kernel_rfl) (fun c x W h => hQ c _ _ _ W h) (Or.inl ⟨by rfl, fun W hW => by go_simp⟩) HS ?_
    try simp only [List.getElem_toArray, List.getElem_cons_zero, List.getElem_cons_succ, Act.put, List.setIfInBounds_toArray, List.set_cons_zero, List.set_cons_succ]
    refine wpAnyH_take (i := 3) (v := .int .u8 (bitsOf y : Int)) rfl (by kernel_rfl) (by kernel_rfl) (by kernel_rfl) (fun c x W h => hQ c _ _ _ W h) (Or.inl ⟨by rfl, fun W hW => by have := seen_p (hs.p W hW); go_simp⟩) HS ?_
    try simp only [List.getElem_toArray, List.getElem_cons_zero, List.getElem_cons_succ, Act.put, List.setIfInBounds_toArray, List.set_cons_zero, List.set_cons_succ]
    refine wpAnyH_take (i := 5) (v := .pointer (some ⟨PB, 0, none⟩)) rfl (by kernel_rfl) (by kernel_rfl) (by kernel_rfl) (fun c x W h => hQ c _ _ _ W h) (Or.inl ⟨by rfl, fun W hW => by go_simp⟩) HS ?_
    try simp only [List.getElem_toArray, List.getElem_cons_zero, List.getElem_cons_succ, Act.put, List.setIfInBounds_toArray, List.set_cons_zero, List.set_cons_succ]
    refine wpAnyH_take (i := 6) (v := .agg (adrL (adrOf y)).toArray) rfl (by kernel_rfl) (by kernel_rfl) (by kernel_rfl) (fun c x W h => hQ c _ _ _ W h) (by refine yieldsIf_load_mid ?_ 23 (.tmp 50) rfl PB 0 ?_ (adrL (adrOf y)) _ (fun W hW => range_pre (hs.p W hW)) Try.underlying23 rfl (info23 _); (go_simp); (go_simp)) HS ?_
    try simp only [List.getElem_toArray, List.getElem_cons_zero, List.getElem_cons_succ, Act.put, List.setIfInBounds_toArray, List.set_cons_zero, List.set_cons_succ]
    refine wpAnyH_ready (rs := [4]) (by kernel_rfl) (by simp) ?_
    refine AllReadyH.cons rfl (fun K hK => ?_) AllReadyH.nil
    rw [if_pos (by kernel_rfl)]
    simp only [List.getElem_toArray, List.getElem_cons_zero, List.getElem_cons_succ]
    go_simp
    refine (masked_any (adrOf y) (bitsOf y) _ (adrOf_lt y) (bitsOf_lt y)).mono ?_
    rintro e w7 ⟨rfl, b7⟩
    refine hK.out _ _ (hs.step _ _ HS b7) (fun HS => ?_)
    clear hK b7
    try simp only [List.getElem_toArray, List.getElem_cons_zero, List.getElem_cons_succ, Act.put, List.setIfInBounds_toArray, List.set_cons_zero, List.set_cons_succ]
    refine wpAnyH_take (i := 7) (v := .bool false) rfl (by kernel_rfl) (by kernel_rfl) (by kernel_rfl) (fun c x W h => hQ c _ _ _ W h) (Or.inl ⟨by rfl, fun W hW => by have := hz W; go_simp⟩) HS ?_
    try simp only [List.getElem_toArray, List.getElem_cons_zero, List.getElem_cons_succ, Act.put, List.setIfInBounds_toArray, List.set_cons_zero, List.set_cons_succ]
    refine wpAnyH_take (i := 8) (v := .bool false) rfl (by kernel_rfl) (by kernel_rfl) (by kernel_rfl) (fun c x W h => hQ c _ _ _ W h) (Or.inl ⟨by rfl, fun W hW => by go_simp⟩) HS ?_
    try simp only [List.getElem_toArray, List.getElem_cons_zero, List.getElem_cons_succ, Act.put, List.setIfInBounds_toArray, List.set_cons_zero, List.set_cons_succ]
    refine wpAnyH_take (i := 9) (v := .int .i64 ((m + 1 : Nat) : Int)) rfl (by kernel_rfl) (by kernel_rfl) (by kernel_rfl) (fun c x W h => hQ c _ _ _ W h) (Or.inl ⟨by kernel_rfl, fun W hW => by go_simp⟩) HS ?_
    try simp only [List.getElem_toArray, List.getElem_cons_zero, List.getElem_cons_succ, Act.put, List.setIfInBounds_toArray, List.set_cons_zero, List.set_cons_succ]
    refine wpAnyH_take (i := 10) (v := .bool true) rfl (by kernel_rfl) (by kernel_rfl) (by kernel_rfl) (fun c x W h => hQ c _ _ _ W h) (Or.inl ⟨by kernel_rfl, fun W hW => by go_simp⟩) HS ?_
    try simp only [List.getElem_toArray, List.getElem_cons_zero, List.getElem_cons_succ, Act.put, List.setIfInBounds_toArray, List.set_cons_zero, List.set_cons_succ]
    refine wpAnyH_take (i := 11) (v := .bool true) rfl (by kernel_rfl) (by kernel_rfl) (by kernel_rfl) (fun c x W h => hQ c _ _ _ W h) (Or.inl ⟨by kernel_rfl, fun W hW => by go_simp⟩) HS ?_
    try simp only [List.getElem_toArray, List.getElem_cons_zero, List.getElem_cons_succ, Act.put, List.setIfInBounds_toArray, List.set_cons_zero, List.set_cons_succ]
    refine wpAnyH_take (i := 12) (v := .slice (some ⟨g, 0, none⟩) n n) rfl (by kernel_rfl) (by kernel_rfl) (by kernel_rfl) (fun c x W h => hQ c _ _ _ W h) (Or.inl ⟨by kernel_rfl, fun W hW => by go_simp⟩) HS ?_
    try simp only [List.getElem_toArray, List.getElem_cons_zero, List.getElem_cons_succ, Act.put, List.setIfInBounds_toArray, List.set_cons_zero, List.set_cons_succ]
    refine wpAnyH_take (i := 13) (v := .int .i64 ((m + 1 : Nat) : Int)) rfl (by kernel_rfl) (by kernel_rfl) (by kernel_rfl) (fun c x W h => hQ c _ _ _ W h) (Or.inl ⟨by kernel_rfl, fun W hW => by go_simp⟩) HS ?_
    try simp only [List.getElem_toArray, List.getElem_cons_zero, List.getElem_cons_succ, Act.put, List.setIfInBounds_toArray, List.set_cons_zero, List.set_cons_succ]
    refine wpAnyH_take (i := 14) (v := .int .i64 (m : Int)) rfl (by kernel_rfl) (by kernel_rfl) (by kernel_rfl) (fun c x W h => hQ c _ _ _ W h) (Or.inl ⟨by kernel_rfl, fun W hW => by go_simp⟩) HS ?_
    try simp only [List.getElem_toArray, List.getElem_cons_zero, List.getElem_cons_succ, Act.put, List.setIfInBounds_toArray, List.set_cons_zero, List.set_cons_succ]
    refine wpAnyH_take (i := 15) (v := .pointer (some ⟨g, m * 18, none⟩)) rfl (by kernel_rfl) (by kernel_rfl) (by kernel_rfl) (fun c x W h => hQ c _ _ _ W h) (Or.inl ⟨by kernel_rfl, fun W hW => by have := hidx W; go_simp⟩) HS ?_
    try simp only [List.getElem_toArray, List.getElem_cons_zero, List.getElem_cons_succ, Act.put, List.setIfInBounds_toArray, List.set_cons_zero, List.set_cons_succ]
    refine wpAnyH_take (i := 16) (v := .pointer (some ⟨g, m * 18, none⟩)) rfl (by kernel_rfl) (by kernel_rfl) (by kernel_rfl) (fun c x W h => hQ c _ _ _ W h) (Or.inl ⟨by kernel_rfl, fun W hW => by go_simp⟩) HS ?_
    try simp only [List.getElem_toArray, List.getElem_cons_zero, List.getElem_cons_succ, Act.put, List.setIfInBounds_toArray, List.set_cons_zero, List.set_cons_succ]
    refine wpAnyH_take (i := 17) (v := .pointer (some ⟨g, m * 18, none⟩)) rfl (by kernel_rfl) (by kernel_rfl) (by kernel_rfl) (fun c x W h => hQ c _ _ _ W h) (Or.inl ⟨by kernel_rfl, fun W hW => by go_simp⟩) HS ?_
    try simp only [List.getElem_toArray, List.getElem_cons_zero, List.getElem_cons_succ, Act.put, List.setIfInBounds_toArray, List.set_cons_zero, List.set_cons_succ]
    refine wpAnyH_take (i := 18) (v := .slice (some ⟨g, m * 18, none⟩) 16 16) rfl (by kernel_rfl) (by kernel_rfl) (by kernel_rfl) (fun c x W h => hQ c _ _ _ W h) (Or.inl ⟨by kernel_rfl, fun W hW => by go_simp⟩) HS ?_
    try simp only [List.getElem_toArray, List.getElem_cons_zero, List.getElem_cons_succ, Act.put, List.setIfInBounds_toArray, List.set_cons_zero, List.set_cons_succ]
    refine wpAnyH_take (i := 19) (v := .string ⟨(z.1.take 16).toArray⟩) rfl (by kernel_rfl) (by kernel_rfl) (by kernel_rfl) (fun c x W h => hQ c _ _ _ W h) (Or.inl ⟨by kernel_rfl, fun W hW => by have := conv_row (hb.r W hW); go_simp⟩) HS ?_
    try simp only [List.getElem_toArray, List.getElem_cons_zero, List.getElem_cons_succ, Act.put, List.setIfInBounds_toArray, List.set_cons_zero, List.set_cons_succ]
    refine wpAnyH_take (i := 20) (v := .pointer (some ⟨PB, 0, none⟩)) rfl (by kernel_rfl) (by kernel_rfl) (by kernel_rfl) (fun c x W h => hQ c _ _ _ W h) (Or.inl ⟨by kernel_rfl, fun W hW => by go_simp⟩) HS ?_
    try simp only [List.getElem_toArray, List.getElem_cons_zero, List.getElem_cons_succ, Act.put, List.setIfInBounds_toArray, List.set_cons_zero, List.set_cons_succ]
    refine wpAnyH_take (i := 21) (v := .slice (some ⟨PB, 0, none⟩) 16 16) rfl (by kernel_rfl) (by kernel_rfl) (by kernel_rfl) (fun c x W h => hQ c _ _ _ W h) (Or.inl ⟨by kernel_rfl, fun W hW => by go_simp⟩) HS ?_
    try simp only [List.getElem_toArray, List.getElem_cons_zero, List.getElem_cons_succ, Act.put, List.setIfInBounds_toArray, List.set_cons_zero, List.set_cons_succ]
    refine wpAnyH_take (i := 22) (v := .string ⟨(y.1.take 16).toArray⟩) rfl (by kernel_rfl) (by kernel_rfl) (by kernel_rfl) (fun c x W h => hQ c _ _ _ W h) (Or.inl ⟨by kernel_rfl, fun W hW => by have := conv_row (range_pre (hs.p W hW)); go_simp⟩) HS ?_
    try simp only [List.getElem_toArray, List.getElem_cons_zero, List.getElem_cons_succ, Act.put, List.setIfInBounds_toArray, List.set_cons_zero, List.set_cons_succ]
    refine wpAnyH_take (i := 23) (v := .bool false) rfl (by kernel_rfl) (by kernel_rfl) (by kernel_rfl) (fun c x W h => hQ c _ _ _ W h) (Or.inl ⟨by kernel_rfl, fun W hW => by go_simp; exact HG.out⟩) HS ?_
    try simp only [List.getElem_toArray, List.getElem_cons_zero, List.getElem_cons_succ, Act.put, List.setIfInBounds_toArray, List.set_cons_zero, List.set_cons_succ]
    refine wpAnyH_take (i := 24) (v := .bool false) rfl (by kernel_rfl) (by kernel_rfl) (by kernel_rfl) (fun c x W h => hQ c _ _ _ W h) (Or.inl ⟨by kernel_rfl, fun W hW => by go_simp⟩) HS ?_
    try simp only [List.getElem_toArray, List.getElem_cons_zero, List.getElem_cons_succ, Act.put, List.setIfInBounds_toArray, List.set_cons_zero, List.set_cons_succ]
    refine wpAnyH_take (i := 25) (v := .slice (some ⟨g, 0, none⟩) n n) rfl (by kernel_rfl) (by kernel_rfl) (by kernel_rfl) (fun c x W h => hQ c _ _ _ W h) (Or.inl ⟨by kernel_rfl, fun W hW => by go_simp⟩) HS ?_
    try simp only [List.getElem_toArray, List.getElem_cons_zero, List.getElem_cons_succ, Act.put, List.setIfInBounds_toArray, List.set_cons_zero, List.set_cons_succ]
    refine wpAnyH_take (i := 26) (v := .int .i64 ((m + 1 : Nat) : Int)) rfl (by kernel_rfl) (by kernel_rfl) (by kernel_rfl) (fun c x W h => hQ c _ _ _ W h) (Or.inl ⟨by kernel_rfl, fun W hW => by go_simp⟩) HS ?_
    try simp only [List.getElem_toArray, List.getElem_cons_zero, List.getElem_cons_succ, Act.put, List.setIfInBounds_toArray, List.set_cons_zero, List.set_cons_succ]
    refine wpAnyH_take (i := 27) (v := .int .i64 (m : Int)) rfl (by kernel_rfl) (by kernel_rfl) (by kernel_rfl) (fun c x W h => hQ c _ _ _ W h) (Or.inl ⟨by kernel_rfl, fun W hW => by go_simp⟩) HS ?_
    try simp only [List.getElem_toArray, List.getElem_cons_zero, List.getElem_cons_succ, Act.put, List.setIfInBounds_toArray, List.set_cons_zero, List.set_cons_succ]
    refine wpAnyH_take (i := 28) (v := .pointer (some ⟨g, m * 18, none⟩)) rfl (by kernel_rfl) (by kernel_rfl) (by kernel_rfl) (fun c x W h => hQ c _ _ _ W h) (Or.inl ⟨by kernel_rfl, fun W hW => by have := hidx W; go_simp⟩) HS ?_
    try simp only [List.getElem_toArray, List.getElem_cons_zero, List.getElem_cons_succ, Act.put, List.setIfInBounds_toArray, List.set_cons_zero, List.set_cons_succ]
    refine wpAnyH_take (i := 29) (v := .pointer (some ⟨g, m * 18, none⟩)) rfl (by kernel_rfl) (by kernel_rfl) (by kernel_rfl) (fun c x W h => hQ c _ _ _ W h) (Or.inl ⟨by kernel_rfl, fun W hW => by go_simp⟩) HS ?_
    try simp only [List.getElem_toArray, List.getElem_cons_zero, List.getElem_cons_succ, Act.put, List.setIfInBounds_toArray, List.set_cons_zero, List.set_cons_succ]
    refine wpAnyH_take (i := 30) (v := .pointer (some ⟨g, m * 18, none⟩)) rfl (by kernel_rfl) (by kernel_rfl) (by kernel_rfl) (fun c x W h => hQ c _ _ _ W h) (Or.inl ⟨by kernel_rfl, fun W hW => by go_simp⟩) HS ?_
    try simp only [List.getElem_toArray, List.getElem_cons_zero, List.getElem_cons_succ, Act.put, List.setIfInBounds_toArray, List.set_cons_zero, List.set_cons_succ]
    refine wpAnyH_take (i := 31) (v := .agg (adrL (adrOf z)).toArray) rfl (by kernel_rfl) (by kernel_rfl) (by kernel_rfl) (fun c x W h => hQ c _ _ _ W h) (by refine yieldsIf_load_mid ?_ 23 (.tmp 75) rfl g (m * 18) ?_ (adrL (adrOf z)) _ (fun W hW => hb.r W hW) Try.underlying23 rfl (info23 _); (go_simp); (go_simp)) HS ?_
    try simp only [List.getElem_toArray, List.getElem_cons_zero, List.getElem_cons_succ, Act.put, List.setIfInBounds_toArray, List.set_cons_zero, List.set_cons_succ]
    refine wpAnyH_take (i := 32) (v := .pointer (some ⟨PB, 0, none⟩)) rfl (by kernel_rfl) (by kernel_rfl) (by kernel_rfl) (fun c x W h => hQ c _ _ _ W h) (Or.inl ⟨by kernel_rfl, fun W hW => by go_simp⟩) HS ?_
    try simp only [List.getElem_toArray, List.getElem_cons_zero, List.getElem_cons_succ, Act.put, List.setIfInBounds_toArray, List.set_cons_zero, List.set_cons_succ]
    refine wpAnyH_take (i := 33) (v := .agg (adrL (adrOf y)).toArray) rfl (by kernel_rfl) (by kernel_rfl) (by kernel_rfl) (fun c x W h => hQ c _ _ _ W h) (by refine yieldsIf_load_mid ?_ 23 (.tmp 77) rfl PB 0 ?_ (adrL (adrOf y)) _ (fun W hW => range_pre (hs.p W hW)) Try.underlying23 rfl (info23 _); (go_simp); (go_simp)) HS ?_
    try simp only [List.getElem_toArray, List.getElem_cons_zero, List.getElem_cons_succ, Act.put, List.setIfInBounds_toArray, List.set_cons_zero, List.set_cons_succ]
    refine wpAnyH_take (i := 34) (v := .bool true) rfl (by kernel_rfl) (by kernel_rfl) (by kernel_rfl) (fun c x W h => hQ c _ _ _ W h) (Or.inl ⟨by kernel_rfl, fun W hW => by have := he W; go_simp⟩) HS ?_
    try simp only [List.getElem_toArray, List.getElem_cons_zero, List.getElem_cons_succ, Act.put, List.setIfInBounds_toArray, List.set_cons_zero, List.set_cons_succ]
    refine wpAnyH_take (i := 35) (v := .bool true) rfl (by kernel_rfl) (by kernel_rfl) (by kernel_rfl) (fun c x W h => hQ c _ _ _ W h) (Or.inl ⟨by kernel_rfl, fun W hW => by go_simp⟩) HS ?_
    try simp only [List.getElem_toArray, List.getElem_cons_zero, List.getElem_cons_succ, Act.put, List.setIfInBounds_toArray, List.set_cons_zero, List.set_cons_succ]
    refine wpAnyH_take (i := 36) (v := .slice (some ⟨g, 0, none⟩) n n) rfl (by kernel_rfl) (by kernel_rfl) (by kernel_rfl) (fun c x W h => hQ c _ _ _ W h) (Or.inl ⟨by kernel_rfl, fun W hW => by go_simp⟩) HS ?_
    try simp only [List.getElem_toArray, List.getElem_cons_zero, List.getElem_cons_succ, Act.put, List.setIfInBounds_toArray, List.set_cons_zero, List.set_cons_succ]
    refine wpAnyH_take (i := 37) (v := .int .i64 ((m + 1 : Nat) : Int)) rfl (by kernel_rfl) (by kernel_rfl) (by kernel_rfl) (fun c x W h => hQ c _ _ _ W h) (Or.inl ⟨by kernel_rfl, fun W hW => by go_simp⟩) HS ?_
    try simp only [List.getElem_toArray, List.getElem_cons_zero, List.getElem_cons_succ, Act.put, List.setIfInBounds_toArray, List.set_cons_zero, List.set_cons_succ]
    refine wpAnyH_take (i := 38) (v := .int .i64 (m : Int)) rfl (by kernel_rfl) (by kernel_rfl) (by kernel_rfl) (fun c x W h => hQ c _ _ _ W h) (Or.inl ⟨by kernel_rfl, fun W hW => by go_simp⟩) HS ?_
    try simp only [List.getElem_toArray, List.getElem_cons_zero, List.getElem_cons_succ, Act.put, List.setIfInBounds_toArray, List.set_cons_zero, List.set_cons_succ]
    refine wpAnyH_take (i := 39) (v := .pointer (some ⟨g, m * 18, none⟩)) rfl (by kernel_rfl) (by kernel_rfl) (by kernel_rfl) (fun c x W h => hQ c _ _ _ W h) (Or.inl ⟨by kernel_rfl, fun W hW => by have := hidx W; go_simp⟩) HS ?_
    try simp only [List.getElem_toArray, List.getElem_cons_zero, List.getElem_cons_succ, Act.put, List.setIfInBounds_toArray, List.set_cons_zero, List.set_cons_succ]
    refine wpAnyH_take (i := 40) (v := .pointer (some ⟨g, m * 18, none⟩)) rfl (by kernel_rfl) (by kernel_rfl) (by kernel_rfl) (fun c x W h => hQ c _ _ _ W h) (Or.inl ⟨by kernel_rfl, fun W hW => by go_simp⟩) HS ?_
    try simp only [List.getElem_toArray, List.getElem_cons_zero, List.getElem_cons_succ, Act.put, List.setIfInBounds_toArray, List.set_cons_zero, List.set_cons_succ]
    refine wpAnyH_take (i := 41) (v := .pointer (some ⟨g, (m * 18 + 16), none⟩)) rfl (by kernel_rfl) (by kernel_rfl) (by kernel_rfl) (fun c x W h => hQ c _ _ _ W h) (Or.inl ⟨by kernel_rfl, fun W hW => by go_simp⟩) HS ?_
    try simp only [List.getElem_toArray, List.getElem_cons_zero, List.getElem_cons_succ, Act.put, List.setIfInBounds_toArray, List.set_cons_zero, List.set_cons_succ]
    refine wpAnyH_take (i := 42) (v := .int .u8 (bitsOf z : Int)) rfl (by kernel_rfl) (by kernel_rfl) (by kernel_rfl) (fun c x W h => hQ c _ _ _ W h) (Or.inl ⟨by kernel_rfl, fun W hW => by have := hb.b W hW; go_simp⟩) HS ?_
    try simp only [List.getElem_toArray, List.getElem_cons_zero, List.getElem_cons_succ, Act.put, List.setIfInBounds_toArray, List.set_cons_zero, List.set_cons_succ]
    refine wpAnyH_take (i := 43) (v := .pointer (some ⟨PB, 16, none⟩)) rfl (by kernel_rfl) (by kernel_rfl) (by kernel_rfl) (fun c x W h => hQ c _ _ _ W h) (Or.inl ⟨by kernel_rfl, fun W hW => by go_simp⟩) HS ?_
    try simp only [List.getElem_toArray, List.getElem_cons_zero, List.getElem_cons_succ, Act.put, List.setIfInBounds_toArray, List.set_cons_zero, List.set_cons_succ]
    refine wpAnyH_take (i := 44) (v := .int .u8 (bitsOf y : Int)) rfl (by kernel_rfl) (by kernel_rfl) (by kernel_rfl) (fun c x W h => hQ c _ _ _ W h) (Or.inl ⟨by kernel_rfl, fun W hW => by have := seen_p (hs.p W hW); go_simp⟩) HS ?_
    try simp only [List.getElem_toArray, List.getElem_cons_zero, List.getElem_cons_succ, Act.put, List.setIfInBounds_toArray, List.set_cons_zero, List.set_cons_succ]
    refine wpAnyH_take (i := 45) (v := .bool false) rfl (by kernel_rfl) (by kernel_rfl) (by kernel_rfl) (fun c x W h => hQ c _ _ _ W h) (Or.inl ⟨by kernel_rfl, fun W hW => by go_simp⟩) HS ?_
    try simp only [List.getElem_toArray, List.getElem_cons_zero, List.getElem_cons_succ, Act.put, List.setIfInBounds_toArray, List.set_cons_zero, List.set_cons_succ]
    refine wpAnyH_take (i := 46) (v := .bool false) rfl (by kernel_rfl) (by kernel_rfl) (by kernel_rfl) (fun c x W h => hQ c _ _ _ W h) (Or.inl ⟨by kernel_rfl, fun W hW => by go_simp⟩) HS ?_
    try simp only [List.getElem_toArray, List.getElem_cons_zero, List.getElem_cons_succ, Act.put, List.setIfInBounds_toArray, List.set_cons_zero, List.set_cons_succ]
    refine wpAnyH_take (i := 47) (v := .bool false) rfl (by kernel_rfl) (by kernel_rfl) (by kernel_rfl) (fun c x W h => hQ c _ _ _ W h) (Or.inl ⟨by kernel_rfl, fun W hW => by go_simp⟩) HS ?_
    try simp only [List.getElem_toArray, List.getElem_cons_zero, List.getElem_cons_succ, Act.put, List.setIfInBounds_toArray, List.set_cons_zero, List.set_cons_succ]
    refine wpAnyH_take (i := 48) (v := .bool false) rfl (by kernel_rfl) (by kernel_rfl) (by kernel_rfl) (fun c x W h => hQ c _ _ _ W h) (Or.inl ⟨by kernel_rfl, fun W hW => by go_simp⟩) HS ?_
    try simp only [List.getElem_toArray, List.getElem_cons_zero, List.getElem_cons_succ, Act.put, List.setIfInBounds_toArray, List.set_cons_zero, List.set_cons_succ]
    refine wpAnyH_take (i := 49) (v := .bool false) rfl (by kernel_rfl) (by kernel_rfl) (by kernel_rfl) (fun c x W h => hQ c _ _ _ W h) (Or.inl ⟨by rfl, fun W hW => by go_simp⟩) HS ?_
    try simp only [List.getElem_toArray, List.getElem_cons_zero, List.getElem_cons_succ, Act.put, List.setIfInBounds_toArray, List.set_cons_zero, List.set_cons_succ]
    refine wpAnyH_done (by kernel_rfl) ?_ _
    exact act_eq (by kernel_rfl) (h _ HS)
end Go.Proofs.Ytkhbchgocilclaa
