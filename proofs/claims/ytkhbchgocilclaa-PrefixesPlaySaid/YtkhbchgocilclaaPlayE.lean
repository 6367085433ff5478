/- The document's before, and Tick. No condition but that the numbers fit. -/
import Derived.Test.YtkhbchgocilclaaPlayD
namespace Go.Proofs.Ytkhbchgocilclaa
open Go.RowKit
set_option linter.unusedVariables false
set_option linter.unusedSimpArgs false
set_option maxRecDepth 100000 in
set_option maxHeartbeats 4000000 in
theorem before32 (x y : PKey) (w : World) :
    Calls Try.prog 32 #[.agg (preCells (adrOf x) (bitsOf x)), .agg (preCells (adrOf y) (bitsOf y))] w fun e w' => e = .returned (.bool (decide (numK x < numK y))) ∧ Below w.heap.size w w' := by
  have hS0 : ((w.alloc (.cells (preCells (adrOf x) (bitsOf x)) 25)).alloc (.cells (preCells (adrOf y) (bitsOf y)) 25)).heap[w.heap.size]? = some (.cells (preCells (adrOf x) (bitsOf x)) 25 (0, 0)) ∧ ((w.alloc (.cells (preCells (adrOf x) (bitsOf x)) 25)).alloc (.cells (preCells (adrOf y) (bitsOf y)) 25)).heap[w.heap.size + 1]? = some (.cells (preCells (adrOf y) (bitsOf y)) 25 (0, 0)) := ⟨heap_alloc2_old _ _ _, heap_alloc2_new _ _ _⟩
  have hB0 : Below w.heap.size w ((w.alloc (.cells (preCells (adrOf x) (bitsOf x)) 25)).alloc (.cells (preCells (adrOf y) (bitsOf y)) 25)) := ((Below.refl _ _).alloc (Nat.le_refl _) _).alloc (by simp) _
  have HS0 := Lib.hid hS0; have HB0 := Lib.hid hB0
  have R1 := Lib.hid (range_pre hS0.1); have R2 := Lib.hid (range_pre hS0.2)
  have b1 := seen_p hS0.1; have b2 := seen_p hS0.2
  have hne := fun W => adr_neq (adrOf_lt x) (adrOf_lt y) W
  have hne2 : ∀ W : World, (binOp .neq 23 (.agg (adrL (adrOf x)).toArray) (.agg (adrL (adrOf y)).toArray)).run Try.prog W = .ok (.bool (adrNe (adrOf x) (adrOf y))) W := hne
  clear hS0 hB0 hne
  have hnum := numK_eq x
  have hnum2 := numK_eq y
  cases hc : adrNe (adrOf x) (adrOf y) with
  | true =>
    have hres : decide (numK x < numK y) = Op.bytesLess (x.1.take 16) (y.1.take 16) := by
      rw [less_num _ _ (by rw [List.length_take, List.length_take, x.2, y.2]), Bool.eq_iff_iff, decide_eq_true_eq, decide_eq_true_eq]
      have h1 := bitsOf_lt x
      have h2 := bitsOf_lt y
      unfold bitsOf at h1 h2
      rw [hnum, hnum2]
      have hd : numB (x.1.take 16) ≠ numB (y.1.take 16) := fun e => by
        have e1 := numB_inj _ _ (by rw [List.length_take, List.length_take, x.2, y.2]) e
        have : adrNe (adrOf x) (adrOf y) = false := adrNe_eq fun i hi => by
          have := congrArg (fun l => (l.getD i 0).toNat) e1
          simpa [adrOf, List.getD_eq_getElem?_getD, List.getElem?_take, hi] using this
        rw [hc] at this; cases this
      omega
    rw [hres]
    rw [hc] at hne2
    have HN := fun W => hne2 W
    clear hres hnum hnum2 hne2 hc b1 b2
    go_enter Try.func32, Try.ntmps32
    go_wp2_with (first | (refine wpList_load_mid rfl 23 _ rfl w.heap.size 0 rfl (adrL (adrOf x)) _ R1.out Try.underlying23 rfl (info23 _) ?_) | (refine wpList_load_mid rfl 23 _ rfl (w.heap.size + 1) 0 rfl (adrL (adrOf y)) _ R2.out Try.underlying23 rfl (info23 _) ?_))
    generalize (w.alloc (.cells (preCells (adrOf x) (bitsOf x)) 25)).alloc (.cells (preCells (adrOf y) (bitsOf y)) 25) = w2 at *
    obtain ⟨B, hB⟩ : ∃ B, B = w.heap.size := ⟨_, rfl⟩
    rw [← hB] at HS0 HB0 ⊢
    have NB := Lib.hid hB
    clear R1 R2 hB
    refine wp_region_held_drew (S := fun w' => w'.heap[B]? = some (.cells (preCells (adrOf x) (bitsOf x)) 25 (0, 0)) ∧ w'.heap[B + 1]? = some (.cells (preCells (adrOf y) (bitsOf y)) 25 (0, 0))) (by kernel_rfl) HS0.out ?_
    intro HS
    refine wpAnyH_take (i := 0) (v := .pointer (some ⟨B, 0, none⟩)) rfl (by kernel_rfl) (by kernel_rfl) (by kernel_rfl) (fun _ _ _ h => h) (Or.inl ⟨by rfl, fun W hW => by go_simp⟩) HS ?_
    try simp only [List.getElem_toArray, List.getElem_cons_zero, List.getElem_cons_succ, Act.put, List.setIfInBounds_toArray, List.set_cons_zero, List.set_cons_succ]
    refine wpAnyH_take (i := 1) (v := .slice (some ⟨B, 0, none⟩) 16 16) rfl (by kernel_rfl) (by kernel_rfl) (by kernel_rfl) (fun _ _ _ h => h) (Or.inl ⟨by rfl, fun W hW => by go_simp⟩) HS ?_
    try simp only [List.getElem_toArray, List.getElem_cons_zero, List.getElem_cons_succ, Act.put, List.setIfInBounds_toArray, List.set_cons_zero, List.set_cons_succ]
    refine wpAnyH_take (i := 2) (v := .string ⟨(x.1.take 16).toArray⟩) rfl (by kernel_rfl) (by kernel_rfl) (by kernel_rfl) (fun _ _ _ h => h) (Or.inl ⟨by rfl, fun W hW => by have := conv_row (range_pre hW.1); go_simp⟩) HS ?_
    try simp only [List.getElem_toArray, List.getElem_cons_zero, List.getElem_cons_succ, Act.put, List.setIfInBounds_toArray, List.set_cons_zero, List.set_cons_succ]
    refine wpAnyH_take (i := 3) (v := .pointer (some ⟨B + 1, 0, none⟩)) rfl (by kernel_rfl) (by kernel_rfl) (by kernel_rfl) (fun _ _ _ h => h) (Or.inl ⟨by rfl, fun W hW => by go_simp⟩) HS ?_
    try simp only [List.getElem_toArray, List.getElem_cons_zero, List.getElem_cons_succ, Act.put, List.setIfInBounds_toArray, List.set_cons_zero, List.set_cons_succ]
    refine wpAnyH_take (i := 4) (v := .slice (some ⟨B + 1, 0, none⟩) 16 16) rfl (by kernel_rfl) (by kernel_rfl) (by kernel_rfl) (fun _ _ _ h => h) (Or.inl ⟨by rfl, fun W hW => by go_simp⟩) HS ?_
    try simp only [List.getElem_toArray, List.getElem_cons_zero, List.getElem_cons_succ, Act.put, List.setIfInBounds_toArray, List.set_cons_zero, List.set_cons_succ]
    refine wpAnyH_take (i := 5) (v := .string ⟨(y.1.take 16).toArray⟩) rfl (by kernel_rfl) (by kernel_rfl) (by kernel_rfl) (fun _ _ _ h => h) (Or.inl ⟨by rfl, fun W hW => by have := conv_row (range_pre hW.2); go_simp⟩) HS ?_
    try simp only [List.getElem_toArray, List.getElem_cons_zero, List.getElem_cons_succ, Act.put, List.setIfInBounds_toArray, List.set_cons_zero, List.set_cons_succ]
    refine wpAnyH_take (i := 6) (v := .bool (Op.bytesLess (x.1.take 16) (y.1.take 16))) rfl (by kernel_rfl) (by kernel_rfl) (by kernel_rfl) (fun _ _ _ h => h) (Or.inl ⟨by rfl, fun W hW => by go_simp⟩) HS ?_
    try simp only [List.getElem_toArray, List.getElem_cons_zero, List.getElem_cons_succ, Act.put, List.setIfInBounds_toArray, List.set_cons_zero, List.set_cons_succ]
    refine wpAnyH_take (i := 7) (v := .bool (Op.bytesLess (x.1.take 16) (y.1.take 16))) rfl (by kernel_rfl) (by kernel_rfl) (by kernel_rfl) (fun _ _ _ h => h) (Or.inl ⟨by rfl, fun W hW => by go_simp⟩) HS ?_
    try simp only [List.getElem_toArray, List.getElem_cons_zero, List.getElem_cons_succ, Act.put, List.setIfInBounds_toArray, List.set_cons_zero, List.set_cons_succ]
    refine wpAnyH_done (by kernel_rfl) ?_ _
    clear HS HS0
    go_wp2_with fail
    go_ret
    exact ⟨rfl, by rw [← NB.out]; exact HB0.out.drew⟩
  | false =>
    have hres : decide (numK x < numK y) = decide ((bitsOf x : Int) < bitsOf y) := by
      rw [Bool.eq_iff_iff, decide_eq_true_eq, decide_eq_true_eq]
      rw [hnum, hnum2, adrNe_false hc]
      unfold bitsOf
      omega
    rw [hres]
    rw [hc] at hne2
    have HN := fun W => hne2 W
    clear hres hnum hnum2 hne2 hc
    go_enter Try.func32, Try.ntmps32
    go_wp2_with (first | (refine wpList_load_mid rfl 23 _ rfl w.heap.size 0 rfl (adrL (adrOf x)) _ R1.out Try.underlying23 rfl (info23 _) ?_) | (refine wpList_load_mid rfl 23 _ rfl (w.heap.size + 1) 0 rfl (adrL (adrOf y)) _ R2.out Try.underlying23 rfl (info23 _) ?_))
    go_ret
    exact ⟨by first | rfl | simp, HB0.out⟩
theorem newsT {w6 : World} {m : Nat} (t : TypeId) (hm : w6.heap.size = m) (p : Nat → Nat) (n tm : Nat) : ∀ (j : Nat) (u : Value), (preL p n ++ [Value.int .u64 (tm : Int)])[j]? = some u →
    (w6.alloc (.cells (List.foldl (fun (cs : Array Value) (x : Value × Nat) => cs.setIfInBounds x.2 x.1) #[.int .u8 0, .int .u8 0, .int .u8 0, .int .u8 0, .int .u8 0, .int .u8 0, .int .u8 0, .int .u8 0, .int .u8 0, .int .u8 0, .int .u8 0, .int .u8 0, .int .u8 0, .int .u8 0, .int .u8 0, .int .u8 0, .int .u8 0, .int .u64 0] (preL p n ++ [Value.int .u64 (tm : Int)]).zipIdx) t)).cell? ((⟨m, 0, none⟩ : Addr).add j) = some u := fun j u hj => by
  rw [lay44, Addr.add_mid, Nat.zero_add]
  have := cell_blk (heap_alloc_new w6 (.cells (preL p n ++ [Value.int .u64 (tm : Int)]).toArray t)) j
  rw [← hm, this]
  simpa using hj
theorem info69 : (Try.prog.info? 69).map (fun i => (i.zero, i.size, i.bytes)) = some (some (.agg (preCells (fun _ => 0) 0 ++ #[.int .u64 0])), 18, 32) := by kernel_rfl
theorem size69 (a : Nat → Nat) (n tm : Nat) : (Try.prog.info? 69).map (·.size) = some (preL a n ++ [Value.int .u64 (tm : Int)]).length := by
  rw [List.length_append, preL_length]; kernel_rfl
theorem own_keptE {w w' : World} {B n : Nat} {v : Value} {xs : List Value} (h : w.ownsRow B 69 18 v n xs) (hb : ∀ k o, w.heap[k]? = some o → v.ownBlock = some k → w'.heap[k]? = some o) : w'.ownsRow B 69 18 v n xs := by
  refine ⟨h.1, ?_⟩
  rcases h.2 with h1 | ⟨g, cap, cur, h1, h2, h3, h4⟩
  · exact .inl h1
  · exact .inr ⟨g, cap, cur, h1, h2, hb g _ h3 (by rw [h1]; rfl), h4⟩
theorem own_belowE {w w' : World} {B n : Nat} {v : Value} {xs : List Value} (h : w.ownsRow B 69 18 v n xs) (hb : Below w.heap.size w w') : w'.ownsRow B 69 18 v n xs := own_keptE h fun k o hk _ => (hb.block k (lt_of_blk hk)).trans hk
theorem own_geE {w : World} {B n : Nat} {v : Value} {xs : List Value} (h : w.ownsRow B 69 18 v n xs) (k : Nat) (hk : v.ownBlock = some k) : B ≤ k := by
  rcases h.2 with ⟨e, _⟩ | ⟨g, cap, cur, e, hg, _⟩
  · rw [e] at hk; cases hk
  · rw [e] at hk
    have e' : g = k := by injection hk
    omega
theorem encE_length (e : Ent) : (encE e).length = 18 := encK_length _ _
theorem flatE_at : ∀ (L : List Ent) (i c : Nat) (e : Ent), L[i]? = some e → c < 18 → (L.flatMap encE)[i * 18 + c]? = (encE e)[c]?
  | [], i, c, k, h, _ => by simp at h
  | a :: ks, 0, c, k, h, hc => by
    have h : a = k := by simpa using h
    subst h
    rw [List.flatMap_cons, Nat.zero_mul, Nat.zero_add, List.getElem?_append_left (by rw [encE_length]; exact hc)]
  | a :: ks, i + 1, c, k, h, hc => by
    rw [List.flatMap_cons, List.getElem?_append_right (by rw [encE_length]; omega), encE_length, show (i + 1) * 18 + c - 18 = i * 18 + c from by omega]
    exact flatE_at ks i c k (by simpa using h) hc
theorem rowV_of_own {w : World} {B : Nat} {v : Value} {L : List Ent} (h : w.ownsRow B 69 18 v L.length (L.flatMap encE)) : ∃ p cap, v = .slice p L.length cap ∧ RowV B p L w := by
  rcases h.2 with ⟨e, hn⟩ | ⟨g, cap, cur, e, hb, hg, hn, hm, hs, ht⟩
  · exact ⟨none, 0, by rw [e, hn], ⟨fun hp => by omega⟩⟩
  · refine ⟨_, _, e, ⟨fun hp => ⟨g, rfl, hb, lt_of_blk hg, fun i c x y h1 h2 => ?_⟩⟩⟩
    have hi := (List.getElem?_eq_some_iff.1 h1).1
    have hc := (List.getElem?_eq_some_iff.1 h2).1
    rw [encE_length] at hc
    have := flatE_at L i c x h1 hc
    rw [h2, ← ht, List.getElem?_take_of_lt (by omega)] at this
    rw [cell_blk hg]
    simpa using this
def tickL (now : Nat) (L : List Ent) : List Ent := L.filter fun e => decide (now < e.2)
/-- the document's list behind a call that turned it -/
structure RefTurned (base mk : Nat) (L : List Ent) (w w' : World) : Prop where
  v : ∃ p cap, RefV base mk p cap L w'
  grown : w.grownBy w' (some mk)
theorem RowV.mono {B B' : Nat} {p : Option Addr} {L : List Ent} {w : World} (h : RowV B p L w) (hb : B' ≤ B) : RowV B' p L w :=
  ⟨fun hp => by obtain ⟨g, e, h1, h2⟩ := h.row hp; exact ⟨g, e, by omega, h2⟩⟩
theorem RowV.turned {B mk : Nat} {p : Option Addr} {L : List Ent} {o : Obj} {w w' : World} (h : RowV B p L w) (t : Turned mk o w w') (hm : mk < B) : RowV B p L w' :=
  ⟨fun hp => by
    obtain ⟨g, e, h1, h2⟩ := h.row hp
    refine ⟨g, e, h1, by rw [t.size]; exact h2.lt, fun i c x y q1 q2 => ?_⟩
    have := h2.at_ i c x y q1 q2
    rw [← this]
    simp only [World.cell?, t.other (show g ≠ mk by omega)]⟩
theorem ref_turned {base mk cap cap' : Nat} {p p' : Option Addr} {L L' : List Ent} {w wr : World} (hV : RefV base mk p cap L w) (hB : Below w.heap.size w wr) (hR : RowV w.heap.size p' L' wr) (hbase : base ≤ w.heap.size) :
    RefTurned base mk L' w (wr.setCell ⟨mk, 0, none⟩ (.slice p' L'.length cap')) := by
  have hmk := lt_of_blk hV.h
  have h1 := (hB.block mk hmk).trans hV.h
  have t := Turned.setCell h1 0 (.slice p' L'.length cap')
  refine ⟨⟨p', cap', t.get (lt_of_blk h1), (hR.turned t hmk).mono hbase, hV.ge⟩, t.os.trans hB.os, t.tape.trans hB.tape, t.output.trans hB.output, by rw [t.size]; exact hB.size, fun k hk hne => ?_⟩
  exact (t.other (fun e => hne (by rw [e]))).trans (hB.block k hk)
set_option maxRecDepth 100000 in
set_option maxHeartbeats 4000000 in
theorem tick15 {base mk cap now : Nat} {p : Option Addr} {L : List Ent} {w : World} (hV : RefV base mk p cap L w) (hlen : L.length ≤ 8) (hbase : base ≤ w.heap.size) :
    Calls Try.prog 15 #[.pointer (some ⟨mk, 0, none⟩), .int .u64 (now : Int)] w fun e w' => e = .returned (.int .i64 ((L.length - (tickL now L).length : Nat) : Int)) ∧ RefTurned base mk (tickL now L) w w' := by
  have hmk := lt_of_blk hV.h
  go_enter Try.func15, Try.ntmps15
  go_wp2_with fail
  have HV0 := Lib.hid hV
  have I := Lib.hid (show RefV base mk p cap L w ∧ w.ownsRow w.heap.size 69 18 (.slice none 0 0) (tickL now (L.take 0)).length ((tickL now (L.take 0)).flatMap encE) ∧ Below w.heap.size w w from ⟨hV, World.ownsRow_nil _ _ _ _, Below.refl _ _⟩)
  clear hV
  go_loopw [5, 6] (fun v i wr => ∃ k : Nat, k ≤ L.length ∧ i = .int .i64 k ∧ RefV base mk p cap L wr ∧ wr.ownsRow w.heap.size 69 18 v (tickL now (L.take k)).length ((tickL now (L.take k)).flatMap encE) ∧ Below w.heap.size w wr) (fun v i _ => L.length - (intOf i).toNat)
  case atStart => exact ⟨0, by omega, rfl, I.out⟩
  case round =>
    clear I
    obtain ⟨k, hk, rfl, IV, IO, IB⟩ := hrel
    have cm := cell_blk IV.h 0
    by_cases hlt : k < L.length
    · obtain ⟨g, rfl, hg, hR⟩ := IV.row.row (by omega)
      obtain ⟨e, he⟩ : ∃ e, L[k]? = some e := ⟨L[k], List.getElem?_eq_getElem hlt⟩
      have hk1 : ¬ ((L.length : Int) ≤ k) := by omega
      have hk2 : (k : Int) < L.length := by omega
      have ct := hR.time he
      have hra := hR.all he
      rw [encE_pre] at hra
      have HRA := Lib.hid hra
      have e1 : tickL now (L.take (k + 1)) = tickL now (L.take k) ++ (if now < e.2 then [e] else []) := by
        unfold tickL
        rw [List.take_add_one, he, List.filter_append]
        congr 1
        show List.filter _ [e] = _
        by_cases h : now < e.2
        · rw [if_pos h, List.filter_cons_of_pos (by simpa using h)]; rfl
        · rw [if_neg h, List.filter_cons_of_neg (by simpa using h)]; rfl
      have hl8 : (tickL now (L.take k)).length + 1 ≤ 9 := by
        have := List.length_filter_le (fun e : Ent => decide (now < e.2)) (L.take k)
        have h2 : (L.take k).length ≤ k := by rw [List.length_take]; omega
        unfold tickL; omega
      have HE1 := Lib.hid e1; have HV := Lib.hid IV; have HO := Lib.hid IO; have HB := Lib.hid IB; have HL8 := Lib.hid hl8; have HSZ := Lib.hid IB.size
      clear e1 IV IO IB hl8 hra hR
      by_cases hnow : now < e.2
      · have tt : decide ((now : Int) < e.2) = true := by simp; omega
        have hpl := preL_length (adrOf e.1) (bitsOf e.1)
        obtain ⟨i69, hi69, hz0, hz1, hz2⟩ := info_parts info69
        have h63 : (tickL now (L.take k)).length + 1 ≤ maxLen := by have := HL8.out; unfold maxLen; omega
        have hby : ((tickL now (L.take k)).length + 1) * 32 ≤ 140737488355328 := by have := HL8.out; omega
        have HH := Lib.hid h63; have HY := Lib.hid hby; clear h63 hby
        have HNOW := Lib.hid hnow; clear hnow
        go_wp2_with (first | (at_builtin; refine wpList_append_own _ rfl _ _ 49 rfl w.heap.size 69 i69 _ 18 32 Try.underlying49 hi69 hz0 hz1 hz2 rfl (by decide) _ _ _ rfl (own_belowE HO.out ((Below.refl _ _).alloc (Nat.le_refl _) _)) ⟨wr.heap.size, 0, none⟩ 1 1 (preL (adrOf e.1) (bitsOf e.1) ++ [Value.int .u64 (e.2 : Int)]) rfl (by simp [preL_length]) (newsT 69 rfl (adrOf e.1) (bitsOf e.1) e.2) (ent_one _ _ _) HH.out HY.out (by have := HSZ.out; simp; omega) ?_; intro v' w8 hown8 hgr8 hnil8) | (refine wpList_load_mid rfl 69 _ rfl g (k * 18) rfl (preL (adrOf e.1) (bitsOf e.1) ++ [Value.int .u64 (e.2 : Int)]) _ HRA.out Try.underlying69 rfl (size69 _ _ _) ?_))
        case roundEnd =>
          have hg8 : World.grownBy _ w8 u5.ownBlock := hgr8
          have hB8 : Below w.heap.size w w8 := (HB.out.alloc HSZ.out _).grown hg8 (by have := HSZ.out; simp; omega) (fun k hk => own_geE HO.out k hk)
          refine ⟨⟨k + 1, by omega, rfl, HV0.out.step hB8, ?_, hB8⟩, by simp [intOf]; omega⟩
          rw [HE1.out, if_pos HNOW.out, List.length_append, List.flatMap_append]
          have e2 : [e].flatMap encE = preL (adrOf e.1) (bitsOf e.1) ++ [Value.int .u64 (e.2 : Int)] := by simp [encE_pre]
          rw [e2]; exact hown8
      · have tt : decide ((now : Int) < e.2) = false := by simp; omega
        have HNOW := Lib.hid hnow; clear hnow
        go_wp2_with fail
        case roundEnd =>
          refine ⟨⟨k + 1, by omega, rfl, HV.out, ?_, HB.out⟩, by simp [intOf]; omega⟩
          rw [HE1.out, if_neg HNOW.out, List.append_nil]; exact HO.out
    · obtain rfl : k = L.length := by omega
      rw [List.take_length] at IO
      obtain ⟨p', cap', hv, hR⟩ := rowV_of_own IO
      have hle : (tickL now L).length ≤ L.length := List.length_filter_le _ _
      subst hv
      have hfz := frozen_blk IV.h 0
      have HR := Lib.hid hR; have HB := Lib.hid IB
      clear IV IO IB hR
      have hw : IntKind.i64.wrap ((L.length : Int) - (tickL now L).length) = ((L.length - (tickL now L).length : Nat) : Int) := by
        rw [show (L.length : Int) - (tickL now L).length = ((L.length - (tickL now L).length : Nat) : Int) from by omega]
        exact wrap_small (by omega)
      go_wp2_with fail
      go_ret
      refine ⟨?_, ref_turned HV0.out HB.out HR.out hbase⟩
      show Ending.returned (Value.int .i64 _) = _
      first | rfl | (congr 2; omega)
end Go.Proofs.Ytkhbchgocilclaa
