/- Several texts in one: FA, FB. No condition beyond those that each part names. -/
import Derived.Test.YtjldcblklbikaaaTwins8
import Derived.Test.YtjldcblklbikaaaGet
import Derived.Handy
import Derived.Test.YtjldcblklbikaaaPlainP
import Derived.Laws.IdiomCopy
import Derived.Deep.MidRow
/- A part's places: from, to, may: the walks. No condition but that the body is shorter than a thousand million bytes. (Printed by gFA.py.) -/
namespace Go.Proofs.Ytjldcblklbikaaa
open Go.RowKit
set_option linter.unusedVariables false
set_option linter.unusedSimpArgs false
/-- a packet's cells -/
def pkL (x : Pk) (A : Option Addr) (c : Nat) : List Value := row8 x.src ++ (row8 x.dst ++ [.int .u8 (x.hops : Int), .bool x.alert, .bool x.is, .int .u32 (x.id : Int), .int .u16 (x.off : Int), .bool x.more, .int .u8 (x.next : Int), .slice A x.body.length c])
structure PkOk (x : Pk) : Prop where
  src : x.src.length = 16
  dst : x.dst.length = 16
  src8 : ∀ y ∈ x.src, y < 256
  dst8 : ∀ y ∈ x.dst, y < 256
  hops : x.hops < 256
  id : x.id < 4294967296
  off : x.off < 65536
  next : x.next < 256
  body8 : ∀ y ∈ x.body, y < 256
/-- P are a packet's cells -/
structure PkAt (P : List Value) (x : Pk) (A : Option Addr) (c : Nat) : Prop where
  eq : P = pkL x A c
  ok : PkOk x
theorem PkAt.len {P : List Value} {x : Pk} {A : Option Addr} {c : Nat} (h : PkAt P x A c) : P.length = 40 := by
  rw [h.eq]; simp [pkL, row8_length, h.ok.src, h.ok.dst]
theorem PkAt.tail {P : List Value} {x : Pk} {A : Option Addr} {c : Nat} (h : PkAt P x A c) (j : Nat) : P[32 + j]? = ([.int .u8 (x.hops : Int), .bool x.alert, .bool x.is, .int .u32 (x.id : Int), .int .u16 (x.off : Int), .bool x.more, .int .u8 (x.next : Int), .slice A x.body.length c] : List Value)[j]? := by
  rw [h.eq]
  unfold pkL
  rw [List.getElem?_append_right (by rw [row8_length, h.ok.src]; omega), row8_length, h.ok.src, List.getElem?_append_right (by rw [row8_length, h.ok.dst]; omega), row8_length, h.ok.dst]
  congr 1; omega
theorem PkAt.one {P : List Value} {x : Pk} {A : Option Addr} {c : Nat} (h : PkAt P x A c) : ∀ v ∈ P, v.oneCell' = true := by
  intro v hv
  rw [h.eq] at hv
  unfold pkL at hv
  rcases List.mem_append.1 hv with hv | hv
  · exact row8_one _ v hv
  rcases List.mem_append.1 hv with hv | hv
  · exact row8_one _ v hv
  · simp only [List.mem_cons, List.not_mem_nil, or_false] at hv
    rcases hv with rfl | rfl | rfl | rfl | rfl | rfl | rfl | rfl <;> rfl
theorem row_of {W : World} {p T : Nat} {P : List Value} (h : W.heap[p]? = some (.cells P.toArray T (0, 0))) : W.rangeAt p 0 P := fun j v hj => by
  rw [Nat.zero_add, cell_blk h]; simpa using hj
theorem box_cell {W : World} {p T : Nat} {P : List Value} (h : W.heap[p]? = some (.cells P.toArray T (0, 0))) {k : Nat} {v : Value} (hv : P[k]? = some v) : W.cell? ⟨p, k, none⟩ = some v := by
  rw [cell_blk h]; simpa using hv
theorem size43 : (Try.prog.info? 43).map (·.size) = some 40 := by kernel_rfl
/-- a packet in a box -/
structure BoxAt (W : World) (p : Nat) (P : List Value) : Prop where
  blk : W.heap[p]? = some (.cells P.toArray 43 (0, 0))
theorem BoxAt.step {W W' : World} {p : Nat} {P : List Value} (h : BoxAt W p P) (hb : Below W.heap.size W W') : BoxAt W' p P := ⟨(hb.block _ (lt_of_blk h.blk)).trans h.blk⟩
def NatPost (m : Nat) (w : World) (e : Ending) (w' : World) : Prop := e = .returned (.int .i64 (m : Int)) ∧ Below w.heap.size w w'
set_option maxRecDepth 100000 in
set_option maxHeartbeats 400000 in
theorem from64 {P : List Value} {x : Pk} {A : Option Addr} {c : Nat} (w : World) (h : PkAt P x A c) :
    Calls Try.prog 64 #[.agg P.toArray] w (NatPost (frm x) w) := by
  have b := heap_alloc_new w (.cells P.toArray 43)
  have c36 := box_cell b (h.tail 4)
  have ho := h.ok.off
  obtain ⟨q, hq⟩ : ∃ q, q = x.off := ⟨_, rfl⟩
  rw [← hq] at c36 ho
  have HQ : Hid (frm x = q * 8) := Lib.hid (by unfold frm; rw [hq])
  have w1 : IntKind.i64.wrap (q : Int) = (q : Int) := i64_small (by omega)
  have w2 : IntKind.i64.wrap ((q : Int) * 8) = (q : Int) * 8 := by rw [show (q : Int) * 8 = ((q * 8 : Nat) : Int) by omega]; exact i64_small (by omega)
  clear h hq b
  go_enter Try.func64, Try.ntmps64
  go_wp2_with fail
  go_ret
  refine ⟨?_, (Below.refl _ _).alloc (Nat.le_refl _) _⟩
  rw [HQ.out, show ((q * 8 : Nat) : Int) = (q : Int) * 8 by omega]; rfl
set_option maxRecDepth 100000 in
set_option maxHeartbeats 400000 in
theorem to54 {P : List Value} {x : Pk} {A : Option Addr} {c : Nat} (w : World) (h : PkAt P x A c) (hl : x.body.length ≤ 1000000000) :
    Calls Try.prog 54 #[.agg P.toArray] w (NatPost (too x) w) := by
  have hb : BoxAt (w.alloc (.cells P.toArray 43)) w.heap.size P := ⟨heap_alloc_new w _⟩
  have hal : Below w.heap.size w (w.alloc (.cells P.toArray 43)) := (Below.refl _ _).alloc (Nat.le_refl _) _
  have H39 : Hid (P[39]? = some (.slice A x.body.length c)) := Lib.hid (h.tail 7)
  have HF := Lib.hid (fun W => from64 W h)
  have HLEN := Lib.hid h.len
  have HSZ := Lib.hid size43
  have hfr : frm x ≤ 524280 := by have := h.ok.off; unfold frm; omega
  obtain ⟨m, hm⟩ : ∃ m, m = x.body.length := ⟨_, rfl⟩
  obtain ⟨q, hq⟩ : ∃ q, q = frm x := ⟨_, rfl⟩
  have HT : Hid (too x = q + m) := Lib.hid (by unfold too; rw [hq, hm])
  rw [← hm] at H39 hl
  rw [← hq] at HF hfr
  obtain ⟨V, hV⟩ : ∃ V, V = w.alloc (.cells P.toArray 43) := ⟨_, rfl⟩
  obtain ⟨p, hp⟩ : ∃ p, p = w.heap.size := ⟨_, rfl⟩
  rw [← hV, ← hp] at hb
  rw [← hV] at hal
  have HB := Lib.hid hb; have HAL := Lib.hid hal
  have w2 : IntKind.i64.wrap ((q : Int) + m) = (q : Int) + m := by rw [show (q : Int) + m = ((q + m : Nat) : Int) by omega]; exact i64_small (by omega)
  clear h hm hq hb hal
  go_enter Try.func54, Try.ntmps54
  go_upto_region 1 with (fail)
  rw [← hV, ← hp]
  clear hV hp
  have hS : BoxAt V.drew p P := HB.out.step (Below.refl _ _).drew
  refine wp_region_held_drew (S := fun W => BoxAt W p P) (by kernel_rfl) hS ?_
  clear hS
  intro HS
  refine wpAnyH_take (i := 0) (v := .agg P.toArray) rfl (by kernel_rfl) (by kernel_rfl) (by kernel_rfl) (fun _ _ _ h => h) (by refine yieldsIf_load_mid ?hw 43 (.tmp 1) ?ho p 0 ?hx P _ (fun W hW => row_of hW.blk) Try.underlying43 rfl (by rw [HLEN.out]; exact HSZ.out); (case ho => rfl); (case hw => go_simp); (case hx => go_simp)) HS ?_
  try simp only [List.getElem_toArray, List.getElem_cons_zero, List.getElem_cons_succ, Act.put, List.setIfInBounds_toArray, List.set_cons_zero, List.set_cons_succ]
  refine wpAnyH_take (i := 2) (v := ?_) rfl (by kernel_rfl) (by kernel_rfl) (by kernel_rfl) (fun _ _ _ h => h) (Or.inl ⟨by go_simp, ?hy⟩) HS ?_
  case hy => intro W hW; go_simp; (try with_reducible rfl)
  try simp only [List.getElem_toArray, List.getElem_cons_zero, List.getElem_cons_succ, Act.put, List.setIfInBounds_toArray, List.set_cons_zero, List.set_cons_succ]
  refine wpAnyH_take (i := 3) (v := (.slice A m c)) rfl (by kernel_rfl) (by kernel_rfl) (by kernel_rfl) (fun _ _ _ h => h) (Or.inl ⟨by go_simp, fun W hW => by have d := box_cell hW.blk H39.out; go_simp⟩) HS ?_
  try simp only [List.getElem_toArray, List.getElem_cons_zero, List.getElem_cons_succ, Act.put, List.setIfInBounds_toArray, List.set_cons_zero, List.set_cons_succ]
  refine wpAnyH_take (i := 4) (v := (.int .i64 (m : Int))) rfl (by kernel_rfl) (by kernel_rfl) (by kernel_rfl) (fun _ _ _ h => h) (Or.inl ⟨by go_simp, fun W hW => by go_simp⟩) HS ?_
  try simp only [List.getElem_toArray, List.getElem_cons_zero, List.getElem_cons_succ, Act.put, List.setIfInBounds_toArray, List.set_cons_zero, List.set_cons_succ]
  refine wpAnyH_ready (rs := [1]) (by kernel_rfl) (by simp) ?_
  refine AllReadyH.cons rfl (fun K hK => ?_) AllReadyH.nil
  rw [if_pos (by kernel_rfl)]
  simp only [List.getElem_toArray, List.getElem_cons_zero, List.getElem_cons_succ]
  go_simp
  refine (HF.out _).mono ?_
  rintro e w2 ⟨rfl, hb⟩
  have HW : Hid (Below w.heap.size w w2) := Lib.hid (HAL.out.drew.trans (hb.mono HAL.out.size))
  go_simp
  refine hK.out _ _ (HS.step hb) (fun HS => ?_)
  clear hK hb
  try simp only [List.getElem_toArray, List.getElem_cons_zero, List.getElem_cons_succ, Act.put, List.setIfInBounds_toArray, List.set_cons_zero, List.set_cons_succ]
  refine wpAnyH_take (i := 5) (v := (.int .i64 ((q : Int) + m))) rfl (by kernel_rfl) (by kernel_rfl) (by kernel_rfl) (fun _ _ _ h => h) (Or.inl ⟨by go_simp, fun W hW => by go_simp⟩) HS ?_
  try simp only [List.getElem_toArray, List.getElem_cons_zero, List.getElem_cons_succ, Act.put, List.setIfInBounds_toArray, List.set_cons_zero, List.set_cons_succ]
  refine wpAnyH_take (i := 6) (v := (.int .i64 ((q : Int) + m))) rfl (by kernel_rfl) (by kernel_rfl) (by kernel_rfl) (fun _ _ _ h => h) (Or.inl ⟨by go_simp, fun W hW => by go_simp⟩) HS ?_
  try simp only [List.getElem_toArray, List.getElem_cons_zero, List.getElem_cons_succ, Act.put, List.setIfInBounds_toArray, List.set_cons_zero, List.set_cons_succ]
  refine wpAnyH_done (by kernel_rfl) ?_ _
  go_wp2_with fail
  go_ret
  refine ⟨?_, HW.out⟩
  rw [HT.out, show ((q + m : Nat) : Int) = (q : Int) + m by omega]; rfl
set_option maxRecDepth 100000 in
set_option maxHeartbeats 400000 in
theorem may36 {P : List Value} {x : Pk} {A : Option Addr} {c : Nat} (w : World) (h : PkAt P x A c) (hl : x.body.length ≤ 1000000000) :
    Calls Try.prog 36 #[.agg P.toArray] w fun e w' => e = .returned (.bool (mayB x)) ∧ Below w.heap.size w w' := by
  have hb : BoxAt (w.alloc (.cells P.toArray 43)) w.heap.size P := ⟨heap_alloc_new w _⟩
  have hal : Below w.heap.size w (w.alloc (.cells P.toArray 43)) := (Below.refl _ _).alloc (Nat.le_refl _) _
  have H39 : Hid (P[39]? = some (.slice A x.body.length c)) := Lib.hid (h.tail 7); have H37 : Hid (P[37]? = some (.bool x.more)) := Lib.hid (h.tail 5)
  have HF := Lib.hid (fun W => to54 W h hl)
  have HLEN := Lib.hid h.len
  have HSZ := Lib.hid size43
  obtain ⟨m, hm⟩ : ∃ m, m = x.body.length := ⟨_, rfl⟩
  obtain ⟨q, hq⟩ : ∃ q, q = too x := ⟨_, rfl⟩
  obtain ⟨mo, hmo⟩ : ∃ b, b = x.more := ⟨_, rfl⟩
  have HT : Hid (mayB x = (decide (q ≤ 16384) && (!mo || (decide (0 < m) && decide (m % 8 = 0))))) := Lib.hid (by unfold mayB; rw [hq, hm, hmo])
  rw [← hm] at H39 hl
  rw [← hmo] at H37
  rw [← hq] at HF
  obtain ⟨V, hV⟩ : ∃ V, V = w.alloc (.cells P.toArray 43) := ⟨_, rfl⟩
  obtain ⟨p, hp⟩ : ∃ p, p = w.heap.size := ⟨_, rfl⟩
  rw [← hV, ← hp] at hb
  rw [← hV] at hal
  have HB := Lib.hid hb; have HAL := Lib.hid hal
  clear h hm hq hb hal hmo
  go_enter Try.func36, Try.ntmps36
  go_upto_region 1 with (fail)
  rw [← hV, ← hp]
  clear hV hp
  go_wp2_with (first | (refine wpList_load_mid rfl 43 (.tmp 1) ?ho p 0 ?hx P _ ?hr Try.underlying43 rfl ?hi ?_; (case ho => with_reducible rfl); (case hx => rfl); (case hr => exact row_of HB.out.blk); (case hi => rw [HLEN.out]; exact HSZ.out)))
  refine (HF.out _).mono ?_
  rintro e w2 ⟨rfl, hb2⟩
  have HB2 := Lib.hid (HB.out.step hb2)
  have HW : Hid (Below w.heap.size w w2) := Lib.hid (HAL.out.trans (hb2.mono HAL.out.size))
  have c37 := box_cell HB2.out.blk H37.out
  have c39 := box_cell HB2.out.blk H39.out
  clear hb2
  by_cases h1 : q ≤ 16384
  · have t1 : (q : Int) ≤ 16384 := by omega
    have HT1 := Lib.hid (decide_eq_true h1)
    cases mo with
    | false =>
      go_wp2_with fail
      go_ret
      exact ⟨by rw [HT.out, HT1.out]; rfl, HW.out⟩
    | true =>
      by_cases h2 : 0 < m
      · have t2 : (0 : Int) < m := by omega
        have HT2 := Lib.hid (decide_eq_true h2)
        have e8 : (m : Int).tmod 8 = ((m % 8 : Nat) : Int) := rfl
        by_cases h3 : m % 8 = 0
        · have t3 : ((m : Int) % 8 == 0) = true := by rw [beq_iff_eq]; omega
          have HT3 := Lib.hid (decide_eq_true h3)
          clear h1 h2 h3 e8
          go_wp2_with fail
          go_ret
          exact ⟨by rw [HT.out, HT1.out, HT2.out, HT3.out]; rfl, HW.out⟩
        · have t3 : ((m : Int) % 8 == 0) = false := by rw [beq_eq_false_iff_ne]; omega
          have HT3 := Lib.hid (decide_eq_false h3)
          clear h1 h2 h3 e8
          go_wp2_with fail
          go_ret
          exact ⟨by rw [HT.out, HT1.out, HT2.out, HT3.out]; rfl, HW.out⟩
      · have t2 : ¬ (0 : Int) < m := by omega
        have HT2 := Lib.hid (decide_eq_false h2)
        clear h1 h2
        go_wp2_with fail
        go_ret
        exact ⟨by rw [HT.out, HT1.out, HT2.out]; rfl, HW.out⟩
  · have t1 : ¬ (q : Int) ≤ 16384 := by omega
    have HT1 := Lib.hid (decide_eq_false h1)
    clear h1
    go_wp2_with fail
    go_ret
    exact ⟨by rw [HT.out, HT1.out]; rfl, HW.out⟩
end Go.Proofs.Ytjldcblklbikaaa


/- Two parts: are they the same, do they clash: the walks. No condition but that the bodies are shorter than a thousand million bytes. (Printed by gFB.py.) -/
namespace Go.Proofs.Ytjldcblklbikaaa
open Go.RowKit
set_option linter.unusedVariables false
set_option linter.unusedSimpArgs false
theorem str_bs {W : World} {B c : Nat} {A : Option Addr} {l : List Nat} (h : Bs W B A c l) : (convert 41 9 (.slice A l.length c)).run Try.prog W = .ok (.string ⟨(l.map UInt8.ofNat).toArray⟩) W := by
  cases hl : l with
  | nil =>
    rw [List.length_nil, run_convert_bytes_string W 41 9 5 _ 0 c Try.underlying41 Try.underlying5 Try.underlying9]
    cases A <;> simp [Conv.bytesToString, loadCells]
    all_goals rfl
  | cons y ys =>
    rw [← hl]
    obtain ⟨b, o, rfl, _, hr⟩ := h.rd (by rw [hl]; exact List.cons_ne_nil _ _)
    have h1 := run_convert_bytes_arg (P := Try.prog) W 41 5 Try.underlying41 Try.underlying5 b o l.length c (l.map (fun x : Nat => (x : Int))) (by rw [List.length_map]) (fun i hi => by
      have e : l[i]? = some (l[i]'hi) := List.getElem?_eq_getElem _
      rw [hr i _ e, List.getD_eq_getElem?_getD, List.getElem?_map, e]
      rfl) 9 Try.underlying9
    have e : strOfNums (l.map (fun x : Nat => (x : Int))) = ⟨(l.map UInt8.ofNat).toArray⟩ := by
      unfold strOfNums
      rw [List.map_map]
      rfl
    rw [h1, e]
theorem ofNat_inj : ∀ {l m : List Nat}, (∀ x ∈ l, x < 256) → (∀ x ∈ m, x < 256) → l.map UInt8.ofNat = m.map UInt8.ofNat → l = m
  | [], [], _, _, _ => rfl
  | [], _ :: _, _, _, h => by simp at h
  | _ :: _, [], _, _, h => by simp at h
  | x :: l, y :: m, hl, hm, h => by
    simp only [List.map_cons, List.cons.injEq] at h
    have hx := hl x List.mem_cons_self
    have hy := hm y List.mem_cons_self
    have e : x = y := by
      have := congrArg UInt8.toNat h.1
      simp at this
      omega
    rw [e, ofNat_inj (fun z hz => hl z (List.mem_cons_of_mem _ hz)) (fun z hz => hm z (List.mem_cons_of_mem _ hz)) h.2]
theorem str_beq {l m : List Nat} (hl : ∀ x ∈ l, x < 256) (hm : ∀ x ∈ m, x < 256) : (l.map UInt8.ofNat == m.map UInt8.ofNat) = (l == m) := by
  by_cases e : l = m
  · subst e; simp
  · rw [show (l == m) = false by simpa using e]
    simp only [beq_eq_false_iff_ne]
    exact fun h => e (ofNat_inj hl hm h)
set_option maxRecDepth 100000 in
set_option maxHeartbeats 400000 in
theorem equal68 {A A2 : Option Addr} {c c2 B : Nat} {l m : List Nat} (w : World) (h : Bs w B A c l) (h2 : Bs w B A2 c2 m) (hl : ∀ x ∈ l, x < 256) (hm : ∀ x ∈ m, x < 256) :
    Calls Try.prog 68 #[.slice A l.length c, .slice A2 m.length c2] w fun e w' => e = .returned (.bool (l == m)) ∧ w = w' := by
  have k1 := str_bs h
  have k2 := str_bs h2
  have HQ := Lib.hid (str_beq hl hm)
  obtain ⟨n, hn⟩ : ∃ n, n = l.length := ⟨_, rfl⟩
  obtain ⟨p, hp⟩ : ∃ p, p = m.length := ⟨_, rfl⟩
  rw [← hn] at k1 ⊢
  rw [← hp] at k2 ⊢
  obtain ⟨s, hs⟩ : ∃ s, s = l.map UInt8.ofNat := ⟨_, rfl⟩
  obtain ⟨t, ht⟩ : ∃ t, t = m.map UInt8.ofNat := ⟨_, rfl⟩
  rw [← hs] at k1 HQ
  rw [← ht] at k2 HQ
  clear h h2 hl hm hn hp hs ht
  go_enter Try.func68, Try.ntmps68
  go_wp2_with fail
  go_ret
  refine ⟨?_, rfl⟩
  rw [← HQ.out]
  rfl
set_option maxRecDepth 100000 in
set_option maxHeartbeats 400000 in
theorem same56 {P Q : List Value} {x y : Pk} {A A2 : Option Addr} {c c2 : Nat} (w : World) (h : PkAt P x A c) (k : PkAt Q y A2 c2) (hb : Bs w w.heap.size A c x.body) (kb : Bs w w.heap.size A2 c2 y.body) :
    Calls Try.prog 56 #[.agg P.toArray, .agg Q.toArray] w fun e w' => e = .returned (.bool (sameB x y)) ∧ Below w.heap.size w w' := by
  obtain ⟨V, hV⟩ : ∃ V, V = (w.alloc (.cells P.toArray 43)).alloc (.cells Q.toArray 43) := ⟨_, rfl⟩
  have hal : Below w.heap.size w V := by rw [hV]; exact ((Below.refl _ _).alloc (Nat.le_refl _) _).alloc (by simp) _
  have b1 : V.heap[w.heap.size]? = some (.cells P.toArray 43 (0, 0)) := by rw [hV, heap_alloc_old _ _ (by simp), heap_alloc_new]
  have b2 : V.heap[w.heap.size + 1]? = some (.cells Q.toArray 43 (0, 0)) := by rw [hV, show w.heap.size + 1 = (w.alloc (.cells P.toArray 43)).heap.size by simp, heap_alloc_new]
  have c34 : V.cell? ⟨w.heap.size, 34, none⟩ = some (.bool x.is) := box_cell b1 (h.tail 2)
  have c35 : V.cell? ⟨w.heap.size, 35, none⟩ = some (.int .u32 (x.id : Int)) := box_cell b1 (h.tail 3)
  have c36 : V.cell? ⟨w.heap.size, 36, none⟩ = some (.int .u16 (x.off : Int)) := box_cell b1 (h.tail 4)
  have c37 : V.cell? ⟨w.heap.size, 37, none⟩ = some (.bool x.more) := box_cell b1 (h.tail 5)
  have c39 : V.cell? ⟨w.heap.size, 39, none⟩ = some (.slice A x.body.length c) := box_cell b1 (h.tail 7)
  have d34 : V.cell? ⟨w.heap.size + 1, 34, none⟩ = some (.bool y.is) := box_cell b2 (k.tail 2)
  have d35 : V.cell? ⟨w.heap.size + 1, 35, none⟩ = some (.int .u32 (y.id : Int)) := box_cell b2 (k.tail 3)
  have d36 : V.cell? ⟨w.heap.size + 1, 36, none⟩ = some (.int .u16 (y.off : Int)) := box_cell b2 (k.tail 4)
  have d37 : V.cell? ⟨w.heap.size + 1, 37, none⟩ = some (.bool y.more) := box_cell b2 (k.tail 5)
  have d39 : V.cell? ⟨w.heap.size + 1, 39, none⟩ = some (.slice A2 y.body.length c2) := box_cell b2 (k.tail 7)
  have HE := Lib.hid (equal68 V (hb.below hal) (kb.below hal) h.ok.body8 k.ok.body8)
  have HAL := Lib.hid hal
  obtain ⟨n, hn⟩ : ∃ n, n = x.body.length := ⟨_, rfl⟩
  obtain ⟨m, hm⟩ : ∃ m, m = y.body.length := ⟨_, rfl⟩
  rw [← hn] at HE c39
  rw [← hm] at HE d39
  obtain ⟨p, hp⟩ : ∃ p, p = w.heap.size := ⟨_, rfl⟩
  obtain ⟨q, hq⟩ : ∃ q, q = w.heap.size + 1 := ⟨_, rfl⟩
  rw [← hp] at c34 c35 c36 c37 c39
  rw [← hq] at d34 d35 d36 d37 d39
  obtain ⟨xi, hxi⟩ : ∃ b, b = x.is := ⟨_, rfl⟩
  obtain ⟨xd, hxd⟩ : ∃ b, b = x.id := ⟨_, rfl⟩
  obtain ⟨xo, hxo⟩ : ∃ b, b = x.off := ⟨_, rfl⟩
  obtain ⟨xm, hxm⟩ : ∃ b, b = x.more := ⟨_, rfl⟩
  obtain ⟨yi, hyi⟩ : ∃ b, b = y.is := ⟨_, rfl⟩
  obtain ⟨yd, hyd⟩ : ∃ b, b = y.id := ⟨_, rfl⟩
  obtain ⟨yo, hyo⟩ : ∃ b, b = y.off := ⟨_, rfl⟩
  obtain ⟨ym, hym⟩ : ∃ b, b = y.more := ⟨_, rfl⟩
  obtain ⟨bb, hbb⟩ : ∃ b, b = (x.body == y.body) := ⟨_, rfl⟩
  have HS : Hid (sameB x y = ((xi == yi && xd == yd && xo == yo && xm == ym) && bb)) := Lib.hid (by unfold sameB; rw [hxi, hxd, hxo, hxm, hyi, hyd, hyo, hym, hbb])
  rw [← hxi] at c34; rw [← hxd] at c35; rw [← hxo] at c36; rw [← hxm] at c37
  rw [← hyi] at d34; rw [← hyd] at d35; rw [← hyo] at d36; rw [← hym] at d37
  rw [← hbb] at HE
  clear h k hb kb hal b1 b2 hn hm hxi hxd hxo hxm hyi hyd hyo hym hbb
  go_enter Try.func56, Try.ntmps56
  go_upto_region 1 with (fail)
  rw [← hV, ← hq, ← hp]
  clear hV hp hq
  go_wp2_with fail
  · rename_i h1 h2 h3 h4 _ _
    refine (HE.out).mono ?_
    rintro e w2 ⟨rfl, rfl⟩
    go_wp2_with fail
    go_ret
    refine ⟨?_, HAL.out⟩
    rw [HS.out, show (xi == yi) = true by simpa using h1, show (xd == yd) = true by simpa using (by omega : xd = yd), show (xo == yo) = true by simpa using (by omega : xo = yo), show (xm == ym) = true by simpa using h4]
    rfl
  · rename_i h1 h2 h3 h4
    go_ret
    refine ⟨?_, HAL.out⟩
    rw [HS.out, show (xm == ym) = false by simpa using h4, Bool.and_false, Bool.false_and]
    rfl
  · rename_i h1 h2 h3
    go_ret
    refine ⟨?_, HAL.out⟩
    rw [HS.out, show (xo == yo) = false by simpa using (by omega : ¬ xo = yo), Bool.and_false, Bool.false_and, Bool.false_and]
    rfl
  · rename_i h1 h2
    go_ret
    refine ⟨?_, HAL.out⟩
    rw [HS.out, show (xd == yd) = false by simpa using (by omega : ¬ xd = yd), Bool.and_false, Bool.false_and, Bool.false_and, Bool.false_and]
    rfl
  · rename_i h1
    go_ret
    refine ⟨?_, HAL.out⟩
    rw [HS.out, show (xi == yi) = false by simpa using h1, Bool.false_and, Bool.false_and, Bool.false_and, Bool.false_and]
    rfl
end Go.Proofs.Ytjldcblklbikaaa

