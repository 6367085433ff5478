/- Several texts in one: RE, RF. No condition beyond those that each part names. -/
import Derived.Test.YtjldcblklbikaaaRA
import Derived.Test.YtjldcblklbikaaaFP
import Derived.StillTactics
/- The reference: is a part just another one; when the next datagram's time is over; which datagram has a part's name: the walks. No condition but those that are named. (Written out by exp.py.) -/
namespace Go.Proofs.Ytjldcblklbikaaa
open Go.RowKit
set_option linter.unusedVariables false
set_option linter.unusedSimpArgs false
set_option maxRecDepth 100000 in
set_option maxHeartbeats 800000 in
theorem again47 {P Q : List Value} {x y : Pk} {A A2 : Option Addr} {c c2 : Nat} (w : World) (h : PkAt P x A c) (k : PkAt Q y A2 c2) (hb : Bs w w.heap.size A c x.body) (kb : Bs w w.heap.size A2 c2 y.body) (hi : x.is = y.is) (hd : x.id = y.id) :
    Calls Try.prog 47 #[.agg P.toArray, .agg Q.toArray] w (BoolPost (sameB x y) w) := by
  obtain ⟨V, hV⟩ : ∃ V, V = (w.alloc (.cells P.toArray 43)).alloc (.cells Q.toArray 43) := ⟨_, rfl⟩
  have hal : Below w.heap.size w V := by rw [hV]; exact ((Below.refl _ _).alloc (Nat.le_refl _) _).alloc (by simp) _
  have b1 : V.heap[w.heap.size]? = some (.cells P.toArray 43 (0, 0)) := by rw [hV, heap_alloc_old _ _ (by simp), heap_alloc_new]
  have b2 : V.heap[w.heap.size + 1]? = some (.cells Q.toArray 43 (0, 0)) := by rw [hV, show w.heap.size + 1 = (w.alloc (.cells P.toArray 43)).heap.size by simp, heap_alloc_new]
  have c36 := box_cell b1 (h.tail 4)
  have c37 := box_cell b1 (h.tail 5)
  have c39 := box_cell b1 (h.tail 7)
  have e36 := box_cell b2 (k.tail 4)
  have e37 := box_cell b2 (k.tail 5)
  have e39 := box_cell b2 (k.tail 7)
  have k1 := str_bs (hb.below hal)
  have k2 := str_bs (kb.below hal)
  have HSQ := str_beq h.ok.body8 k.ok.body8
  have HS : Hid (sameB x y = ((x.off == y.off && x.more == y.more) && x.body.map UInt8.ofNat == y.body.map UInt8.ofNat)) := Lib.hid (by unfold sameB; rw [hi, hd, HSQ]; simp)
  obtain ⟨oa, hoa⟩ : ∃ o, o = x.off := ⟨_, rfl⟩
  obtain ⟨ob, hob⟩ : ∃ o, o = y.off := ⟨_, rfl⟩
  obtain ⟨ma, hma⟩ : ∃ o, o = x.more := ⟨_, rfl⟩
  obtain ⟨mb, hmb⟩ : ∃ o, o = y.more := ⟨_, rfl⟩
  obtain ⟨n, hn⟩ : ∃ n, n = x.body.length := ⟨_, rfl⟩
  obtain ⟨m, hm⟩ : ∃ n, n = y.body.length := ⟨_, rfl⟩
  obtain ⟨s, hs⟩ : ∃ s, s = x.body.map UInt8.ofNat := ⟨_, rfl⟩
  obtain ⟨t, ht⟩ : ∃ s, s = y.body.map UInt8.ofNat := ⟨_, rfl⟩
  rw [← hoa] at c36; rw [← hob] at e36; rw [← hma] at c37; rw [← hmb] at e37; rw [← hn] at c39 k1; rw [← hm] at e39 k2
  rw [← hs] at k1; rw [← ht] at k2
  rw [← hoa, ← hob, ← hma, ← hmb, ← hs, ← ht] at HS
  obtain ⟨p, hp⟩ : ∃ p, p = w.heap.size := ⟨_, rfl⟩
  obtain ⟨q, hq⟩ : ∃ q, q = w.heap.size + 1 := ⟨_, rfl⟩
  rw [← hp] at c36 c37 c39; rw [← hq] at e36 e37 e39
  have HAL := Lib.hid hal
  clear h k hb kb hi hd hal b1 b2 HSQ hoa hob hma hmb hn hm hs ht
  by_cases h1 : oa = ob
  · have t1 : ((oa : Int) == (ob : Int)) = true := by rw [beq_iff_eq]; omega
    cases ma <;> cases mb
    case false.true =>
      have HV : Hid (sameB x y = false) := Lib.hid (by rw [HS.out]; simp)
      clear h1 HS
      go_enter Try.func47, Try.ntmps47
      go_upto_region 1 with (fail)
      rw [← hV, ← hq, ← hp]
      clear hV hp hq
      go_wp2_with fail
      go_ret
      exact ⟨by rw [HV.out]; rfl, HAL.out⟩
    case true.false =>
      have HV : Hid (sameB x y = false) := Lib.hid (by rw [HS.out]; simp)
      clear h1 HS
      go_enter Try.func47, Try.ntmps47
      go_upto_region 1 with (fail)
      rw [← hV, ← hq, ← hp]
      clear hV hp hq
      go_wp2_with fail
      go_ret
      exact ⟨by rw [HV.out]; rfl, HAL.out⟩
    case false.false =>
      have HV : Hid (sameB x y = (s == t)) := Lib.hid (by rw [HS.out, h1]; simp)
      clear h1 HS
      go_enter Try.func47, Try.ntmps47
      go_upto_region 1 with (fail)
      rw [← hV, ← hq, ← hp]
      clear hV hp hq
      go_wp2_with fail
      go_ret
      exact ⟨by rw [HV.out]; rfl, HAL.out⟩
    case true.true =>
      have HV : Hid (sameB x y = (s == t)) := Lib.hid (by rw [HS.out, h1]; simp)
      clear h1 HS
      go_enter Try.func47, Try.ntmps47
      go_upto_region 1 with (fail)
      rw [← hV, ← hq, ← hp]
      clear hV hp hq
      go_wp2_with fail
      go_ret
      exact ⟨by rw [HV.out]; rfl, HAL.out⟩
  · have t1 : ((oa : Int) == (ob : Int)) = false := by rw [beq_eq_false_iff_ne]; omega
    have HV : Hid (sameB x y = false) := Lib.hid (by rw [HS.out]; simp [h1])
    clear h1 HS
    go_enter Try.func47, Try.ntmps47
    go_upto_region 1 with (fail)
    rw [← hV, ← hq, ← hp]
    clear hV hp hq
    go_wp2_with fail
    go_ret
    exact ⟨by rw [HV.out]; rfl, HAL.out⟩
end Go.Proofs.Ytjldcblklbikaaa

/- The reference's pool in memory; when the next datagram's time is over. No condition but that the pool is one. (Written out by exp.py.) -/
namespace Go.Proofs.Ytjldcblklbikaaa
open Go.RowKit
set_option linter.unusedVariables false
set_option linter.unusedSimpArgs false
/-- a datagram of the reference, in memory (the field blk tells nothing) -/
structure RgAt (w : World) (d : Dg) : Prop where
  src : d.src.length = 16
  dst : d.dst.length = 16
  src8 : ∀ y ∈ d.src, y < 256
  dst8 : ∀ y ∈ d.dst, y < 256
  id : d.id < 4294967296
  over : d.over < 18446744073709551616
  own : w.ownsRow 0 43 40 d.v d.L.length (d.L.flatMap El.cells)
  each : ∀ e ∈ d.L, PkOk e.pk ∧ BodyAt w e ∧ e.pk.body.length ≤ 1000000
  many : d.L.length ≤ 32
structure RefAt (w : World) (mb : Nat) (rv : Value) (R : List Dg) : Prop where
  blk : w.heap[mb]? = some (.cells #[rv] 30 (0, 0))
  row : w.ownsRow 0 81 36 rv R.length (R.flatMap Dg.cells)
  each : ∀ d ∈ R, RgAt w d
  rows : R.Pairwise fun a b => a.v.ownBlock = none ∨ a.v.ownBlock ≠ b.v.ownBlock
  four : R.length ≤ 4
theorem RgAt.len {w : World} {d : Dg} (h : RgAt w d) : d.cells.length = 36 := by simp [Dg.cells, nmL_length h.src h.dst]
theorem RgAt.tail {w : World} {d : Dg} (h : RgAt w d) (j : Nat) : d.cells[33 + j]? = ([.int .u64 (d.over : Int), .bool d.bad, d.v] : List Value)[j]? := by
  unfold Dg.cells
  rw [List.getElem?_append_right (by rw [nmL_length h.src h.dst]; omega), nmL_length h.src h.dst]
  congr 1; omega
theorem RgAt.keep {w w' : World} {d : Dg} (h : RgAt w d) (hk : ∀ k, d.v.ownBlock = some k ∨ d.bods k → w'.heap[k]? = w.heap[k]?) (hs : w.heap.size ≤ w'.heap.size) : RgAt w' d :=
  ⟨h.src, h.dst, h.src8, h.dst8, h.id, h.over, own_keep h.own (fun k e => hk k (.inl e)), fun e he => ⟨(h.each e he).1, (h.each e he).2.1.keep (fun g hg => hk g (.inr ⟨e, he, hg⟩)) hs, (h.each e he).2.2⟩, h.many⟩
theorem flat_get {n : Nat} {α : Type} {f : α → List Value} : ∀ (M : List α), (∀ e ∈ M, (f e).length = n) → ∀ (k : Nat) (e : α), M[k]? = some e → ∀ j v, (f e)[j]? = some v → (M.flatMap f)[k * n + j]? = some v
  | [], _, k, e, hk, _, _, _ => by simp at hk
  | m :: M, hM, k, e, hk, j, v, hj => by
    rw [List.flatMap_cons]
    cases k with
    | zero =>
      simp at hk; subst hk
      rw [Nat.zero_mul, Nat.zero_add, List.getElem?_append_left (List.getElem?_eq_some_iff.1 hj).1]; exact hj
    | succ k =>
      have h40 := hM m List.mem_cons_self
      rw [List.getElem?_append_right (by rw [h40, Nat.add_mul, Nat.one_mul]; omega), h40, show (k + 1) * n + j - n = k * n + j by rw [Nat.add_mul, Nat.one_mul]; omega]
      exact flat_get M (fun e he => hM e (List.mem_cons_of_mem _ he)) k e (by simpa using hk) j v hj
/-- a row of one's own reads -/
theorem own_reads_at {w : World} {B e n s : Nat} {α : Type} {f : α → List Value} {v : Value} {M : List α} (h : w.ownsRow B e s v M.length (M.flatMap f)) (hf : ∀ x ∈ M, (f x).length = s) :
    ∃ A c, v = .slice A M.length c ∧ (M ≠ [] → ∃ g, A = some ⟨g, 0, none⟩ ∧ v.ownBlock = some g ∧ g < w.heap.size ∧ ∀ k x, M[k]? = some x → w.rangeAt g (k * s) (f x)) := by
  rcases h.2 with ⟨rfl, hl⟩ | ⟨g, cap, cur, rfl, hb, hg, hn, hx, hs, ht⟩
  · exact ⟨none, 0, by rw [hl], fun hne => absurd (List.length_eq_zero_iff.1 hl) hne⟩
  · refine ⟨_, _, rfl, fun _ => ⟨g, rfl, rfl, lt_of_blk hg, fun k e hk j v hj => ?_⟩⟩
    have h1 := flat_get M hf k e hk j v hj
    rw [← ht, List.getElem?_take] at h1
    split at h1
    · rw [cell_blk hg]; simpa using h1
    · cases h1
theorem RefAt.gets {w : World} {mb : Nat} {rv : Value} {R : List Dg} (h : RefAt w mb rv R) : ∃ A c, rv = .slice A R.length c ∧ (R ≠ [] → ∃ g, A = some ⟨g, 0, none⟩ ∧ rv.ownBlock = some g ∧ g < w.heap.size ∧ ∀ k d, R[k]? = some d → w.rangeAt g (k * 36) d.cells) :=
  own_reads_at (n := 0) h.row (fun d hd => (h.each d hd).len)
theorem RgAt.kdv {w : World} {d : Dg} (h : RgAt w d) {i : Nat} (hi : d.v.ownBlock = some i) : Kd w i 43 := by
  obtain ⟨cur, hc⟩ := own_type h.own hi
  exact ⟨_, _, hc⟩
theorem RgAt.kdo {w : World} {d : Dg} (h : RgAt w d) {i : Nat} (hi : d.bods i) : Kd w i 5 := by
  obtain ⟨e, he, h2⟩ := hi
  obtain ⟨cur, hc⟩ := body_type (h.each e he).2.1 h2
  exact ⟨_, _, hc⟩
theorem RefAt.kdr {w : World} {mb : Nat} {rv : Value} {R : List Dg} (h : RefAt w mb rv R) {i : Nat} (hi : rv.ownBlock = some i) : Kd w i 81 := by
  obtain ⟨cur, hc⟩ := own_type h.row hi
  exact ⟨_, _, hc⟩
theorem RefAt.kdm {w : World} {mb : Nat} {rv : Value} {R : List Dg} (h : RefAt w mb rv R) : Kd w mb 30 := ⟨_, _, h.blk⟩
/-- the blocks of a reference's pool -/
def rfoot (mb : Nat) (rv : Value) (R : List Dg) (k : Nat) : Prop := k = mb ∨ rv.ownBlock = some k ∨ ∃ d ∈ R, d.v.ownBlock = some k
theorem RefAt.keep {w w' : World} {mb : Nat} {rv : Value} {R : List Dg} (h : RefAt w mb rv R) (hk : ∀ k, rfoot mb rv R k ∨ bods R k → w'.heap[k]? = w.heap[k]?) (hs : w.heap.size ≤ w'.heap.size) : RefAt w' mb rv R :=
  ⟨(hk mb (.inl (.inl rfl))).trans h.blk, own_keep h.row (fun k e => hk k (.inl (.inr (.inl e)))), fun d hd => (h.each d hd).keep (fun k e => hk k (e.imp (fun f => .inr (.inr ⟨d, hd, f⟩)) (fun f => ⟨d, hd, f⟩))) hs, h.rows, h.four⟩
theorem RefAt.lt {w : World} {mb : Nat} {rv : Value} {R : List Dg} (h : RefAt w mb rv R) {k : Nat} (hk : rfoot mb rv R k ∨ bods R k) : k < w.heap.size := by
  rcases hk with (rfl | hk | ⟨d, hd, hk⟩) | ⟨d, hd, e, he, hk⟩
  · exact lt_of_blk h.blk
  · exact own_lt h.row hk
  · exact own_lt (h.each d hd).own hk
  · exact ((h.each d hd).each e he).2.1.lt hk
theorem RefAt.below {w w' : World} {mb : Nat} {rv : Value} {R : List Dg} (h : RefAt w mb rv R) (hb : Below w.heap.size w w') : RefAt w' mb rv R := h.keep (fun k hk => hb.block k (h.lt hk)) hb.size
set_option maxRecDepth 100000 in
set_option maxHeartbeats 400000 in
theorem next22 {mb : Nat} {rv : Value} {R : List Dg} (w : World) (h : RefAt w mb rv R) :
    Calls Try.prog 22 #[.pointer (some ⟨mb, 0, none⟩)] w fun e w' => e = .returned (.int .u64 (nextN 9223372036854775807 (R.map (·.over)) : Int)) ∧ w = w' := by
  obtain ⟨A, c, rfl, hrow⟩ := h.gets
  have c0 : w.cell? ⟨mb, 0, none⟩ = some (.slice A R.length c) := by rw [cell_blk h.blk]; rfl
  have HROW := Lib.hid hrow
  have HD := Lib.hid h.each
  have hm := h.four
  obtain ⟨n, hn⟩ : ∃ n, R.length = n := ⟨_, rfl⟩
  have HN := Lib.hid hn
  rw [hn] at c0 hm
  clear h hrow hn
  go_enter Try.func22, Try.ntmps22
  go_wp2_with fail
  go_loopw [3, 4] (fun z i wr => ∃ k : Nat, k ≤ n ∧ i = .int .i64 k ∧ z = .int .u64 (nextN 9223372036854775807 ((R.map (·.over)).take k) : Int) ∧ w = wr) (fun _ i _ => n - (intOf i).toNat)
  case atStart => exact ⟨0, Nat.zero_le _, rfl, rfl, rfl⟩
  case round =>
    obtain ⟨k, hk, rfl, rfl, rfl⟩ := hrel
    by_cases hlt : k < n
    · obtain ⟨x, hx⟩ : ∃ x, R[k]? = some x := ⟨R[k]'(by rw [HN.out]; exact hlt), List.getElem?_eq_getElem _⟩
      obtain ⟨g, rfl, -, hg, hc⟩ := HROW.out (by rintro rfl; simp at hx)
      have c1 := hc k x hx
      have c2 := c1 33 _ (RgAt.tail (HD.out x (List.mem_of_getElem? hx)) 0)
      have HE := Lib.hid (nextN_take (m := 9223372036854775807) (l := R.map (·.over)) (k := k) (x := x.over) (by rw [List.getElem?_map, hx]; rfl))
      obtain ⟨o, ho⟩ : ∃ o, o = x.over := ⟨_, rfl⟩
      rw [← ho] at c2 HE
      obtain ⟨m, hmm⟩ : ∃ m, m = nextN 9223372036854775807 ((R.map (·.over)).take k) := ⟨_, rfl⟩
      rw [← hmm] at HE ⊢
      clear hx hc ho hmm hg c1
      by_cases hlo : o < m
      · have t : (o : Int) < (m : Int) := by omega
        have HE2 := Lib.hid (HE.out.trans (Nat.min_eq_right (by omega)))
        clear hlo
        go_wp2_with fail
        go_roundw
        case rel => exact ⟨k + 1, by omega, by go_num, by rw [HE2.out]; first | rfl | (congr 1; omega), (by first | trivial | rfl)⟩
        case measure => simp [intOf]; omega
      · have t : ¬ ((o : Int) < (m : Int)) := by omega
        have HE2 := Lib.hid (HE.out.trans (Nat.min_eq_left (by omega)))
        clear hlo
        go_wp2_with fail
        go_roundw
        case rel => exact ⟨k + 1, by omega, by go_num, by rw [HE2.out]; first | rfl | (congr 1; omega), (by first | trivial | rfl)⟩
        case measure => simp [intOf]; omega
    · obtain rfl : k = n := by omega
      have HA : Hid ((R.map (·.over)).take k = R.map (·.over)) := Lib.hid (List.take_of_length_le (by rw [List.length_map, HN.out]; omega))
      rw [HA.out]
      clear hlt
      go_wp2_with fail
      go_ret
      exact ⟨rfl, rfl⟩
end Go.Proofs.Ytjldcblklbikaaa
