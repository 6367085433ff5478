/- Several texts in one: FD, FE. No condition beyond those that each part names. -/
import Derived.Test.YtjldcblklbikaaaFC
import Derived.Stop.BytesEq
import Derived.Handy
/- Packets that read; is there one that ..: the walks. No condition but that the packets read. -/
namespace Go.Proofs.Ytjldcblklbikaaa
open Go.RowKit
set_option linter.unusedVariables false
set_option linter.unusedSimpArgs false
/-- a packet and where its body lies -/
structure El where
  pk : Pk
  adr : Option Addr
  cap : Nat
def El.cells (e : El) : List Value := pkL e.pk e.adr e.cap
/-- a slice of packets that reads, its bodies too -/
structure PksRd (w : World) (B : Nat) (A : Option Addr) (L : List El) : Prop where
  many : L.length ≤ 100000
  each : ∀ e ∈ L, PkOk e.pk ∧ Bs w B e.adr e.cap e.pk.body ∧ e.pk.body.length ≤ 1000000
  at_ : L ≠ [] → ∃ b o, A = some ⟨b, o, none⟩ ∧ b < B ∧ ∀ k e, L[k]? = some e → w.rangeAt b (o + k * 40) e.cells
theorem range_below {B : Nat} {w w' : World} {b o : Nat} {l : List Value} (h : w.rangeAt b o l) (hb : b < B) (hB : Below B w w') : w'.rangeAt b o l := fun j v hj => (hB.cell (p := ⟨b, o + j, none⟩) hb).trans (h j v hj)
theorem PksRd.below {w w' : World} {B : Nat} {A : Option Addr} {L : List El} (h : PksRd w B A L) (hb : Below B w w') : PksRd w' B A L where
  many := h.many
  each := fun e he => ⟨(h.each e he).1, (h.each e he).2.1.below hb, (h.each e he).2.2⟩
  at_ := fun hL => by
    obtain ⟨b, o, hA, hlt, hr⟩ := h.at_ hL
    exact ⟨b, o, hA, hlt, fun k e hk => range_below (hr k e hk) hlt hb⟩
theorem PksRd.mono {w : World} {B C : Nat} {A : Option Addr} {L : List El} (h : PksRd w B A L) (hB : B ≤ C) : PksRd w C A L where
  many := h.many
  each := fun e he => ⟨(h.each e he).1, (h.each e he).2.1.mono hB, (h.each e he).2.2⟩
  at_ := fun hL => by
    obtain ⟨b, o, hA, hlt, hr⟩ := h.at_ hL
    exact ⟨b, o, hA, by omega, hr⟩
theorem El.at_ {e : El} (h : PkOk e.pk) : PkAt e.cells e.pk e.adr e.cap := ⟨rfl, h⟩
set_option maxRecDepth 100000 in
set_option maxHeartbeats 400000 in
theorem clos55 {P Q : List Value} {x y : Pk} {A A2 : Option Addr} {c c2 p : Nat} (w : World) (h : PkAt P x A c) (k : PkAt Q y A2 c2) (hb : Bs w w.heap.size A c x.body) (kb : Bs w w.heap.size A2 c2 y.body) (hp : BoxAt w p Q) :
    Calls Try.prog 55 #[.agg P.toArray, .pointer (some ⟨p, 0, none⟩)] w (BoolPost (sameB x y) w) := by
  have hal : Below w.heap.size w (w.alloc (.cells P.toArray 43)) := (Below.refl _ _).alloc (Nat.le_refl _) _
  have HW := Lib.hid (same56 _ h k ((hb.below hal).mono hal.size) ((kb.below hal).mono hal.size))
  have HP := Lib.hid (row_of (hp.step hal).blk)
  have HP0 := Lib.hid (row_of (heap_alloc_new w (.cells P.toArray 43)))
  have HLEN := Lib.hid h.len
  have HLENQ := Lib.hid k.len
  have HSZ := Lib.hid size43
  have HAL := Lib.hid hal
  obtain ⟨V, hV⟩ : ∃ V, V = w.alloc (.cells P.toArray 43) := ⟨_, rfl⟩
  obtain ⟨q, hq⟩ : ∃ p, p = w.heap.size := ⟨_, rfl⟩
  rw [← hV] at HW HP HP0 HAL
  rw [← hq] at HP0
  clear h k hb kb hp hal
  go_enter Try.func55, Try.ntmps55
  go_upto_region 1 with (fail)
  rw [← hV, ← hq]
  clear hV hq
  go_wp2_with (first | (refine wpList_load_mid rfl 43 (.tmp 2) ?ho q 0 ?hx P _ ?hr Try.underlying43 rfl ?hi ?_; (case ho => with_reducible rfl); (case hx => rfl); (case hr => exact HP0.out); (case hi => rw [HLEN.out]; exact HSZ.out)) | (refine wpList_load_mid rfl 43 (.tmp 1) ?ho p 0 ?hx Q _ ?hr Try.underlying43 rfl ?hi ?_; (case ho => with_reducible rfl); (case hx => rfl); (case hr => exact HP.out); (case hi => rw [HLENQ.out]; exact HSZ.out)))
  refine (HW.out).mono ?_
  rintro e w2 ⟨rfl, hb2⟩
  have HB2 : Hid (Below w.heap.size w w2) := Lib.hid (HAL.out.trans (hb2.mono HAL.out.size))
  clear hb2
  go_wp2_with fail
  go_ret
  exact ⟨rfl, HB2.out⟩
set_option maxRecDepth 100000 in
set_option maxHeartbeats 400000 in
theorem clos57 {P Q : List Value} {x y : Pk} {A A2 : Option Addr} {c c2 p : Nat} (w : World) (h : PkAt P x A c) (k : PkAt Q y A2 c2) (hl : x.body.length ≤ 1000000000) (kl : y.body.length ≤ 1000000000) (hp : BoxAt w p Q) :
    Calls Try.prog 57 #[.agg P.toArray, .pointer (some ⟨p, 0, none⟩)] w (BoolPost (clashB x y) w) := by
  have hal : Below w.heap.size w (w.alloc (.cells P.toArray 43)) := (Below.refl _ _).alloc (Nat.le_refl _) _
  have HW := Lib.hid (clash58 (w.alloc (.cells P.toArray 43)) h k hl kl)
  have HP := Lib.hid (row_of (hp.step hal).blk)
  have HP0 := Lib.hid (row_of (heap_alloc_new w (.cells P.toArray 43)))
  have HLEN := Lib.hid h.len
  have HLENQ := Lib.hid k.len
  have HSZ := Lib.hid size43
  have HAL := Lib.hid hal
  obtain ⟨V, hV⟩ : ∃ V, V = w.alloc (.cells P.toArray 43) := ⟨_, rfl⟩
  obtain ⟨q, hq⟩ : ∃ p, p = w.heap.size := ⟨_, rfl⟩
  rw [← hV] at HW HP HP0 HAL
  rw [← hq] at HP0
  clear h k hl kl hp hal
  go_enter Try.func57, Try.ntmps57
  go_upto_region 1 with (fail)
  rw [← hV, ← hq]
  clear hV hq
  go_wp2_with (first | (refine wpList_load_mid rfl 43 (.tmp 2) ?ho q 0 ?hx P _ ?hr Try.underlying43 rfl ?hi ?_; (case ho => with_reducible rfl); (case hx => rfl); (case hr => exact HP0.out); (case hi => rw [HLEN.out]; exact HSZ.out)) | (refine wpList_load_mid rfl 43 (.tmp 1) ?ho p 0 ?hx Q _ ?hr Try.underlying43 rfl ?hi ?_; (case ho => with_reducible rfl); (case hx => rfl); (case hr => exact HP.out); (case hi => rw [HLENQ.out]; exact HSZ.out)))
  refine (HW.out).mono ?_
  rintro e w2 ⟨rfl, hb2⟩
  have HB2 : Hid (Below w.heap.size w w2) := Lib.hid (HAL.out.trans (hb2.mono HAL.out.size))
  clear hb2
  go_wp2_with fail
  go_ret
  exact ⟨rfl, HB2.out⟩
/-- the first that is told of, or none is -/
def FirstB (L : List El) (t : El → Bool) (r : Option Nat) : Prop := match r with
  | none => ∀ x ∈ L, t x = false
  | some k => ∃ x, L[k]? = some x ∧ t x = true ∧ ∀ j y, j < k → L[j]? = some y → t y = false
def numK (r : Option Nat) : Int := match r with
  | none => -1
  | some k => (k : Int)
theorem FirstB.any {L : List El} {t : El → Bool} {r : Option Nat} (h : FirstB L t r) : decide (0 ≤ numK r) = L.any t := by
  cases r with
  | none =>
    have e : L.any t = false := by
      rw [List.any_eq_false]
      intro x hx; rw [h x hx]; simp
    rw [e]; rfl
  | some k =>
    obtain ⟨x, hx, ht, -⟩ := h
    rw [List.any_eq_true.2 ⟨x, List.mem_of_getElem? hx, ht⟩]
    simp [numK]
def IdxPost (L : List El) (t : El → Bool) (w : World) (e : Ending) (w' : World) : Prop := ∃ r, FirstB L t r ∧ e = .returned (.int .i64 (numK r)) ∧ Below w.heap.size w w'
set_option maxRecDepth 100000 in
set_option maxHeartbeats 1000000 in
theorem idx29_55 {A : Option Addr} {c p B : Nat} {L : List El} {t : El → Bool} (w : World) (h : PksRd w B A L) (hB : B ≤ w.heap.size)
    (ht : ∀ (k : Nat) (e : El) (W : World), L[k]? = some e → Below w.heap.size w W → Calls Try.prog 55 #[.agg e.cells.toArray, .pointer (some ⟨p, 0, none⟩)] W (BoolPost (t e) W)) :
    Calls Try.prog 29 #[.slice A L.length c, .func (.func 55) #[] #[.pointer (some ⟨p, 0, none⟩)]] w (IdxPost L t w) := by
  obtain ⟨n, hn⟩ : ∃ n, L.length = n := ⟨_, rfl⟩
  have HN := Lib.hid hn
  have hm := h.many
  have HO := Lib.hid h
  have HT := Lib.hid ht
  have HSZ := Lib.hid size43
  rw [hn] at hm ⊢
  clear h hn ht
  go_enter Try.func29, Try.ntmps29
  go_wp2_with fail
  go_loopw [8] (fun i wr => ∃ k : Nat, k ≤ n ∧ i = .int .i64 k ∧ (∀ j y, j < k → L[j]? = some y → t y = false) ∧ Below w.heap.size w wr) (fun i _ => n - (intOf i).toNat)
  case atStart => exact ⟨0, Nat.zero_le _, rfl, fun j y hj => absurd hj (by omega), Below.refl _ _⟩
  case round =>
    obtain ⟨k, hk, rfl, hno, hW⟩ := hrel
    have HNO := Lib.hid hno
    clear hno
    by_cases hlt : k < n
    · obtain ⟨x, hx⟩ : ∃ x, L[k]? = some x := ⟨L[k]'(by rw [HN.out]; exact hlt), List.getElem?_eq_getElem _⟩
      have hO := HO.out.below (hW.mono hB)
      obtain ⟨b, o, rfl, hb, hc⟩ := hO.at_ (by rintro rfl; simp at hx)
      have HR := Lib.hid (hc k x hx)
      have HC := Lib.hid (HT.out k x wr hx hW)
      have HX := Lib.hid hx
      have HW := Lib.hid hW
      have hsz := hW.size
      have HLEN := Lib.hid (El.at_ (hO.each x (List.mem_of_getElem? hx)).1).len
      obtain ⟨P, hP⟩ : ∃ P, P = x.cells := ⟨_, rfl⟩
      rw [← hP] at HR HC HLEN
      clear hx hO hc hW hP
      cases htx : t x with
      | true =>
        rw [htx] at HC
        have HTX := Lib.hid htx
        clear htx
        go_wp2_with (first | (refine wpList_load_mid rfl 43 (.tmp 14) ?ho b (o + k * 40) ?hx P _ ?hr Try.underlying43 rfl ?hi ?_; (case ho => with_reducible rfl); (case hx => rfl); (case hr => exact HR.out); (case hi => rw [HLEN.out]; exact HSZ.out)))
        refine (HC.out).mono ?_
        rintro e w1 ⟨rfl, hb1⟩
        have HB1 := Lib.hid (HW.out.trans (hb1.mono hsz))
        clear hb1 HC
        go_wp2_with fail
        go_ret
        exact ⟨some k, ⟨x, HX.out, HTX.out, HNO.out⟩, rfl, HB1.out⟩
      | false =>
        rw [htx] at HC
        have HNX : Hid (∀ j y, j < k + 1 → L[j]? = some y → t y = false) := Lib.hid (by
          intro j y hj hy
          rcases Nat.lt_or_ge j k with h1 | h1
          · exact HNO.out j y h1 hy
          · obtain rfl : j = k := by omega
            have := HX.out
            rw [hy] at this
            cases this
            exact htx)
        clear htx
        go_wp2_with (first | (refine wpList_load_mid rfl 43 (.tmp 14) ?ho b (o + k * 40) ?hx P _ ?hr Try.underlying43 rfl ?hi ?_; (case ho => with_reducible rfl); (case hx => rfl); (case hr => exact HR.out); (case hi => rw [HLEN.out]; exact HSZ.out)))
        refine (HC.out).mono ?_
        rintro e w1 ⟨rfl, hb1⟩
        have HB1 := Lib.hid (HW.out.trans (hb1.mono hsz))
        clear hb1 HC
        go_wp2_with fail
        go_roundw
        case rel => exact ⟨k + 1, by omega, by go_num, HNX.out, HB1.out⟩
        case measure => simp [intOf]; omega
    · obtain rfl : k = n := by omega
      clear hlt
      have HW := Lib.hid hW
      clear hW
      go_wp2_with fail
      go_ret
      refine ⟨none, fun x hx => ?_, rfl, HW.out⟩
      obtain ⟨j, hj⟩ := List.getElem?_of_mem hx
      exact HNO.out j x (by rw [← HN.out]; exact (List.getElem?_eq_some_iff.1 hj).1) hj
set_option maxRecDepth 100000 in
set_option maxHeartbeats 1000000 in
theorem has59_55 {A : Option Addr} {c p B : Nat} {L : List El} {t : El → Bool} (w : World) (h : PksRd w B A L) (hB : B ≤ w.heap.size)
    (ht : ∀ (k : Nat) (e : El) (W : World), L[k]? = some e → Below w.heap.size w W → Calls Try.prog 55 #[.agg e.cells.toArray, .pointer (some ⟨p, 0, none⟩)] W (BoolPost (t e) W)) :
    Calls Try.prog 59 #[.slice A L.length c, .func (.func 55) #[] #[.pointer (some ⟨p, 0, none⟩)]] w (BoolPost (L.any t) w) := by
  have HI := Lib.hid (idx29_55 (c := c) w h hB ht)
  obtain ⟨n, hn⟩ : ∃ n, L.length = n := ⟨_, rfl⟩
  rw [hn] at HI ⊢
  clear h ht hn
  go_enter Try.func59, Try.ntmps59
  go_wp2_with fail
  refine (HI.out).mono ?_
  rintro e w1 ⟨r, hr, rfl, hb1⟩
  have HE := Lib.hid hr.any
  have HB1 := Lib.hid hb1
  generalize numK r = z at *
  clear hb1 hr
  go_wp2_with fail
  go_ret
  exact ⟨by rw [← HE.out]; rfl, HB1.out⟩
set_option maxRecDepth 100000 in
set_option maxHeartbeats 1000000 in
theorem idx29_57 {A : Option Addr} {c p B : Nat} {L : List El} {t : El → Bool} (w : World) (h : PksRd w B A L) (hB : B ≤ w.heap.size)
    (ht : ∀ (k : Nat) (e : El) (W : World), L[k]? = some e → Below w.heap.size w W → Calls Try.prog 57 #[.agg e.cells.toArray, .pointer (some ⟨p, 0, none⟩)] W (BoolPost (t e) W)) :
    Calls Try.prog 29 #[.slice A L.length c, .func (.func 57) #[] #[.pointer (some ⟨p, 0, none⟩)]] w (IdxPost L t w) := by
  obtain ⟨n, hn⟩ : ∃ n, L.length = n := ⟨_, rfl⟩
  have HN := Lib.hid hn
  have hm := h.many
  have HO := Lib.hid h
  have HT := Lib.hid ht
  have HSZ := Lib.hid size43
  rw [hn] at hm ⊢
  clear h hn ht
  go_enter Try.func29, Try.ntmps29
  go_wp2_with fail
  go_loopw [8] (fun i wr => ∃ k : Nat, k ≤ n ∧ i = .int .i64 k ∧ (∀ j y, j < k → L[j]? = some y → t y = false) ∧ Below w.heap.size w wr) (fun i _ => n - (intOf i).toNat)
  case atStart => exact ⟨0, Nat.zero_le _, rfl, fun j y hj => absurd hj (by omega), Below.refl _ _⟩
  case round =>
    obtain ⟨k, hk, rfl, hno, hW⟩ := hrel
    have HNO := Lib.hid hno
    clear hno
    by_cases hlt : k < n
    · obtain ⟨x, hx⟩ : ∃ x, L[k]? = some x := ⟨L[k]'(by rw [HN.out]; exact hlt), List.getElem?_eq_getElem _⟩
      have hO := HO.out.below (hW.mono hB)
      obtain ⟨b, o, rfl, hb, hc⟩ := hO.at_ (by rintro rfl; simp at hx)
      have HR := Lib.hid (hc k x hx)
      have HC := Lib.hid (HT.out k x wr hx hW)
      have HX := Lib.hid hx
      have HW := Lib.hid hW
      have hsz := hW.size
      have HLEN := Lib.hid (El.at_ (hO.each x (List.mem_of_getElem? hx)).1).len
      obtain ⟨P, hP⟩ : ∃ P, P = x.cells := ⟨_, rfl⟩
      rw [← hP] at HR HC HLEN
      clear hx hO hc hW hP
      cases htx : t x with
      | true =>
        rw [htx] at HC
        have HTX := Lib.hid htx
        clear htx
        go_wp2_with (first | (refine wpList_load_mid rfl 43 (.tmp 14) ?ho b (o + k * 40) ?hx P _ ?hr Try.underlying43 rfl ?hi ?_; (case ho => with_reducible rfl); (case hx => rfl); (case hr => exact HR.out); (case hi => rw [HLEN.out]; exact HSZ.out)))
        refine (HC.out).mono ?_
        rintro e w1 ⟨rfl, hb1⟩
        have HB1 := Lib.hid (HW.out.trans (hb1.mono hsz))
        clear hb1 HC
        go_wp2_with fail
        go_ret
        exact ⟨some k, ⟨x, HX.out, HTX.out, HNO.out⟩, rfl, HB1.out⟩
      | false =>
        rw [htx] at HC
        have HNX : Hid (∀ j y, j < k + 1 → L[j]? = some y → t y = false) := Lib.hid (by
          intro j y hj hy
          rcases Nat.lt_or_ge j k with h1 | h1
          · exact HNO.out j y h1 hy
          · obtain rfl : j = k := by omega
            have := HX.out
            rw [hy] at this
            cases this
            exact htx)
        clear htx
        go_wp2_with (first | (refine wpList_load_mid rfl 43 (.tmp 14) ?ho b (o + k * 40) ?hx P _ ?hr Try.underlying43 rfl ?hi ?_; (case ho => with_reducible rfl); (case hx => rfl); (case hr => exact HR.out); (case hi => rw [HLEN.out]; exact HSZ.out)))
        refine (HC.out).mono ?_
        rintro e w1 ⟨rfl, hb1⟩
        have HB1 := Lib.hid (HW.out.trans (hb1.mono hsz))
        clear hb1 HC
        go_wp2_with fail
        go_roundw
        case rel => exact ⟨k + 1, by omega, by go_num, HNX.out, HB1.out⟩
        case measure => simp [intOf]; omega
    · obtain rfl : k = n := by omega
      clear hlt
      have HW := Lib.hid hW
      clear hW
      go_wp2_with fail
      go_ret
      refine ⟨none, fun x hx => ?_, rfl, HW.out⟩
      obtain ⟨j, hj⟩ := List.getElem?_of_mem hx
      exact HNO.out j x (by rw [← HN.out]; exact (List.getElem?_eq_some_iff.1 hj).1) hj
set_option maxRecDepth 100000 in
set_option maxHeartbeats 1000000 in
theorem has59_57 {A : Option Addr} {c p B : Nat} {L : List El} {t : El → Bool} (w : World) (h : PksRd w B A L) (hB : B ≤ w.heap.size)
    (ht : ∀ (k : Nat) (e : El) (W : World), L[k]? = some e → Below w.heap.size w W → Calls Try.prog 57 #[.agg e.cells.toArray, .pointer (some ⟨p, 0, none⟩)] W (BoolPost (t e) W)) :
    Calls Try.prog 59 #[.slice A L.length c, .func (.func 57) #[] #[.pointer (some ⟨p, 0, none⟩)]] w (BoolPost (L.any t) w) := by
  have HI := Lib.hid (idx29_57 (c := c) w h hB ht)
  obtain ⟨n, hn⟩ : ∃ n, L.length = n := ⟨_, rfl⟩
  rw [hn] at HI ⊢
  clear h ht hn
  go_enter Try.func59, Try.ntmps59
  go_wp2_with fail
  refine (HI.out).mono ?_
  rintro e w1 ⟨r, hr, rfl, hb1⟩
  have HE := Lib.hid hr.any
  have HB1 := Lib.hid hb1
  generalize numK r = z at *
  clear hb1 hr
  go_wp2_with fail
  go_ret
  exact ⟨by rw [← HE.out]; rfl, HB1.out⟩
end Go.Proofs.Ytjldcblklbikaaa

/- Several texts in one: FE, FF, FG. No condition beyond those that each part names. -/
/- A part judged; a datagram spoilt; times added: the walks. No condition but that the parts read. -/
namespace Go.Proofs.Ytjldcblklbikaaa
open Go.RowKit
set_option linter.unusedVariables false
set_option linter.unusedSimpArgs false
def addU (a b : Nat) : Nat := if 9223372036854775807 < a ∨ 9223372036854775807 < b then 9223372036854775807 else if 9223372036854775807 - b < a then 9223372036854775807 else a + b
set_option maxRecDepth 100000 in
set_option maxHeartbeats 400000 in
theorem add38 {a b : Nat} (w : World) (ha : a < 18446744073709551616) (hb : b < 18446744073709551616) :
    Calls Try.prog 38 #[.int .u64 (a : Int), .int .u64 (b : Int)] w fun e w' => e = .returned (.int .u64 (addU a b : Int)) ∧ w = w' := by
  have HA := Lib.hid ha
  have HB := Lib.hid hb
  clear ha hb
  by_cases h1 : 9223372036854775807 < a
  · have t1 : (9223372036854775807 : Int) < a := by omega
    have HE : Hid (addU a b = 9223372036854775807) := Lib.hid (by unfold addU; rw [if_pos (Or.inl h1)])
    clear h1
    go_enter Try.func38, Try.ntmps38
    go_wp2_with fail
    go_ret
    exact ⟨by rw [HE.out]; rfl, rfl⟩
  · have t1 : ¬ ((9223372036854775807 : Int) < a) := by omega
    by_cases h2 : 9223372036854775807 < b
    · have t2 : (9223372036854775807 : Int) < b := by omega
      have HE : Hid (addU a b = 9223372036854775807) := Lib.hid (by unfold addU; rw [if_pos (Or.inr h2)])
      clear h1 h2
      go_enter Try.func38, Try.ntmps38
      go_wp2_with fail
      go_ret
      exact ⟨by rw [HE.out]; rfl, rfl⟩
    · have t2 : ¬ ((9223372036854775807 : Int) < b) := by omega
      have w1 : IntKind.u64.wrap (9223372036854775807 - (b : Int)) = 9223372036854775807 - (b : Int) := by
        rw [show (9223372036854775807 : Int) - b = ((9223372036854775807 - b : Nat) : Int) by omega]; exact u64_small (by omega)
      by_cases h3 : 9223372036854775807 - b < a
      · have t3 : (9223372036854775807 : Int) - b < a := by omega
        have HE : Hid (addU a b = 9223372036854775807) := Lib.hid (by unfold addU; rw [if_neg (by omega), if_pos h3])
        clear h1 h2 h3
        go_enter Try.func38, Try.ntmps38
        go_wp2_with fail
        go_ret
        exact ⟨by rw [HE.out]; rfl, rfl⟩
      · have t3 : ¬ ((9223372036854775807 : Int) - b < a) := by omega
        have HE : Hid (addU a b = a + b) := Lib.hid (by unfold addU; rw [if_neg (by omega), if_neg h3])
        have w2 : IntKind.u64.wrap ((a : Int) + b) = (a : Int) + b := by
          rw [show (a : Int) + b = ((a + b : Nat) : Int) by omega]; exact u64_small (by omega)
        clear h1 h2 h3
        go_enter Try.func38, Try.ntmps38
        go_wp2_with fail
        go_ret
        exact ⟨by rw [HE.out]; rfl, rfl⟩
/-- what the judgement is, in the program's numbers -/
def JudgePost (L : List El) (x : Pk) (w : World) (e : Ending) (w' : World) : Prop := e = .returned (.int .u8 (judgeN (L.map (·.pk)) x : Int)) ∧ Below w.heap.size w w'
theorem judgeN_map (L : List El) (x : Pk) : judgeN (L.map (·.pk)) x = if L.any (fun e => sameB e.pk x) then 1 else if decide (L.length = 32) || L.any (fun e => clashB e.pk x) then 2 else 0 := by
  unfold judgeN
  simp only [List.any_map, List.length_map]
  rfl
set_option maxRecDepth 100000 in
set_option maxHeartbeats 400000 in
theorem judge39 {P : List Value} {x : Pk} {A A2 : Option Addr} {c c2 d B : Nat} {L : List El} (w : World) (h : PkAt P x A2 c2) (hb : Bs w w.heap.size A2 c2 x.body) (hl : x.body.length ≤ 1000000)
    (hd : w.cell? ⟨d, 35, none⟩ = some (.slice A L.length c)) (hL : PksRd w B A L) (hB : B ≤ w.heap.size) :
    Calls Try.prog 39 #[.pointer (some ⟨d, 0, none⟩), .agg P.toArray] w (JudgePost L x w) := by
  have hal : Below w.heap.size w (w.alloc (.cells P.toArray 43)) := (Below.refl _ _).alloc (Nat.le_refl _) _
  have hbx : BoxAt (w.alloc (.cells P.toArray 43)) w.heap.size P := ⟨heap_alloc_new w _⟩
  have HS : Hid (∀ W, Below (w.heap.size + 1) (w.alloc (.cells P.toArray 43)) W → Calls Try.prog 59 #[.slice A L.length c, .func (.func 55) #[] #[.pointer (some ⟨w.heap.size, 0, none⟩)]] W (BoolPost (L.any fun e => sameB e.pk x) W)) := Lib.hid fun W hW => by
    have hW1 := hal.trans (hW.mono (by omega))
    refine has59_55 (B := B) W (hL.below (hW1.mono hB)) (Nat.le_trans hB hW1.size) ?_
    intro k e V hk hV
    have hWV := hW1.trans (hV.mono hW1.size)
    have he := hL.each e (List.mem_of_getElem? hk)
    have hsz := hWV.size
    exact clos55 V (El.at_ he.1) h ((he.2.1.mono hB).below hWV |>.mono hsz) ((hb.below hWV).mono hsz) ⟨((hV.block _ (by have := hW.size; simp at this; omega)).trans (hW.block _ (by omega))).trans hbx.blk⟩
  have HC : Hid (∀ W, Below (w.heap.size + 1) (w.alloc (.cells P.toArray 43)) W → Calls Try.prog 59 #[.slice A L.length c, .func (.func 57) #[] #[.pointer (some ⟨w.heap.size, 0, none⟩)]] W (BoolPost (L.any fun e => clashB e.pk x) W)) := Lib.hid fun W hW => by
    have hW1 := hal.trans (hW.mono (by omega))
    refine has59_57 (B := B) W (hL.below (hW1.mono hB)) (Nat.le_trans hB hW1.size) ?_
    intro k e V hk hV
    have he := hL.each e (List.mem_of_getElem? hk)
    exact clos57 V (El.at_ he.1) h (by have := he.2.2; omega) (by omega) ⟨((hV.block _ (by have := hW.size; simp at this; omega)).trans (hW.block _ (by omega))).trans hbx.blk⟩
  have hdl := lt_of_cell hd
  have HD : Hid (∀ W, Below (w.heap.size + 1) (w.alloc (.cells P.toArray 43)) W → W.cell? ⟨d, 35, none⟩ = some (.slice A L.length c)) := Lib.hid fun W hW => ((hW.cell (p := ⟨d, 35, none⟩) (by simp at hdl ⊢; omega)).trans (hal.cell (p := ⟨d, 35, none⟩) hdl)).trans hd
  have HJ := Lib.hid (judgeN_map L x)
  have hm := hL.many
  obtain ⟨n, hn⟩ : ∃ n, L.length = n := ⟨_, rfl⟩
  obtain ⟨sa, hsa⟩ : ∃ b, L.any (fun e => sameB e.pk x) = b := ⟨_, rfl⟩
  obtain ⟨cl, hcl⟩ : ∃ b, L.any (fun e => clashB e.pk x) = b := ⟨_, rfl⟩
  rw [hsa, hcl, hn] at HJ
  rw [hn] at HS HC HD hm
  rw [hsa] at HS
  rw [hcl] at HC
  have HAL := Lib.hid hal
  obtain ⟨V, hV⟩ : ∃ V, V = w.alloc (.cells P.toArray 43) := ⟨_, rfl⟩
  have hsv : V.heap.size = w.heap.size + 1 := by rw [hV]; simp
  obtain ⟨q, hq⟩ : ∃ p, p = w.heap.size := ⟨_, rfl⟩
  rw [← hV] at HS HC HD HAL
  rw [← hq] at HS HC HD hsv
  rw [← hsv] at HS HC HD
  have d0 := HD.out V (Below.refl _ _)
  have s0 := Lib.hid (HS.out V (Below.refl _ _))
  clear h hb hl hd hL hB hal hbx hdl hsa hcl hn hsv HS
  go_enter Try.func39, Try.ntmps39
  go_upto_region 1 with (fail)
  rw [← hV, ← hq]
  clear hV hq
  go_wp2_with fail
  refine (s0.out).mono ?_
  rintro e w1 ⟨rfl, hb1⟩
  have HB1 := Lib.hid hb1
  have HW1 : Hid (Below w.heap.size w w1) := Lib.hid (HAL.out.trans (hb1.mono HAL.out.size))
  have d1 := HD.out w1 hb1
  have c1 := Lib.hid (HC.out w1 hb1)
  clear hb1 HC HD d0 s0
  cases sa with
  | true =>
    go_wp2_with fail
    go_ret
    exact ⟨by rw [HJ.out]; rfl, HW1.out⟩
  | false =>
    by_cases hn : n = 32
    · have t : (n : Int) = 32 := by omega
      have HJ2 : Hid (judgeN (L.map (·.pk)) x = 2) := Lib.hid (by rw [HJ.out]; simp [hn])
      clear hn
      go_wp2_with fail
      go_ret
      exact ⟨by rw [HJ2.out]; rfl, HW1.out⟩
    · have t : ¬ ((n : Int) = 32) := by omega
      have HJ2 : Hid (judgeN (L.map (·.pk)) x = if cl then 2 else 0) := Lib.hid (by rw [HJ.out]; simp [hn])
      clear hn
      go_wp2_with fail
      refine (c1.out).mono ?_
      rintro e w2 ⟨rfl, hb2⟩
      have HW2 : Hid (Below w.heap.size w w2) := Lib.hid (HW1.out.trans (hb2.mono HW1.out.size))
      clear hb2
      cases cl with
      | true =>
        go_wp2_with fail
        go_ret
        exact ⟨by rw [HJ2.out]; rfl, HW2.out⟩
      | false =>
        go_wp2_with fail
        go_ret
        exact ⟨by rw [HJ2.out]; rfl, HW2.out⟩
end Go.Proofs.Ytjldcblklbikaaa

/- Names of datagrams: are they the same. No condition. -/
namespace Go.Proofs.Ytjldcblklbikaaa
open Go.RowKit
set_option linter.unusedVariables false
set_option linter.unusedSimpArgs false
/-- a name's cells -/
def nmL (s d : List Nat) (i : Nat) : List Value := row8 s ++ (row8 d ++ [.int .u32 (i : Int)])
theorem nmL_length {s d : List Nat} {i : Nat} (h : s.length = 16) (k : d.length = 16) : (nmL s d i).length = 33 := by simp [nmL, row8_length, h, k]
theorem size5 (w : World) : (sizeOf 5).run Try.prog w = .ok 1 w := by
  obtain ⟨i, hi⟩ : ∃ i, Try.prog.info? 5 = some i := Option.isSome_iff_exists.1 (by kernel_rfl)
  have e : Try.prog.cellsOf 5 = 1 := by kernel_rfl
  rw [← e]
  exact run_sizeOf w hi
theorem size36r (w : World) : (sizeOf 36).run Try.prog w = .ok 16 w := by
  obtain ⟨i, hi⟩ : ∃ i, Try.prog.info? 36 = some i := Option.isSome_iff_exists.1 (by kernel_rfl)
  have e : Try.prog.cellsOf 36 = 16 := by kernel_rfl
  rw [← e]
  exact run_sizeOf w hi
theorem u8_cell {x : Nat} (h : x < 256) : Value.int .u8 (x : Int) = Extern.Stop.cell (UInt8.ofNat x) := by
  simp [Extern.Stop.cell, Nat.mod_eq_of_lt h]
theorem row8_cell : ∀ {l : List Nat}, (∀ x ∈ l, x < 256) → row8 l = (l.map UInt8.ofNat).map Extern.Stop.cell
  | [], _ => rfl
  | x :: l, h => by
    have := row8_cell (l := l) (fun y hy => h y (List.mem_cons_of_mem _ hy))
    have e := u8_cell (h x List.mem_cons_self)
    simp only [row8, List.map_cons] at this ⊢
    rw [e, this]
theorem eq36 {l m : List Nat} (hl : ∀ x ∈ l, x < 256) (hm : ∀ x ∈ m, x < 256) (h : l.length = 16) (k : m.length = 16) (d : Nat) (W : World) :
    (Op.equalIn (d + 2) 36 (.agg (row8 l).toArray) (.agg (row8 m).toArray)).run Try.prog W = .ok (l == m) W := by
  rw [row8_cell hl, row8_cell hm, run_equalIn_bytes W d 36 5 16 (by kernel_rfl) (by kernel_rfl) size5 _ _ (by simp [h]) (by simp [k]), str_beq hl hm]
theorem agg36 (W : World) : (isAgg 36).run Try.prog W = .ok true W := by go_simp
theorem part36 {xs : Array Value} {o : Nat} {l : List Value} (h : xs.extract o (o + 16) = l.toArray) (W : World) : (part 36 xs o).run Try.prog W = .ok (.agg l.toArray) W := by
  unfold part
  simp [agg36, size36r, h]
theorem eqF_cons {P : Program} {W : World} {d : Nat} {xs ys : Array Value} {f : Field} {fs : List Field} {x y : Value} {r r2 : Bool} (hn : f.name ≠ "_") (h1 : (part f.type xs f.offset).run P W = .ok x W) (h2 : (part f.type ys f.offset).run P W = .ok y W)
    (h3 : (Op.equalIn d f.type x y).run P W = .ok r W) (h4 : (Op.eqFields d xs ys fs).run P W = .ok r2 W) : (Op.eqFields d xs ys (f :: fs)).run P W = .ok (r && r2) W := by
  simp only [Op.eqFields, if_pos hn, Sem.run_bind, h1, h2, h3, Result.andThen_ok]
  cases r with
  | true => simpa using h4
  | false => simp
theorem nm_eq {s d s2 d2 : List Nat} {i i2 : Nat} (h1 : s.length = 16) (h2 : d.length = 16) (k1 : s2.length = 16) (k2 : d2.length = 16) (a1 : ∀ x ∈ s, x < 256) (a2 : ∀ x ∈ d, x < 256) (b1 : ∀ x ∈ s2, x < 256) (b2 : ∀ x ∈ d2, x < 256) (W : World) :
    (binOp .eql 73 (.agg (nmL s d i).toArray) (.agg (nmL s2 d2 i2).toArray)).run Try.prog W = .ok (.bool (s == s2 && (d == d2 && i == i2))) W := by
  have hp : ∀ {s d : List Nat} {i : Nat}, s.length = 16 → d.length = 16 → (part 36 (nmL s d i).toArray 0).run Try.prog W = .ok (.agg (row8 s).toArray) W ∧ (part 36 (nmL s d i).toArray 16).run Try.prog W = .ok (.agg (row8 d).toArray) W ∧ (part 37 (nmL s d i).toArray 32).run Try.prog W = .ok (.int .u32 (i : Int)) W := by
    intro s d i e1 e2
    refine ⟨part36 ?_ W, part36 ?_ W, ?_⟩
    · simp [nmL, List.extract_eq_take_drop, row8_length, e1, e2]
    · simp [nmL, List.extract_eq_take_drop, row8_length, e1, e2]
    · have : (nmL s d i)[32]? = some (.int .u32 (i : Int)) := by
        unfold nmL
        rw [List.getElem?_append_right (by rw [row8_length, e1]; omega), row8_length, e1, List.getElem?_append_right (by rw [row8_length, e2]; omega), row8_length, e2]; rfl
      have : (nmL s d i).toArray[32]? = some (.int .u32 (i : Int)) := by simpa using this
      unfold part
      go_simp
  have f73 : Try.prog.fieldsOf 73 = #[{ name := "src", type := 36, offset := 0, embedded := false, tag := "", pkgPath := "sojourner/frags", byteOffset := 0 }, { name := "dst", type := 36, offset := 16, embedded := false, tag := "", pkgPath := "sojourner/frags", byteOffset := 16 }, { name := "id", type := 37, offset := 32, embedded := false, tag := "", pkgPath := "sojourner/frags", byteOffset := 32 }] := by kernel_rfl
  obtain ⟨p1, p2, p3⟩ := hp (i := i) h1 h2
  obtain ⟨q1, q2, q3⟩ := hp (i := i2) k1 k2
  have e1 := eq36 a1 b1 h1 k1 9997 W
  have e2 := eq36 a2 b2 h2 k2 9997 W
  rw [run_eql_struct, run_equalIn_agg W 9999 73 _ _ (by kernel_rfl) (by kernel_rfl)]
  rw [f73]
  have e3 : (Op.equalIn 9999 37 (.int .u32 (i : Int)) (.int .u32 (i2 : Int))).run Try.prog W = .ok (i == i2) W := by
    rw [run_equalIn_int W 9998 37 .u32 .u32 _ _ Try.underlying37]
    by_cases h : i = i2
    · subst h; simp
    · rw [show (i == i2) = false by simpa using h, show ((i : Int) == (i2 : Int)) = false by simp only [beq_eq_false_iff_ne]; omega]
  generalize (s == s2) = r1 at *
  generalize (d == d2) = r2 at *
  generalize (i == i2) = r3 at *
  generalize (nmL s d i).toArray = xs at *
  generalize (nmL s2 d2 i2).toArray = ys at *
  have h := eqF_cons (f := { name := "src", type := 36, offset := 0, embedded := false, tag := "", pkgPath := "sojourner/frags", byteOffset := 0 }) (by decide) p1 q1 e1 (eqF_cons (f := { name := "dst", type := 36, offset := 16, embedded := false, tag := "", pkgPath := "sojourner/frags", byteOffset := 16 }) (by decide) p2 q2 e2 (eqF_cons (f := { name := "id", type := 37, offset := 32, embedded := false, tag := "", pkgPath := "sojourner/frags", byteOffset := 32 }) (fs := []) (r2 := true) (by decide) p3 q3 e3 rfl))
  rw [show (#[{ name := "src", type := 36, offset := 0, embedded := false, tag := "", pkgPath := "sojourner/frags", byteOffset := 0 }, { name := "dst", type := 36, offset := 16, embedded := false, tag := "", pkgPath := "sojourner/frags", byteOffset := 16 }, { name := "id", type := 37, offset := 32, embedded := false, tag := "", pkgPath := "sojourner/frags", byteOffset := 32 }] : Array Field).toList = _ from rfl, h, Bool.and_true]
  rfl
end Go.Proofs.Ytjldcblklbikaaa

/- The name of a part: the walk. No condition. -/
namespace Go.Proofs.Ytjldcblklbikaaa
open Go.RowKit
set_option linter.unusedVariables false
set_option linter.unusedSimpArgs false
theorem wpList_build3 {P : Program} {ops : Array Oper} {rest : List Oper} {o : Oper} {a : Act} {w : World} {Q : Exit → Act → World → Prop} (hg : o.guard = none) (t : TypeId) (i0 i1 i2 : Nat) (x0 x1 x2 : Operand) (ho : o.op = .build t #[(i0, x0), (i1, x1), (i2, x2)])
    (v0 v1 v2 : Value) (h0 : a.eval x0 = v0) (h1 : a.eval x1 = v1) (h2 : a.eval x2 = v2) (cs : Array Value) (hf : P.built t [(i0, v0), (i1, v1), (i2, v2)] = some cs)
    (h : wpList P ops Q rest (a.put o.dst (.agg cs)) w) : wpList P ops Q (o :: rest) a w := by
  have e : ((#[(i0, x0), (i1, x1), (i2, x2)] : Array (Nat × Operand)).map fun (i, x) => (i, a.eval x)).toList = [(i0, v0), (i1, v1), (i2, v2)] := by simp [h0, h1, h2]
  exact wpList_build hg t _ ho (by rw [e, hf]; rfl) (by rw [e, hf]; exact h)

theorem list16 {l : List Nat} (h : l.length = 16) : ∃ a0 a1 a2 a3 a4 a5 a6 a7 a8 a9 a10 a11 a12 a13 a14 a15, l = [a0, a1, a2, a3, a4, a5, a6, a7, a8, a9, a10, a11, a12, a13, a14, a15] := by
  match l, h with
  | [a0, a1, a2, a3, a4, a5, a6, a7, a8, a9, a10, a11, a12, a13, a14, a15], _ => exact ⟨a0, a1, a2, a3, a4, a5, a6, a7, a8, a9, a10, a11, a12, a13, a14, a15, rfl⟩
theorem built73 {s d : List Nat} {i : Nat} (h1 : s.length = 16) (h2 : d.length = 16) : Try.prog.built 73 [(0, .agg (row8 s).toArray), (1, .agg (row8 d).toArray), (2, .int .u32 (i : Int))] = some (nmL s d i).toArray := by
  obtain ⟨a0, a1, a2, a3, a4, a5, a6, a7, a8, a9, a10, a11, a12, a13, a14, a15, rfl⟩ := list16 h1
  obtain ⟨b0, b1, b2, b3, b4, b5, b6, b7, b8, b9, b10, b11, b12, b13, b14, b15, rfl⟩ := list16 h2
  clear h1 h2
  kernel_rfl
theorem zero73 : (Try.prog.info? 73).map (·.size) = some 33 := by kernel_rfl
theorem size36 : (Try.prog.info? 36).map (·.size) = some 16 := by kernel_rfl
theorem PkAt.rs {P : List Value} {x : Pk} {A : Option Addr} {c p : Nat} {W : World} (h : PkAt P x A c) (k : W.rangeAt p 0 P) : W.rangeAt p 0 (row8 x.src) ∧ W.rangeAt p 16 (row8 x.dst) := by
  constructor
  · intro j v hj
    refine k j v ?_
    rw [h.eq]; unfold pkL
    rw [List.getElem?_append_left (List.getElem?_eq_some_iff.1 hj).1]; exact hj
  · intro j v hj
    have := k (16 + j) v (by
      rw [h.eq]; unfold pkL
      rw [List.getElem?_append_right (by rw [row8_length, h.ok.src]; omega), row8_length, h.ok.src, Nat.add_sub_cancel_left, List.getElem?_append_left (List.getElem?_eq_some_iff.1 hj).1]; exact hj)
    rw [← this]; congr 2; omega
set_option maxRecDepth 100000 in
set_option maxHeartbeats 400000 in
theorem named35 {P : List Value} {x : Pk} {A : Option Addr} {c : Nat} (w : World) (h : PkAt P x A c) :
    Calls Try.prog 35 #[.agg P.toArray] w fun e w' => e = .returned (.agg (nmL x.src x.dst x.id).toArray) ∧ Below w.heap.size w w' := by
  obtain ⟨Z, hZ⟩ : ∃ Z : Array Value, Z = (List.replicate 32 (Value.int .u8 0) ++ [Value.int .u32 0]).toArray := ⟨_, rfl⟩
  have hZ2 : #[Value.int .u8 0, Value.int .u8 0, Value.int .u8 0, Value.int .u8 0, Value.int .u8 0, Value.int .u8 0, Value.int .u8 0, Value.int .u8 0, Value.int .u8 0, Value.int .u8 0, Value.int .u8 0, Value.int .u8 0, Value.int .u8 0, Value.int .u8 0, Value.int .u8 0, Value.int .u8 0, Value.int .u8 0, Value.int .u8 0, Value.int .u8 0, Value.int .u8 0, Value.int .u8 0, Value.int .u8 0, Value.int .u8 0, Value.int .u8 0, Value.int .u8 0, Value.int .u8 0, Value.int .u8 0, Value.int .u8 0, Value.int .u8 0, Value.int .u8 0, Value.int .u8 0, Value.int .u8 0, Value.int .u32 0] = Z := by rw [hZ]; kernel_rfl
  have b1 : ((w.alloc (.cells P.toArray 43)).alloc (.cells Z 73)).heap[w.heap.size]? = some (.cells P.toArray 43 (0, 0)) := heap_alloc2_old _ _ _
  have b2 := heap_alloc2_new w (.cells P.toArray 43) (.cells Z 73)
  have hB : Below w.heap.size w ((w.alloc (.cells P.toArray 43)).alloc (.cells Z 73)) := ((Below.refl _ _).alloc (Nat.le_refl _) _).alloc (by simp) _
  have c35 := box_cell b1 (h.tail 3)
  have R1 := Lib.hid (h.rs (row_of b1)).1
  have R2 := Lib.hid (h.rs (row_of b1)).2
  have L1 : Hid ((row8 x.src).length = 16) := Lib.hid (by rw [row8_length, h.ok.src])
  have L2 : Hid ((row8 x.dst).length = 16) := Lib.hid (by rw [row8_length, h.ok.dst])
  have HBU := Lib.hid (built73 (i := x.id) h.ok.src h.ok.dst)
  have HS : Hid ((nmL x.src x.dst x.id).toArray.size = 33) := Lib.hid (by simp [nmL_length h.ok.src h.ok.dst])
  have HO : Hid ((nmL x.src x.dst x.id).toArray.all (·.oneCell') = true) := Lib.hid (all_oneCell_toArray (by
    intro v hv
    rcases List.mem_append.1 hv with h | h
    · exact row8_one _ v h
    rcases List.mem_append.1 h with h | h
    · exact row8_one _ v h
    · simp only [List.mem_cons, List.not_mem_nil, or_false] at h; rcases h with rfl; rfl))
  have HZS : Hid (Z.size = 33) := Lib.hid (by rw [hZ]; rfl)
  have H2 := Lib.hid b2; have HB := Lib.hid hB
  have H36 := Lib.hid size36; have H73 := Lib.hid zero73
  obtain ⟨i, hi⟩ : ∃ i, i = x.id := ⟨_, rfl⟩
  rw [← hi] at c35 HBU HS HO ⊢
  obtain ⟨N, hN⟩ : ∃ N, N = (nmL x.src x.dst i).toArray := ⟨_, rfl⟩
  rw [← hN] at HBU HS HO ⊢
  clear b1 b2 hB h hi hZ hN
  go_enter Try.func35, Try.ntmps35
  go_upto_region 1 with (fail)
  try rw [hZ2]
  clear hZ2
  go_wp2_with (first | (refine wpList_build3 rfl 73 0 1 2 _ _ _ rfl (.agg (row8 x.src).toArray) (.agg (row8 x.dst).toArray) (.int .u32 (i : Int)) rfl rfl rfl N HBU.out ?_) | (refine wpList_load_mid rfl 36 (.tmp 3) ?ho w.heap.size 0 ?hx (row8 x.src) _ R1.out Try.underlying36 rfl ?hi ?_; (case ho => with_reducible rfl); (case hx => rfl); (case hi => rw [L1.out]; exact H36.out)) | (refine wpList_load_mid rfl 36 (.tmp 5) ?ho w.heap.size 16 ?hx (row8 x.dst) _ R2.out Try.underlying36 rfl ?hi ?_; (case ho => with_reducible rfl); (case hx => rfl); (case hi => rw [L2.out]; exact H36.out)) | (refine wpList_store_row rfl 73 _ _ rfl (w.heap.size + 1) N rfl rfl 73 _ H2.out (by rw [HS.out]; exact H73.out) (HZS.out.trans HS.out.symm) HO.out ?_))
  have t := Turned.setRow H2.out N
  have g := t.get (lt_of_blk H2.out)
  refine bodyPost_ret (v := .agg N) (results_cell_row rfl _ _ (w.heap.size + 1) 73 _ (0, 0) _ rfl ?_ Try.underlying73 rfl ?_) ?_ ?_
  rotate_left 2
  · rfl
  · exact ⟨rfl, HB.out.trans (t.below (by omega))⟩
  · exact g
  · rw [HS.out]; exact H73.out
end Go.Proofs.Ytjldcblklbikaaa
