/- Packets that read; is there one that ..: the walks. No condition but that the packets read. -/
import Derived.Test.YtjldcblklbikaaaFC
namespace Go.Proofs.Ytjldcblklbikaaa
open Go.RowKit
set_option linter.unusedVariables false
set_option linter.unusedSimpArgs false
/-- a packet and where its body lies -/
structure El where
  pk : Pk
  adr : Option Addr
  cap : Nat
def El.cells (e : El) : List Value := pkL e.pk e.adr e.cap
/-- a slice of packets that reads, its bodies too -/
structure PksRd (w : World) (B : Nat) (A : Option Addr) (L : List El) : Prop where
  many : L.length ≤ 100000
  each : ∀ e ∈ L, PkOk e.pk ∧ Bs w B e.adr e.cap e.pk.body ∧ e.pk.body.length ≤ 1000000
  at_ : L ≠ [] → ∃ b o, A = some ⟨b, o, none⟩ ∧ b < B ∧ ∀ k e, L[k]? = some e → w.rangeAt b (o + k * 40) e.cells
theorem range_below {B : Nat} {w w' : World} {b o : Nat} {l : List Value} (h : w.rangeAt b o l) (hb : b < B) (hB : Below B w w') : w'.rangeAt b o l := fun j v hj => (hB.cell (p := ⟨b, o + j, none⟩) hb).trans (h j v hj)
theorem PksRd.below {w w' : World} {B : Nat} {A : Option Addr} {L : List El} (h : PksRd w B A L) (hb : Below B w w') : PksRd w' B A L where
  many := h.many
  each := fun e he => ⟨(h.each e he).1, (h.each e he).2.1.below hb, (h.each e he).2.2⟩
  at_ := fun hL => by
    obtain ⟨b, o, hA, hlt, hr⟩ := h.at_ hL
    exact ⟨b, o, hA, hlt, fun k e hk => range_below (hr k e hk) hlt hb⟩
theorem PksRd.mono {w : World} {B C : Nat} {A : Option Addr} {L : List El} (h : PksRd w B A L) (hB : B ≤ C) : PksRd w C A L where
  many := h.many
  each := fun e he => ⟨(h.each e he).1, (h.each e he).2.1.mono hB, (h.each e he).2.2⟩
  at_ := fun hL => by
    obtain ⟨b, o, hA, hlt, hr⟩ := h.at_ hL
    exact ⟨b, o, hA, by omega, hr⟩
theorem El.at_ {e : El} (h : PkOk e.pk) : PkAt e.cells e.pk e.adr e.cap := ⟨rfl, h⟩
set_option maxRecDepth 100000 in
set_option maxHeartbeats 400000 in
theorem clos55 {P Q : List Value} {x y : Pk} {A A2 : Option Addr} {c c2 p : Nat} (w : World) (h : PkAt P x A c) (k : PkAt Q y A2 c2) (hb : Bs w w.heap.size A c x.body) (kb : Bs w w.heap.size A2 c2 y.body) (hp : BoxAt w p Q) :
    Calls Try.prog 55 #[.agg P.toArray, .pointer (some ⟨p, 0, none⟩)] w (BoolPost (sameB x y) w) := by
  have hal : Below w.heap.size w (w.alloc (.cells P.toArray 43)) := (Below.refl _ _).alloc (Nat.le_refl _) _
  have HW := Lib.hid (same56 _ h k ((hb.below hal).mono hal.size) ((kb.below hal).mono hal.size))
  have HP := Lib.hid (row_of (hp.step hal).blk)
  have HP0 := Lib.hid (row_of (heap_alloc_new w (.cells P.toArray 43)))
  have HLEN := Lib.hid h.len
  have HLENQ := Lib.hid k.len
  have HSZ := Lib.hid size43
  have HAL := Lib.hid hal
  obtain ⟨V, hV⟩ : ∃ V, V = w.alloc (.cells P.toArray 43) := ⟨_, rfl⟩
  obtain ⟨q, hq⟩ : ∃ p, p = w.heap.size := ⟨_, rfl⟩
  rw [← hV] at HW HP HP0 HAL
  rw [← hq] at HP0
  clear h k hb kb hp hal
  go_enter Try.func55, Try.ntmps55
  go_upto_region 1 with (fail)
  rw [← hV, ← hq]
  clear hV hq
  go_wp2_with (first | (refine wpList_load_mid rfl 43 (.tmp 2) ?ho q 0 ?hx P _ ?hr Try.underlying43 rfl ?hi ?_; (case ho => with_reducible rfl); (case hx => rfl); (case hr => exact HP0.out); (case hi => rw [HLEN.out]; exact HSZ.out)) | (refine wpList_load_mid rfl 43 (.tmp 1) ?ho p 0 ?hx Q _ ?hr Try.underlying43 rfl ?hi ?_; (case ho => with_reducible rfl); (case hx => rfl); (case hr => exact HP.out); (case hi => rw [HLENQ.out]; exact HSZ.out)))
  refine (HW.out).mono ?_
  rintro e w2 ⟨rfl, hb2⟩
  have HB2 : Hid (Below w.heap.size w w2) := Lib.hid (HAL.out.trans (hb2.mono HAL.out.size))
  clear hb2
  go_wp2_with fail
  go_ret
  exact ⟨rfl, HB2.out⟩
set_option maxRecDepth 100000 in
set_option maxHeartbeats 400000 in
theorem clos57 {P Q : List Value} {x y : Pk} {A A2 : Option Addr} {c c2 p : Nat} (w : World) (h : PkAt P x A c) (k : PkAt Q y A2 c2) (hl : x.body.length ≤ 1000000000) (kl : y.body.length ≤ 1000000000) (hp : BoxAt w p Q) :
    Calls Try.prog 57 #[.agg P.toArray, .pointer (some ⟨p, 0, none⟩)] w (BoolPost (clashB x y) w) := by
  have hal : Below w.heap.size w (w.alloc (.cells P.toArray 43)) := (Below.refl _ _).alloc (Nat.le_refl _) _
  have HW := Lib.hid (clash58 (w.alloc (.cells P.toArray 43)) h k hl kl)
  have HP := Lib.hid (row_of (hp.step hal).blk)
  have HP0 := Lib.hid (row_of (heap_alloc_new w (.cells P.toArray 43)))
  have HLEN := Lib.hid h.len
  have HLENQ := Lib.hid k.len
  have HSZ := Lib.hid size43
  have HAL := Lib.hid hal
  obtain ⟨V, hV⟩ : ∃ V, V = w.alloc (.cells P.toArray 43) := ⟨_, rfl⟩
  obtain ⟨q, hq⟩ : ∃ p, p = w.heap.size := ⟨_, rfl⟩
  rw [← hV] at HW HP HP0 HAL
  rw [← hq] at HP0
  clear h k hl kl hp hal
  go_enter Try.func57, Try.ntmps57
  go_upto_region 1 with (fail)
  rw [← hV, ← hq]
  clear hV hq
  go_wp2_with (first | (refine wpList_load_mid rfl 43 (.tmp 2) ?ho q 0 ?hx P _ ?hr Try.underlying43 rfl ?hi ?_; (case ho => with_reducible rfl); (case hx => rfl); (case hr => exact HP0.out); (case hi => rw [HLEN.out]; exact HSZ.out)) | (refine wpList_load_mid rfl 43 (.tmp 1) ?ho p 0 ?hx Q _ ?hr Try.underlying43 rfl ?hi ?_; (case ho => with_reducible rfl); (case hx => rfl); (case hr => exact HP.out); (case hi => rw [HLENQ.out]; exact HSZ.out)))
  refine (HW.out).mono ?_
  rintro e w2 ⟨rfl, hb2⟩
  have HB2 : Hid (Below w.heap.size w w2) := Lib.hid (HAL.out.trans (hb2.mono HAL.out.size))
  clear hb2
  go_wp2_with fail
  go_ret
  exact ⟨rfl, HB2.out⟩
/-- the first that is told of, or none is -/
def FirstB (L : List El) (t : El → Bool) (r : Option Nat) : Prop := match r with
  | none => ∀ x ∈ L, t x = false
  | some k => ∃ x, L[k]? = some x ∧ t x = true ∧ ∀ j y, j < k → L[j]? = some y → t y = false
def numK (r : Option Nat) : Int := match r with
  | none => -1
  | some k => (k : Int)
theorem FirstB.any {L : List El} {t : El → Bool} {r : Option Nat} (h : FirstB L t r) : decide (0 ≤ numK r) = L.any t := by
  cases r with
  | none =>
    have e : L.any t = false := by
      rw [List.any_eq_false]
      intro x hx; rw [h x hx]; simp
    rw [e]; rfl
  | some k =>
    obtain ⟨x, hx, ht, -⟩ := h
    rw [List.any_eq_true.2 ⟨x, List.mem_of_getElem? hx, ht⟩]
    simp [numK]
def IdxPost (L : List El) (t : El → Bool) (w : World) (e : Ending) (w' : World) : Prop := ∃ r, FirstB L t r ∧ e = .returned (.int .i64 (numK r)) ∧ Below w.heap.size w w'
set_option maxRecDepth 100000 in
set_option maxHeartbeats 1000000 in
theorem idx29_55 {A : Option Addr} {c p B : Nat} {L : List El} {t : El → Bool} (w : World) (h : PksRd w B A L) (hB : B ≤ w.heap.size)
    (ht : ∀ (k : Nat) (e : El) (W : World), L[k]? = some e → Below w.heap.size w W → Calls Try.prog 55 #[.agg e.cells.toArray, .pointer (some ⟨p, 0, none⟩)] W (BoolPost (t e) W)) :
    Calls Try.prog 29 #[.slice A L.length c, .func (.func 55) #[] #[.pointer (some ⟨p, 0, none⟩)]] w (IdxPost L t w) := by
  obtain ⟨n, hn⟩ : ∃ n, L.length = n := ⟨_, rfl⟩
  have HN := Lib.hid hn
  have hm := h.many
  have HO := Lib.hid h
  have HT := Lib.hid ht
  have HSZ := Lib.hid size43
  rw [hn] at hm ⊢
  clear h hn ht
  go_enter Try.func29, Try.ntmps29
  go_wp2_with fail
  go_loopw [8] (fun i wr => ∃ k : Nat, k ≤ n ∧ i = .int .i64 k ∧ (∀ j y, j < k → L[j]? = some y → t y = false) ∧ Below w.heap.size w wr) (fun i _ => n - (intOf i).toNat)
  case atStart => exact ⟨0, Nat.zero_le _, rfl, fun j y hj => absurd hj (by omega), Below.refl _ _⟩
  case round =>
    obtain ⟨k, hk, rfl, hno, hW⟩ := hrel
    have HNO := Lib.hid hno
    clear hno
    by_cases hlt : k < n
    · obtain ⟨x, hx⟩ : ∃ x, L[k]? = some x := ⟨L[k]'(by rw [HN.out]; exact hlt), List.getElem?_eq_getElem _⟩
      have hO := HO.out.below (hW.mono hB)
      obtain ⟨b, o, rfl, hb, hc⟩ := hO.at_ (by rintro rfl; simp at hx)
      have HR := Lib.hid (hc k x hx)
      have HC := Lib.hid (HT.out k x wr hx hW)
      have HX := Lib.hid hx
      have HW := Lib.hid hW
      have hsz := hW.size
      have HLEN := Lib.hid (El.at_ (hO.each x (List.mem_of_getElem? hx)).1).len
      obtain ⟨P, hP⟩ : ∃ P, P = x.cells := ⟨_, rfl⟩
      rw [← hP] at HR HC HLEN
      clear hx hO hc hW hP
      cases htx : t x with
      | true =>
        rw [htx] at HC
        have HTX := Lib.hid htx
        clear htx
        go_wp2_with (first | (refine wpList_load_mid rfl 43 (.tmp 14) ?ho b (o + k * 40) ?hx P _ ?hr Try.underlying43 rfl ?hi ?_; (case ho => with_reducible rfl); (case hx => rfl); (case hr => exact HR.out); (case hi => rw [HLEN.out]; exact HSZ.out)))
        refine (HC.out).mono ?_
        rintro e w1 ⟨rfl, hb1⟩
        have HB1 := Lib.hid (HW.out.trans (hb1.mono hsz))
        clear hb1 HC
        go_wp2_with fail
        go_ret
        exact ⟨some k, ⟨x, HX.out, HTX.out, HNO.out⟩, rfl, HB1.out⟩
      | false =>
        rw [htx] at HC
        have HNX : Hid (∀ j y, j < k + 1 → L[j]? = some y → t y = false) := Lib.hid (by
          intro j y hj hy
          rcases Nat.lt_or_ge j k with h1 | h1
          · exact HNO.out j y h1 hy
          · obtain rfl : j = k := by omega
            have := HX.out
            rw [hy] at this
            cases this
            exact htx)
        clear htx
        go_wp2_with (first | (refine wpList_load_mid rfl 43 (.tmp 14) ?ho b (o + k * 40) ?hx P _ ?hr Try.underlying43 rfl ?hi ?_; (case ho => with_reducible rfl); (case hx => rfl); (case hr => exact HR.out); (case hi => rw [HLEN.out]; exact HSZ.out)))
        refine (HC.out).mono ?_
        rintro e w1 ⟨rfl, hb1⟩
        have HB1 := Lib.hid (HW.out.trans (hb1.mono hsz))
        clear hb1 HC
        go_wp2_with fail
        go_roundw
        case rel => exact ⟨k + 1, by omega, by go_num, HNX.out, HB1.out⟩
        case measure => simp [intOf]; omega
    · obtain rfl : k = n := by omega
      clear hlt
      have HW := Lib.hid hW
      clear hW
      go_wp2_with fail
      go_ret
      refine ⟨none, fun x hx => ?_, rfl, HW.out⟩
      obtain ⟨j, hj⟩ := List.getElem?_of_mem hx
      exact HNO.out j x (by rw [← HN.out]; exact (List.getElem?_eq_some_iff.1 hj).1) hj
set_option maxRecDepth 100000 in
set_option maxHeartbeats 1000000 in
theorem has59_55 {A : Option Addr} {c p B : Nat} {L : List El} {t : El → Bool} (w : World) (h : PksRd w B A L) (hB : B ≤ w.heap.size)
    (ht : ∀ (k : Nat) (e : El) (W : World), L[k]? = some e → Below w.heap.size w W → Calls Try.prog 55 #[.agg e.cells.toArray, .pointer (some ⟨p, 0, none⟩)] W (BoolPost (t e) W)) :
    Calls Try.prog 59 #[.slice A L.length c, .func (.func 55) #[] #[.pointer (some ⟨p, 0, none⟩)]] w (BoolPost (L.any t) w) := by
  have HI := Lib.hid (idx29_55 (c := c) w h hB ht)
  obtain ⟨n, hn⟩ : ∃ n, L.length = n := ⟨_, rfl⟩
  rw [hn] at HI ⊢
  clear h ht hn
  go_enter Try.func59, Try.ntmps59
  go_wp2_with fail
  refine (HI.out).mono ?_
  rintro e w1 ⟨r, hr, rfl, hb1⟩
  have HE := Lib.hid hr.any
  have HB1 := Lib.hid hb1
  generalize numK r = z at *
  clear hb1 hr
  go_wp2_with fail
  go_ret
  exact ⟨by rw [← HE.out]; rfl, HB1.out⟩
set_option maxRecDepth 100000 in
set_option maxHeartbeats 1000000 in
theorem idx29_57 {A : Option Addr} {c p B : Nat} {L : List El} {t : El → Bool} (w : World) (h : PksRd w B A L) (hB : B ≤ w.heap.size)
    (ht : ∀ (k : Nat) (e : El) (W : World), L[k]? = some e → Below w.heap.size w W → Calls Try.prog 57 #[.agg e.cells.toArray, .pointer (some ⟨p, 0, none⟩)] W (BoolPost (t e) W)) :
    Calls Try.prog 29 #[.slice A L.length c, .func (.func 57) #[] #[.pointer (some ⟨p, 0, none⟩)]] w (IdxPost L t w) := by
  obtain ⟨n, hn⟩ : ∃ n, L.length = n := ⟨_, rfl⟩
  have HN := Lib.hid hn
  have hm := h.many
  have HO := Lib.hid h
  have HT := Lib.hid ht
  have HSZ := Lib.hid size43
  rw [hn] at hm ⊢
  clear h hn ht
  go_enter Try.func29, Try.ntmps29
  go_wp2_with fail
  go_loopw [8] (fun i wr => ∃ k : Nat, k ≤ n ∧ i = .int .i64 k ∧ (∀ j y, j < k → L[j]? = some y → t y = false) ∧ Below w.heap.size w wr) (fun i _ => n - (intOf i).toNat)
  case atStart => exact ⟨0, Nat.zero_le _, rfl, fun j y hj => absurd hj (by omega), Below.refl _ _⟩
  case round =>
    obtain ⟨k, hk, rfl, hno, hW⟩ := hrel
    have HNO := Lib.hid hno
    clear hno
    by_cases hlt : k < n
    · obtain ⟨x, hx⟩ : ∃ x, L[k]? = some x := ⟨L[k]'(by rw [HN.out]; exact hlt), List.getElem?_eq_getElem _⟩
      have hO := HO.out.below (hW.mono hB)
      obtain ⟨b, o, rfl, hb, hc⟩ := hO.at_ (by rintro rfl; simp at hx)
      have HR := Lib.hid (hc k x hx)
      have HC := Lib.hid (HT.out k x wr hx hW)
      have HX := Lib.hid hx
      have HW := Lib.hid hW
      have hsz := hW.size
      have HLEN := Lib.hid (El.at_ (hO.each x (List.mem_of_getElem? hx)).1).len
      obtain ⟨P, hP⟩ : ∃ P, P = x.cells := ⟨_, rfl⟩
      rw [← hP] at HR HC HLEN
      clear hx hO hc hW hP
      cases htx : t x with
      | true =>
        rw [htx] at HC
        have HTX := Lib.hid htx
        clear htx
        go_wp2_with (first | (refine wpList_load_mid rfl 43 (.tmp 14) ?ho b (o + k * 40) ?hx P _ ?hr Try.underlying43 rfl ?hi ?_; (case ho => with_reducible rfl); (case hx => rfl); (case hr => exact HR.out); (case hi => rw [HLEN.out]; exact HSZ.out)))
        refine (HC.out).mono ?_
        rintro e w1 ⟨rfl, hb1⟩
        have HB1 := Lib.hid (HW.out.trans (hb1.mono hsz))
        clear hb1 HC
        go_wp2_with fail
        go_ret
        exact ⟨some k, ⟨x, HX.out, HTX.out, HNO.out⟩, rfl, HB1.out⟩
      | false =>
        rw [htx] at HC
        have HNX : Hid (∀ j y, j < k + 1 → L[j]? = some y → t y = false) := Lib.hid (by
          intro j y hj hy
          rcases Nat.lt_or_ge j k with h1 | h1
          · exact HNO.out j y h1 hy
          · obtain rfl : j = k := by omega
            have := HX.out
            rw [hy] at this
            cases this
            exact htx)
        clear htx
        go_wp2_with (first | (refine wpList_load_mid rfl 43 (.tmp 14) ?ho b (o + k * 40) ?hx P _ ?hr Try.underlying43 rfl ?hi ?_; (case ho => with_reducible rfl); (case hx => rfl); (case hr => exact HR.out); (case hi => rw [HLEN.out]; exact HSZ.out)))
        refine (HC.out).mono ?_
        rintro e w1 ⟨rfl, hb1⟩
        have HB1 := Lib.hid (HW.out.trans (hb1.mono hsz))
        clear hb1 HC
        go_wp2_with fail
        go_roundw
        case rel => exact ⟨k + 1, by omega, by go_num, HNX.out, HB1.out⟩
        case measure => simp [intOf]; omega
    · obtain rfl : k = n := by omega
      clear hlt
      have HW := Lib.hid hW
      clear hW
      go_wp2_with fail
      go_ret
      refine ⟨none, fun x hx => ?_, rfl, HW.out⟩
      obtain ⟨j, hj⟩ := List.getElem?_of_mem hx
      exact HNO.out j x (by rw [← HN.out]; exact (List.getElem?_eq_some_iff.1 hj).1) hj
set_option maxRecDepth 100000 in
set_option maxHeartbeats 1000000 in
theorem has59_57 {A : Option Addr} {c p B : Nat} {L : List El} {t : El → Bool} (w : World) (h : PksRd w B A L) (hB : B ≤ w.heap.size)
    (ht : ∀ (k : Nat) (e : El) (W : World), L[k]? = some e → Below w.heap.size w W → Calls Try.prog 57 #[.agg e.cells.toArray, .pointer (some ⟨p, 0, none⟩)] W (BoolPost (t e) W)) :
    Calls Try.prog 59 #[.slice A L.length c, .func (.func 57) #[] #[.pointer (some ⟨p, 0, none⟩)]] w (BoolPost (L.any t) w) := by
  have HI := Lib.hid (idx29_57 (c := c) w h hB ht)
  obtain ⟨n, hn⟩ : ∃ n, L.length = n := ⟨_, rfl⟩
  rw [hn] at HI ⊢
  clear h ht hn
  go_enter Try.func59, Try.ntmps59
  go_wp2_with fail
  refine (HI.out).mono ?_
  rintro e w1 ⟨r, hr, rfl, hb1⟩
  have HE := Lib.hid hr.any
  have HB1 := Lib.hid hb1
  generalize numK r = z at *
  clear hb1 hr
  go_wp2_with fail
  go_ret
  exact ⟨by rw [← HE.out]; rfl, HB1.out⟩
end Go.Proofs.Ytjldcblklbikaaa
