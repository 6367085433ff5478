/- Learn in one contract, and the walk of Has. No condition but that the numbers fit. -/
import Derived.Test.YtkhbchgocilclaaLearn
namespace Go.Proofs.Ytkhbchgocilclaa
open Go.RowKit
set_option linter.unusedVariables false

/-- what is known of a list's map -/
structure LOk (D : PD) : Prop where
  keys : ∀ kl, Maps.has D kl = true → ∃ p n, (∀ i, i < 16 → p i < 256) ∧ n ≤ 128 ∧ kl = keyLit p n ∧ (∀ i, i < 16 → masked p n i = p i)
  size : Maps.size D ≤ 8
  tidy : Maps.Tidy D

theorem lok_empty : LOk (.map []) := ⟨fun kl h => by simp [Maps.has_eq] at h, Nat.zero_le _, Maps.tidy_empty⟩

theorem tell_false {i : Info} (h : tellB i = false) : i.on = false ∨ (i.on = true ∧ 128 < i.n) ∨ (i.on = true ∧ i.n ≤ 128 ∧ linkB i.a = true) ∨ (i.on = true ∧ i.n ≤ 128 ∧ linkB i.a = false ∧ manyB i.a = true) := by
  unfold tellB at h
  cases h1 : i.on <;> cases h2 : linkB i.a <;> cases h3 : manyB i.a <;> by_cases h4 : i.n ≤ 128 <;> simp [h1, h2, h3, h4] at h ⊢ <;> omega
theorem tell_true {i : Info} (h : tellB i = true) : i.on = true ∧ i.n ≤ 128 ∧ linkB i.a = false ∧ manyB i.a = false := by
  unfold tellB at h
  cases h1 : i.on <;> cases h2 : linkB i.a <;> cases h3 : manyB i.a <;> simp [h1, h2, h3] at h ⊢ <;> omega

theorem learn_any (i : Info) (b mb now : Nat) (D : PD) (w : World) (ok : i.Ok) (hnow : now < 18446744073709551616) (h : w.heap[b]? = some (.cells #[.map (some mb)] 58 (0, 0))) (hm : MapIs w mb D) (hsz : Maps.size D ≤ 8) :
    Calls Try.prog 8 #[.pointer (some ⟨b, 0, none⟩), .int .u64 now, .agg i.cells] w fun e w' => e = .returned (.bool (learnOk i D)) ∧ Learnt b mb (learnD i now D) w w' := by
  cases ht : tellB i with
  | false =>
    have e1 : learnOk i D = false := by unfold learnOk; rw [ht]; rfl
    have e2 : learnD i now D = D := by unfold learnD; rw [ht]; rfl
    rw [e1, e2]
    rcases tell_false ht with h1 | ⟨h1, h2⟩ | ⟨h1, h2, h3⟩ | ⟨h1, h2, h3, h4⟩
    · exact learn_off i b mb now D w ok hnow h hm h1
    · exact learn_long i b mb now D w ok hnow h hm h1 h2
    · exact learn_link i b mb now D w ok hnow h hm h1 h2 h3
    · exact learn_many i b mb now D w ok hnow h hm h1 h2 h3 h4
  | true =>
    obtain ⟨h1, h2, h3, h4⟩ := tell_true ht
    cases hh : Maps.has D i.key with
    | true =>
      have e1 : learnOk i D = true := by unfold learnOk; rw [ht, hh]; rfl
      rw [e1]
      by_cases hv : i.v = 0
      · have e2 : learnD i now D = D.del i.key := by unfold learnD; rw [ht, hh, decide_eq_true hv]; rfl
        rw [e2]
        exact learn_del i b mb now D w ok hnow h hm h1 h2 h3 h4 hh hv
      · have e2 : learnD i now D = D.put i.key (.lit (.int .u64 (i.until_ now : Nat))) := by unfold learnD; rw [ht, hh, decide_eq_false hv]; rfl
        rw [e2]
        exact learn_again i b mb now D w ok hnow h hm h1 h2 h3 h4 hh (by omega) hsz
    | false =>
      by_cases hv : 0 < i.v
      · by_cases hs : Maps.size D < 8
        · have e1 : learnOk i D = true := by unfold learnOk; rw [ht, hh, decide_eq_true hv, decide_eq_true hs]; rfl
          have e2 : learnD i now D = D.put i.key (.lit (.int .u64 (i.until_ now : Nat))) := by unfold learnD; rw [ht, hh, decide_eq_true hv, decide_eq_true hs]; rfl
          rw [e1, e2]
          exact learn_new i b mb now D w ok hnow h hm h1 h2 h3 h4 hh hv hs
        · have e1 : learnOk i D = false := by unfold learnOk; rw [ht, hh, decide_eq_false hs, Bool.and_false]; rfl
          have e2 : learnD i now D = D := by unfold learnD; rw [ht, hh, decide_eq_false hs, Bool.and_false]; rfl
          rw [e1, e2]
          exact learn_full i b mb now D w ok hnow h hm h1 h2 h3 h4 hh hv (by omega)
      · have e1 : learnOk i D = false := by unfold learnOk; rw [ht, hh, decide_eq_false hv]; rfl
        have e2 : learnD i now D = D := by unfold learnD; rw [ht, hh, decide_eq_false hv]; rfl
        rw [e1, e2]
        exact learn_none i b mb now D w ok hnow h hm h1 h2 h3 h4 hh (by omega)

theorem key_isKey (p : Nat → Nat) (n : Nat) : WideAt.IsKeyLit (keyLit p n) := trivial

theorem LOk.learn {i : Info} {now : Nat} {D : PD} (h : LOk D) (ok : i.Ok) : LOk (learnD i now D) := by
  unfold learnD
  cases ht : tellB i with
  | false => exact h
  | true =>
    obtain ⟨h1, h2, h3, h4⟩ := tell_true ht
    simp only [if_true]
    have hkey : ∃ p n, (∀ k, k < 16 → p k < 256) ∧ n ≤ 128 ∧ i.key = keyLit p n ∧ (∀ k, k < 16 → masked p n k = p k) :=
      ⟨masked i.a i.n, i.n, fun k hk => top_lt (ok.a k hk) _, h2, rfl, fun k _ => by rw [masked_masked]⟩
    split
    · refine ⟨fun kl hk => h.keys kl ?_, ?_, h.tidy.del _⟩
      · by_cases e : kl = i.key
        · rw [e, Maps.has_del_same] at hk; cases hk
        · rwa [Maps.has_del_other e] at hk
      · have := Maps.size_del (k := i.key) h.tidy
        have := h.size
        omega
    · split
      · rename_i hc
        refine ⟨fun kl hk => ?_, ?_, h.tidy.put (key_isKey _ _) _⟩
        · by_cases e : kl = i.key
          · rw [e]; exact hkey
          · rw [Maps.has_put_other e] at hk; exact h.keys kl hk
        · rw [Maps.size_put h.tidy]
          have := h.size
          cases hh : Maps.has D i.key with
          | true => simp only [if_true]; exact this
          | false => rw [hh] at hc; simp at hc ⊢; omega
      · exact h

/-- is an address of the prefix that reads as this key? -/
def litWithin (a : Nat → Nat) : Lit → Bool
  | .string bs => withinB a (fun i => (bs.getD i 0).toNat) (bs.getD 16 0).toNat
  | _ => false
def hasMap (a : Nat → Nat) : PD → Bool
  | .map es => es.any fun p => litWithin a p.1
  | _ => false
def hasB (a : Nat → Nat) (D : PD) : Bool := linkB a || hasMap a D

theorem commonFrom_congr {a p q : Nat → Nat} (h : ∀ i, i < 16 → p i = q i) : ∀ f k, k + f = 16 → commonFrom a p k f = commonFrom a q k f := by
  intro f
  induction f with
  | zero => intro k _; rfl
  | succ f ih => intro k hk; unfold commonFrom; rw [ih (k + 1) (by omega), h k (by omega)]
theorem withinB_congr {a p q : Nat → Nat} {n : Nat} (h : ∀ i, i < 16 → p i = q i) : withinB a p n = withinB a q n := by
  unfold withinB common; rw [commonFrom_congr h 16 0 rfl]
theorem litWithin_key {a p : Nat → Nat} {n : Nat} (hp : ∀ i, i < 16 → p i < 256) (hn : n < 256) : litWithin a (keyLit p n) = withinB a p n := by
  unfold litWithin keyLit
  have e1 : ((keyBytesOf p n).getD 16 0).toNat = n := by
    simp [keyBytesOf, List.getD_eq_getElem?_getD, Nat.mod_eq_of_lt hn]
  simp only [e1]
  refine withinB_congr fun i hi => ?_
  have := hp i hi
  simp [keyBytesOf, List.getD_eq_getElem?_getD, List.getElem?_append_left, hi, Nat.mod_eq_of_lt this]
theorem hasMap_iff {a : Nat → Nat} {D : PD} (h : LOk D) : hasMap a D = true ↔ ∃ kl, Maps.has D kl = true ∧ litWithin a kl = true := by
  obtain ⟨es, rfl, _⟩ := h.tidy
  constructor
  · intro hh
    obtain ⟨p, hp, hw⟩ := List.any_eq_true.1 hh
    refine ⟨p.1, ?_, hw⟩
    rw [Maps.has_eq]
    refine List.any_eq_true.2 ⟨p, hp, WideAt.sameKey_self ?_⟩
    unfold litWithin at hw
    split at hw
    · rename_i e; rw [e]; trivial
    · cases hw
  · rintro ⟨kl, hk, hw⟩
    rw [Maps.has_eq] at hk
    obtain ⟨p, hp, hs⟩ := List.any_eq_true.1 hk
    exact List.any_eq_true.2 ⟨p, hp, by rw [WideAt.sameKey_eq hs]; exact hw⟩

structure HasInv (b mb B1 r : Nat) (a : Nat → Nat) (D : PD) (left : Lit → Bool) (cnt : Nat) (w wr : World) : Prop where
  rg : wr.ranges Try.prog 25 (plainElem Try.prog 34) mb r (Maps.size D) D left cnt
  no : ∀ kl, Maps.has D kl = true → left kl = false → litWithin a kl = false
  le : ∀ kl, left kl = true → Maps.has D kl = true
  h1 : wr.heap[B1]? = some (.cells (adrCells a) 23 (0, 0))
  below : Below w.heap.size w wr
  rlt : w.heap.size ≤ r
  b1 : w.heap.size ≤ B1

set_option maxRecDepth 100000 in
set_option maxHeartbeats 1000000 in
theorem has_any (a : Nat → Nat) (b mb : Nat) (D : PD) (w : World) (ha : ∀ i, i < 16 → a i < 256) (h : w.heap[b]? = some (.cells #[.map (some mb)] 58 (0, 0))) (hm : MapIs w mb D) (hD : LOk D) :
    Calls Try.prog 12 #[.pointer (some ⟨b, 0, none⟩), .agg (adrCells a)] w fun e w' => e = .returned (.bool (hasB a D)) ∧ Below w.heap.size w w' := by
  have h1 := heap_alloc_new w (.cells (adrCells a) 23)
  have B0 : Below w.heap.size w (w.alloc (.cells (adrCells a) 23)) := (Below.refl _ _).alloc (Nat.le_refl _) _
  have r1 := range_adr h1
  have R1 := Lib.hid r1; have H1 := Lib.hid h1; have HB0 := Lib.hid B0; clear r1 h1 B0
  go_enter Try.func12, Try.ntmps12
  go_wp2_with (refine wpList_load_mid rfl 23 _ rfl w.heap.size 0 rfl (adrL a) _ R1.out Try.underlying23 rfl (info23 _) ?_)
  refine (link_any a _ ha).mono ?_
  rintro e w2 ⟨rfl, b2⟩
  have B2 := HB0.out.trans (b2.mono HB0.out.size)
  have h2 := (b2.block _ (lt_of_blk H1.out)).trans H1.out
  have hb2 := (B2.block b (lt_of_blk h)).trans h
  have hm2 := hm.below B2 hm.lt
  have H2 := Lib.hid h2; have HB2 := Lib.hid hb2; have BB := Lib.hid B2
  clear R1 H1 HB0 b2 h2 hb2 B2
  cases hl : linkB a with
  | true =>
    have e : hasB a D = true := by unfold hasB; rw [hl]; rfl
    have HE := Lib.hid e; clear e
    go_wp2_with fail
    go_ret
    exact ⟨by rw [HE.out]; rfl, BB.out⟩
  | false =>
    have e : hasB a D = hasMap a D := by unfold hasB; rw [hl]; rfl
    have HE := Lib.hid e; clear e
    go_wp2_with fail
    refine (there_any b mb _ HB2.out).mono ?_
    rintro e w3 ⟨rfl, rfl⟩
    have cb : w2.cell? ⟨b, 0, none⟩ = some (.map (some mb)) := cell_blk HB2.out 0
    go_wp2_with (at_range; refine wpList_range_own _ rfl _ 56 rfl 25 34 keyed Try.underlying56 _ mb _ _ rfl hm2 ?_; intro w4 rg4 gr4 sz4)
    have hgt : w.heap.size < w2.heap.size := lt_of_blk H2.out
    have I0 : HasInv b mb w.heap.size w2.heap.size a D (Maps.has D) (Maps.size D) w w4 :=
      ⟨rg4, fun kl h1 h2 => (by rw [h1] at h2; cases h2), fun kl h => h, (gr4.block _ hgt (by simp)).trans H2.out, BB.out.trans (((⟨gr4.os, gr4.tape, gr4.output, gr4.size, fun k hk => gr4.block k hk (by simp)⟩ : Below w2.heap.size w2 w4)).mono (by omega)), by omega, Nat.le_refl _⟩
    clear rg4 gr4 sz4 hm2 cb
    obtain ⟨r, hr⟩ : ∃ r, r = w2.heap.size := ⟨_, rfl⟩
    rw [← hr] at I0 ⊢
    obtain ⟨B1, hB1⟩ : ∃ B, B = w.heap.size := ⟨_, rfl⟩
    have I1 : HasInv b mb B1 r a D (Maps.has D) (Maps.size D) w w4 := by rw [hB1]; exact I0
    rw [← hB1]
    clear I0 hgt H2 HB2 BB hr hB1
    go_frame
    go_loopw [5] (fun _ wr => ∃ (left : Lit → Bool) (cnt : Nat), HasInv b mb B1 r a D left cnt w wr) (fun _ wr => wr.rangeLeft mb r)
    case atStart => exact ⟨_, _, I1⟩
    case round =>
      clear I1
      obtain ⟨left, cnt, I⟩ := hrel
      go_wp2_with (at_next; refine wpList_next_ranges _ rfl _ rfl 25 keyed (plainElem Try.prog 34) (fun v : Value => v) (Value.int .u64) (fun key _ _ => ⟨key, rfl⟩) (fun v y hv => by obtain ⟨c, rfl, _⟩ := plainElem_int_inv Try.underlying34 hv; exact ⟨c, rfl⟩) mb r _ D left cnt rfl I.rg ?_ ?_)
      · intro _ hl0
        go_wp2_with fail
        go_ret
        refine ⟨?_, I.below⟩
        rw [HE.out]
        cases hh : hasMap a D with
        | false => rfl
        | true =>
          obtain ⟨kl, hk, hw⟩ := (hasMap_iff hD).1 hh
          rw [I.no kl hk (hl0 kl)] at hw; cases hw
      · intro x c kl y yp w5 cnt5 hkey hlk hv hat rg5 hlt5 gr5 sz5 hen
        obtain ⟨p, n, hp, hn, rfl, hms⟩ := hD.keys kl (I.le kl hlk)
        have hx : x = .agg (preCells p n) := keyed.inj hkey (keyOf_pre p n hp (by omega))
        subst hx
        have hB1 : B1 ≠ r := by
          intro e
          obtain ⟨es, clock, since, seen, c0, _, _, _, _, hr, _⟩ := I.rg
          have := I.h1; rw [e, hr] at this; injection this with x; cases x
        have h15 : w5.heap[B1]? = some (.cells (adrCells a) 23 (0, 0)) := (gr5.block _ (lt_of_blk I.h1) (fun e => hB1 (by injection e))).trans I.h1
        have B5 : Below w.heap.size w w5 := I.below.grown gr5 I.below.size (fun k hk => by injection hk with e; rw [← e]; exact I.rlt)
        have I5 : HasInv b mb B1 r a D (fun z => left z && !z.sameKey (keyLit p n)) cnt5 w w5 → True := fun _ => trivial
        have t6 := Turned.setRow (heap_alloc_new w5 (.cells (preCells (fun _ => 0) 0) 25)) (preL p n).toArray
        have hnew := heap_alloc_new w5 (.cells (preCells (fun _ => 0) 0) 25)
        rw [← zeroPre] at t6 hnew
        have H6 := Lib.hid t6; have HN := Lib.hid hnew; clear t6 hnew
        have hsz : 17 = (preL p n).toArray.size := by simp [preL_length]
        have HS := Lib.hid hsz; clear hsz hat gr5 I5 sz5
        have hz5 : w5.heap.size ≠ B1 := by have := lt_of_blk h15; omega
        have t := H6.out
        have B6 : Below w5.heap.size w5 ((w5.alloc (.cells #[.int .u8 0, .int .u8 0, .int .u8 0, .int .u8 0, .int .u8 0, .int .u8 0, .int .u8 0, .int .u8 0, .int .u8 0, .int .u8 0, .int .u8 0, .int .u8 0, .int .u8 0, .int .u8 0, .int .u8 0, .int .u8 0, .int .u8 0] 25)).setRow w5.heap.size (preL p n).toArray) := ((Below.refl _ _).alloc (Nat.le_refl _) _).trans (t.below (Nat.le_refl _))
        have h16 := (B6.block _ (lt_of_blk h15)).trans h15
        have hn6 := t.get (by simp)
        have rg6 := rg5.kept (w' := (w5.alloc (.cells #[.int .u8 0, .int .u8 0, .int .u8 0, .int .u8 0, .int .u8 0, .int .u8 0, .int .u8 0, .int .u8 0, .int .u8 0, .int .u8 0, .int .u8 0, .int .u8 0, .int .u8 0, .int .u8 0, .int .u8 0, .int .u8 0, .int .u8 0] 25)).setRow w5.heap.size (preL p n).toArray) (row := none) ⟨B6.os, B6.tape, B6.output, B6.size, fun k hk _ => B6.block k hk⟩ (by simp) (by simp)
        have BW6 := B5.trans (B6.mono B5.size)
        have hb6 : w5.heap.size < ((w5.alloc (.cells #[.int .u8 0, .int .u8 0, .int .u8 0, .int .u8 0, .int .u8 0, .int .u8 0, .int .u8 0, .int .u8 0, .int .u8 0, .int .u8 0, .int .u8 0, .int .u8 0, .int .u8 0, .int .u8 0, .int .u8 0, .int .u8 0, .int .u8 0] 25)).setRow w5.heap.size (preL p n).toArray).heap.size := lt_of_blk hn6
        have RA := Lib.hid (range_adr h16)
        have RP := Lib.hid (range_preL hn6)
        have H16 := Lib.hid h16
        clear t H6 B6 rg5 B5 h15 hz5 h16 hn6
        have HB6 := Lib.hid hb6; have HRG := Lib.hid rg6; have HBW := Lib.hid BW6
        clear hb6 rg6 BW6
        go_wp2_with (first | (refine wpList_store_row rfl 25 _ _ rfl w5.heap.size (preL p n).toArray rfl rfl 25 _ HN.out (by rw [← HS.out]; kernel_rfl) HS.out (all_oneCell_toArray (preL_one _ _)) ?_) | (refine wpList_load_mid rfl 23 _ rfl B1 0 rfl (adrL a) _ RA.out Try.underlying23 rfl (info23 _) ?_) | (refine wpList_load_mid rfl 25 _ rfl w5.heap.size 0 rfl (preL p n) _ RP.out Try.underlying25 rfl (info25 _ _) ?_))
        have hb6 := HB6.out; have rg6 := HRG.out; have BW6 := HBW.out
        clear HB6 HRG HBW hen HN HS
        generalize (w5.alloc (.cells #[.int .u8 0, .int .u8 0, .int .u8 0, .int .u8 0, .int .u8 0, .int .u8 0, .int .u8 0, .int .u8 0, .int .u8 0, .int .u8 0, .int .u8 0, .int .u8 0, .int .u8 0, .int .u8 0, .int .u8 0, .int .u8 0, .int .u8 0] 25)).setRow w5.heap.size (preL p n).toArray = w6 at *
        refine (within_any a p n _ ha hp (by omega)).mono ?_
        rintro e w7 ⟨rfl, b7⟩
        have rg7 := rg6.kept (w' := w7) (row := none) ⟨b7.os, b7.tape, b7.output, b7.size, fun k hk _ => b7.block k hk⟩ (by simp) (by simp)
        have BW7 := BW6.trans (b7.mono BW6.size)
        have h17 := (b7.block _ (lt_of_blk H16.out)).trans H16.out
        clear rg6 BW6 b7 RA RP H16 hb6
        have hlit := litWithin_key (a := a) hp (show n < 256 by omega)
        cases hw : withinB a p n with
        | true =>
          rw [hw] at hlit
          go_wp2_with fail
          go_ret
          refine ⟨?_, BW7⟩
          rw [HE.out, (hasMap_iff hD).2 ⟨_, I.le _ hlk, hlit⟩]
          rfl
        | false =>
          rw [hw] at hlit
          have I7 : HasInv b mb B1 r a D (fun z => left z && !z.sameKey (keyLit p n)) cnt5 w w7 := by
            refine ⟨rg7, fun kl hk hl => ?_, fun kl hl => I.le kl (by simp at hl; exact hl.1), h17, BW7, I.rlt, I.b1⟩
            by_cases e : kl = keyLit p n
            · rw [e]; exact hlit
            · refine I.no kl hk ?_
              rw [Maps.sameKey_ne e] at hl
              simpa using hl
          have hle := rg7.left_eq
          have hlc := I.rg.left_eq
          have HLE := Lib.hid hle; have HLC := Lib.hid hlc
          clear rg7 BW7 h17 hle hlc
          go_wp2_with fail
          go_roundw
          case rel => exact ⟨_, _, I7⟩
          case measure => rw [HLE.out, HLC.out]; exact hlt5
end Go.Proofs.Ytkhbchgocilclaa
