/- The first part of each datagram whose time is over: the walks. No condition but that the pool is one. (Printed by gFX.py.) -/
import Derived.Test.YtjldcblklbikaaaFS
import Derived.Test.YtjldcblklbikaaaFT
import Derived.StillTactics
namespace Go.Proofs.Ytjldcblklbikaaa
open Go.RowKit
set_option linter.unusedVariables false
set_option linter.unusedSimpArgs false
set_option maxRecDepth 100000 in
set_option maxHeartbeats 1000000 in
theorem idx29_30 {A : Option Addr} {c B : Nat} {L : List El} {t : El → Bool} (w : World) (h : PksRd w B A L) (hB : B ≤ w.heap.size)
    (ht : ∀ (k : Nat) (e : El) (W : World), L[k]? = some e → Below w.heap.size w W → Calls Try.prog 30 #[.agg e.cells.toArray] W (BoolPost (t e) W)) :
    Calls Try.prog 29 #[.slice A L.length c, .func (.func 30) #[] #[]] w (IdxPost L t w) := by
  obtain ⟨n, hn⟩ : ∃ n, L.length = n := ⟨_, rfl⟩
  have HN := Lib.hid hn
  have hm := h.many
  have HO := Lib.hid h
  have HT := Lib.hid ht
  have HSZ := Lib.hid size43
  rw [hn] at hm ⊢
  clear h hn ht
  go_enter Try.func29, Try.ntmps29
  go_wp2_with fail
  go_loopw [8] (fun i wr => ∃ k : Nat, k ≤ n ∧ i = .int .i64 k ∧ (∀ j y, j < k → L[j]? = some y → t y = false) ∧ Below w.heap.size w wr) (fun i _ => n - (intOf i).toNat)
  case atStart => exact ⟨0, Nat.zero_le _, rfl, fun j y hj => absurd hj (by omega), Below.refl _ _⟩
  case round =>
    obtain ⟨k, hk, rfl, hno, hW⟩ := hrel
    have HNO := Lib.hid hno
    clear hno
    by_cases hlt : k < n
    · obtain ⟨x, hx⟩ : ∃ x, L[k]? = some x := ⟨L[k]'(by rw [HN.out]; exact hlt), List.getElem?_eq_getElem _⟩
      have hO := HO.out.below (hW.mono hB)
      obtain ⟨b, o, rfl, hb, hc⟩ := hO.at_ (by rintro rfl; simp at hx)
      have HR := Lib.hid (hc k x hx)
      have HC := Lib.hid (HT.out k x wr hx hW)
      have HX := Lib.hid hx
      have HW := Lib.hid hW
      have hsz := hW.size
      have HLEN := Lib.hid (El.at_ (hO.each x (List.mem_of_getElem? hx)).1).len
      obtain ⟨P, hP⟩ : ∃ P, P = x.cells := ⟨_, rfl⟩
      rw [← hP] at HR HC HLEN
      clear hx hO hc hW hP
      cases htx : t x with
      | true =>
        rw [htx] at HC
        have HTX := Lib.hid htx
        clear htx
        go_wp2_with (first | (refine wpList_load_mid rfl 43 (.tmp 14) ?ho b (o + k * 40) ?hx P _ ?hr Try.underlying43 rfl ?hi ?_; (case ho => with_reducible rfl); (case hx => rfl); (case hr => exact HR.out); (case hi => rw [HLEN.out]; exact HSZ.out)))
        refine (HC.out).mono ?_
        rintro e w1 ⟨rfl, hb1⟩
        have HB1 := Lib.hid (HW.out.trans (hb1.mono hsz))
        clear hb1 HC
        go_wp2_with fail
        go_ret
        exact ⟨some k, ⟨x, HX.out, HTX.out, HNO.out⟩, rfl, HB1.out⟩
      | false =>
        rw [htx] at HC
        have HNX : Hid (∀ j y, j < k + 1 → L[j]? = some y → t y = false) := Lib.hid (by
          intro j y hj hy
          rcases Nat.lt_or_ge j k with h1 | h1
          · exact HNO.out j y h1 hy
          · obtain rfl : j = k := by omega
            have := HX.out
            rw [hy] at this
            cases this
            exact htx)
        clear htx
        go_wp2_with (first | (refine wpList_load_mid rfl 43 (.tmp 14) ?ho b (o + k * 40) ?hx P _ ?hr Try.underlying43 rfl ?hi ?_; (case ho => with_reducible rfl); (case hx => rfl); (case hr => exact HR.out); (case hi => rw [HLEN.out]; exact HSZ.out)))
        refine (HC.out).mono ?_
        rintro e w1 ⟨rfl, hb1⟩
        have HB1 := Lib.hid (HW.out.trans (hb1.mono hsz))
        clear hb1 HC
        go_wp2_with fail
        go_roundw
        case rel => exact ⟨k + 1, by omega, by go_num, HNX.out, HB1.out⟩
        case measure => simp [intOf]; omega
    · obtain rfl : k = n := by omega
      clear hlt
      have HW := Lib.hid hW
      clear hW
      go_wp2_with fail
      go_ret
      refine ⟨none, fun x hx => ?_, rfl, HW.out⟩
      obtain ⟨j, hj⟩ := List.getElem?_of_mem hx
      exact HNO.out j x (by rw [← HN.out]; exact (List.getElem?_eq_some_iff.1 hj).1) hj
/-- the first part at the beginning, if it came -/
def first0 (L : List El) : List El := ((L.find? fun e => e.pk.off == 0).map fun e => [e]).getD []
theorem first0_of {L : List El} {r : Option Nat} (h : FirstB L (fun e => e.pk.off == 0) r) : first0 L = match r with | none => [] | some k => (L[k]?.map fun e => [e]).getD [] := by
  cases r with
  | none =>
    have e : L.find? (fun e => e.pk.off == 0) = none := List.find?_eq_none.2 (fun x hx => by have := h x hx; simpa using this)
    simp [first0, e]
  | some k =>
    obtain ⟨x, hx, ht, hno⟩ := h
    have e : L.find? (fun e => e.pk.off == 0) = some x := by
      rw [List.find?_eq_some_iff_getElem]
      refine ⟨ht, k, (List.getElem?_eq_some_iff.1 hx).1, (List.getElem?_eq_some_iff.1 hx).2, fun j hj => ?_⟩
      have hjl : j < L.length := by have := (List.getElem?_eq_some_iff.1 hx).1; omega
      have := hno j _ hj (List.getElem?_eq_getElem hjl)
      simpa using this
    simp [first0, e, hx]
/-- what is told of the first k datagrams -/
def outK (D : List Dg) (now k : Nat) : List El := (D.take k).flatMap fun d => if decide (d.over ≤ now) then first0 d.L else []
theorem outK_succ {D : List Dg} {now k : Nat} {d : Dg} (h : D[k]? = some d) : outK D now (k + 1) = outK D now k ++ (if decide (d.over ≤ now) then first0 d.L else []) := by
  unfold outK
  rw [List.take_add_one, h, Option.toList_some, List.flatMap_append]; simp
/-- the world while datagrams are asked -/
structure TS (w0 : World) (D : List Dg) (now p q g k : Nat) (W : World) : Prop where
  old : Kept (fun i => i = q ∨ i = g) w0 W
  box : ∃ vo, W.heap[q]? = some (.cells #[vo] 46 (0, 0)) ∧ W.ownsRow w0.heap.size 43 40 vo (outK D now k).length ((outK D now k).flatMap El.cells)
theorem kept_row {W W' : World} {B n : Nat} {v : Value} {L : List El} {F : Nat → Prop} (h : W.ownsRow B 43 40 v n (L.flatMap El.cells)) (hk : Kept F W W') (hF : ∀ i, F i → i < B) : W'.ownsRow B 43 40 v n (L.flatMap El.cells) :=
  own_keep h (fun i hi => hk.block i (own_lt h hi) (fun hf => by have := hF i hf; have := (h.lt i hi).1; omega))
set_option maxRecDepth 100000 in
set_option maxHeartbeats 4000000 in
theorem clos28 {w0 : World} {D : List Dg} {now p q g k : Nat} {d : Dg} (hD : ∀ d ∈ D, DgAt w0 d) (h4 : D.length ≤ 4) (hp : w0.heap[p]? = some (.cells #[.int .u64 (now : Int)] 34 (0, 0))) (hq : w0.heap[q]? = some (.cells #[.slice none 0 0] 46 (0, 0))) (hg : Kd w0 g 71) (hk : D[k]? = some d) (W : World) (hS : TS w0 D now p q g k W) :
    Calls Try.prog 28 #[ptrTo d, .pointer (some ⟨p, 0, none⟩), .pointer (some ⟨q, 0, none⟩)] W fun e w' => e = .returned (.bool (decide (d.over ≤ now))) ∧ TS w0 D now p q g (k + 1) w' ∧ w'.heap[g]? = W.heap[g]? := by
  have hdm := List.mem_of_getElem? hk
  have hd0 := hD d hdm
  have hkq : Kd w0 q 46 := ⟨_, _, hq⟩
  have hkp : Kd w0 p 34 := ⟨_, _, hp⟩
  have hne : ∀ i t, Kd w0 i t → t ≠ 46 → t ≠ 71 → W.heap[i]? = w0.heap[i]? := fun i t hi h1 h2 => by
    obtain ⟨cur, _, hc⟩ := hi
    refine hS.old.block i (lt_of_blk hc) (fun e => ?_)
    rcases e with rfl | rfl
    · exact h1 ((⟨_, _, hc⟩ : Kd w0 i t).one hkq)
    · exact h2 ((⟨_, _, hc⟩ : Kd w0 i t).one hg)
  have hdW : DgAt W d := hd0.keep (fun i hi => by
    rcases hi with (rfl | hi) | hi
    · exact hne _ 75 hd0.kdb (by decide) (by decide)
    · exact hne _ 43 (hd0.kdv hi) (by decide) (by decide)
    · exact hne _ 5 (hd0.kdo hi) (by decide) (by decide)) hS.old.size
  have hpW : W.heap[p]? = some (.cells #[.int .u64 (now : Int)] 34 (0, 0)) := (hne p 34 hkp (by decide) (by decide)).trans hp
  have c33 : W.cell? ⟨d.blk, 33, none⟩ = some (.int .u64 (d.over : Int)) := Dg.tail hdW 0
  have cp : W.cell? ⟨p, 0, none⟩ = some (.int .u64 (now : Int)) := by rw [cell_blk hpW]; rfl
  have HDW := Lib.hid hdW
  have HTS := Lib.hid hS
  have HSZ := Lib.hid size43
  have HSUC := Lib.hid (outK_succ (now := now) hk)
  have HNQ1 : Hid (d.blk ≠ q) := Lib.hid fun e => by have := (e ▸ hd0.kdb : Kd w0 q 75).one hkq; omega
  have HQL : Hid (q < w0.heap.size) := Lib.hid (lt_of_blk hq)
  have HGL : Hid (g < w0.heap.size ∧ g ≠ q) := Lib.hid ⟨by obtain ⟨_, _, h⟩ := hg; exact lt_of_blk h, fun e => by have := (e ▸ hg : Kd w0 q 71).one hkq; omega⟩
  have HDBL : Hid (d.blk < w0.heap.size) := Lib.hid (lt_of_blk hd0.blk)
  have HVK : Hid (∀ i, d.v.ownBlock = some i → i < w0.heap.size ∧ i ≠ q) := Lib.hid fun i hi => ⟨own_lt hd0.own hi, fun e => by have := (e ▸ hd0.kdv hi : Kd w0 q 43).one hkq; omega⟩
  have HLO : Hid ((outK D now k).length ≤ 1000) := Lib.hid (by
    have h1 : ∀ (M : List Dg), (M.flatMap fun d => if decide (d.over ≤ now) then first0 d.L else []).length ≤ M.length := by
      intro M
      induction M with
      | nil => exact Nat.le_refl _
      | cons m M ih =>
        rw [List.flatMap_cons, List.length_append, List.length_cons]
        have : (if decide (m.over ≤ now) then first0 m.L else []).length ≤ 1 := by
          split
          · unfold first0
            cases m.L.find? fun e => e.pk.off == 0 <;> simp
          · simp
        omega
    have h2 := h1 (D.take k)
    have h3 : (D.take k).length ≤ 4 := by rw [List.length_take]; omega
    unfold outK; omega)
  obtain ⟨db, hdb⟩ : ∃ b, b = d.blk := ⟨_, rfl⟩
  have hptr : ptrTo d = .pointer (some ⟨db, 0, none⟩) := by rw [hdb]; rfl
  rw [hptr]
  rw [← hdb] at c33 HNQ1 HDBL
  have HDB := Lib.hid hdb
  obtain ⟨ov, hov⟩ : ∃ o, o = d.over := ⟨_, rfl⟩
  rw [← hov] at c33 HSUC ⊢
  clear hdm hd0 hkq hkp hne hdW hpW hD hp hq hg hk hS hdb hptr hov
  go_enter Try.func28, Try.ntmps28
  go_upto_region 1 with (fail)
  by_cases hle : ov ≤ now
  · have t1 : ¬ (ov : Int) > now := by omega
    have HOV : Hid (decide (ov ≤ now) = true) := Lib.hid (decide_eq_true hle)
    clear hle
    go_still (by kernel_rfl)
    obtain ⟨W1, hW1⟩ : ∃ W', W' = W.drew := ⟨_, rfl⟩
    have h01 : Below W.heap.size W W1 := by rw [hW1]; exact (Below.refl _ _).drew
    change Exit.then _ _ _ _ W.drew
    rw [← hW1]
    have HTS1 : Hid (TS w0 D now p q g k W1) := Lib.hid (by rw [hW1]; exact ⟨HTS.out.old.trans (G := fun i => i = q ∨ i = g) (Kept.of_below ((Below.refl W.heap.size _).drew) (Nat.le_refl _)) (fun _ _ h => h), HTS.out.box⟩)
    have HG1 : Hid (W1.heap[g]? = W.heap[g]?) := Lib.hid (by rw [hW1]; rfl)
    have hd1 := HDW.out.keep (fun i hi => h01.block i (by
      rcases hi with (rfl | hi) | hi
      · exact lt_of_blk HDW.out.blk
      · exact own_lt HDW.out.own hi
      · obtain ⟨e, he, hi⟩ := hi
        exact (HDW.out.each e he).2.1.lt hi)) h01.size
    obtain ⟨A2, c2, hv, hP2⟩ := own_pks (B := 0) hd1.own (fun e he => ⟨(hd1.each e he).1, (hd1.each e he).2.1.bs, (hd1.each e he).2.2⟩) (by have := hd1.many; omega)
    have d35 : W1.cell? ⟨d.blk, 35, none⟩ = some (.slice A2 d.L.length c2) := by rw [← hv]; exact Dg.tail hd1 2
    have HD1 := Lib.hid hd1
    have HP2 := Lib.hid hP2
    have HV := Lib.hid hv
    have HM2 := Lib.hid hd1.many
    have H29 := Lib.hid (idx29_30 (c := c2) (t := fun e => e.pk.off == 0) W1 hP2 (Nat.le_refl _) (fun j e W' hj _ => clos30 W' (El.at_ (hP2.each e (List.mem_of_getElem? hj)).1)))
    rw [← HDB.out] at d35
    obtain ⟨n, hn⟩ : ∃ n, n = d.L.length := ⟨_, rfl⟩
    rw [← hn] at d35 H29
    have HN := Lib.hid hn
    have HW1 := Lib.hid h01
    clear hW1 h01 hd1 hv hP2 hn c33 cp
    go_wp2_with fail
    refine (H29.out).mono ?_
    rintro e W4 ⟨r, hr, rfl, hb4⟩
    have HF := Lib.hid (first0_of hr)
    have HTS4 : Hid (TS w0 D now p q g k W4) := Lib.hid ⟨HTS1.out.old.trans (G := fun i => i = q ∨ i = g) (Kept.of_below hb4 (Nat.le_refl _)) (fun _ _ h => h), by
      obtain ⟨vo, h1, h2⟩ := HTS1.out.box
      exact ⟨vo, (hb4.block q (lt_of_blk h1)).trans h1, own_below h2 hb4⟩⟩
    have HG4 : Hid (W4.heap[g]? = W.heap[g]?) := Lib.hid ((hb4.block g (by have := HTS1.out.old.size; have := HGL.out; omega)).trans HG1.out)
    have HB4 := Lib.hid hb4
    cases r with
    | none =>
      have HR := Lib.hid hr
      have tn : numK none = -1 := rfl
      rw [tn]
      have HSAME : Hid (outK D now (k + 1) = outK D now k) := Lib.hid (by rw [HSUC.out, HOV.out, HF.out]; simp)
      clear tn hb4
      go_wp2_with fail
      go_ret
      exact ⟨by rw [HOV.out]; rfl, ⟨HTS4.out.old, by rw [HSAME.out]; exact HTS4.out.box⟩, HG4.out⟩
    | some j =>
      obtain ⟨x, hx, -, -⟩ := id hr
      have tn : numK (some j) = (j : Int) := rfl
      rw [tn]
      have hxe := HD1.out.each x (List.mem_of_getElem? hx)
      obtain ⟨bL, oL, rfl, hbL, hcL⟩ := HP2.out.at_ (by rintro e; rw [e] at hx; simp at hx)
      have hjn : j < n := by rw [HN.out]; exact (List.getElem?_eq_some_iff.1 hx).1
      have hn32 : n ≤ 32 := by rw [HN.out]; exact HM2.out
      clear tn hb4
      go_upto_region 5 with (fail)
      obtain ⟨W5, hW5⟩ : ∃ W', W' = W4.drew := ⟨_, rfl⟩
      obtain ⟨vo, hq1, hq2⟩ := HTS4.out.box
      obtain ⟨qa, co, rfl, hco⟩ := own_slice2 hq2
      obtain ⟨no, hno⟩ : ∃ n, n = (outK D now k).length := ⟨_, rfl⟩
      rw [← hno] at hq1 hq2 hco
      have HNO : Hid ((outK D now k).length = no) := Lib.hid hno.symm
      have hno1 : no ≤ 1000 := by rw [hno]; exact HLO.out
      have HTS5 : Hid (TS w0 D now p q g k W5) := Lib.hid (by rw [hW5]; exact ⟨HTS4.out.old.trans (G := fun i => i = q ∨ i = g) (Kept.of_below ((Below.refl W4.heap.size _).drew) (Nat.le_refl _)) (fun _ _ h => h), HTS4.out.box⟩)
      have HG5 : Hid (W5.heap[g]? = W.heap[g]?) := Lib.hid (by rw [hW5]; exact HG4.out)
      have h45 : Below W4.heap.size W4 W5 := by rw [hW5]; exact (Below.refl _ _).drew
      have HW05 : Hid (w0.heap.size ≤ W5.heap.size) := Lib.hid HTS5.out.old.size
      obtain ⟨X, hX⟩ : ∃ X, X = x.cells := ⟨_, rfl⟩
      have HXE : Hid (x.cells = X) := Lib.hid hX.symm
      have HXL : Hid (X.length = 40) := Lib.hid (by rw [hX]; exact (El.at_ hxe.1).len)
      have HXO : Hid (∀ v ∈ X, v.oneCell' = true) := Lib.hid (by rw [hX]; exact (El.at_ hxe.1).one)
      have hr5 : W5.rangeAt bL (oL + j * 40) X := by
        rw [hX]
        exact range_keep (hcL j x hx) ((h45.block bL (by have := HB4.out.size; omega)).trans (HB4.out.block bL hbL))
      have hbv := HVK.out bL (by rw [HV.out]; rfl)
      have HBLL : Hid (bL < w0.heap.size) := Lib.hid hbv.1
      have HNQ : Hid (db ≠ q ∧ bL ≠ q) := Lib.hid ⟨HNQ1.out, hbv.2⟩
      have hc5 : W5.cell? ⟨db, 35, none⟩ = some (.slice (some ⟨bL, oL, none⟩) n c2) := by
        have h1 := HB4.out.cell (p := ⟨db, 35, none⟩) (by have := HW1.out.size; have := HTS.out.old.size; have := HDBL.out; show db < _; omega)
        rw [hW5]
        exact h1.trans d35
      have HS5 : Hid (W5.cell? ⟨db, 35, none⟩ = some (.slice (some ⟨bL, oL, none⟩) n c2) ∧ W5.rangeAt bL (oL + j * 40) X) := Lib.hid ⟨hc5, hr5⟩
      have HSUC2 : Hid (outK D now (k + 1) = outK D now k ++ [x]) := Lib.hid (by rw [HSUC.out, HOV.out, HF.out, hx]; rfl)
      have hq5 : W5.heap[q]? = some (.cells #[.slice qa no co] 46 (0, 0)) := by rw [hW5]; exact hq1
      have h67 : Below W5.heap.size W5 (W5.alloc (.cells X.toArray 43)) := (Below.refl _ _).alloc (Nat.le_refl _) _
      have H67 := Lib.hid h67
      have g0 : W5.cell? ⟨q, 0, none⟩ = some (.slice qa no co) := by rw [cell_blk hq5]; rfl
      have g1 : (W5.alloc (.cells X.toArray 43)).cell? ⟨q, 0, none⟩ = some (.slice qa no co) := (h67.cell (p := ⟨q, 0, none⟩) (lt_of_cell g0)).trans g0
      have HQ7 : Hid ((W5.alloc (.cells X.toArray 43)).heap[q]? = some (.cells #[.slice qa no co] 46 (0, 0))) := Lib.hid ((h67.block q (lt_of_blk hq5)).trans hq5)
      have HROW : Hid ((W5.alloc (.cells X.toArray 43)).ownsRow w0.heap.size 43 40 (.slice qa no co) no ((outK D now k).flatMap El.cells)) := Lib.hid (own_below (own_below hq2 h45) h67)
      have HBS : Hid (w0.heap.size ≤ (W5.alloc (.cells X.toArray 43)).heap.size) := Lib.hid (by have := HW05.out; have := h67.size; omega)
      have HS7 : Hid ((W5.alloc (.cells X.toArray 43)).cell? ⟨db, 35, none⟩ = some (.slice (some ⟨bL, oL, none⟩) n c2) ∧ (W5.alloc (.cells X.toArray 43)).rangeAt bL (oL + j * 40) X) := Lib.hid ⟨(h67.cell (p := ⟨db, 35, none⟩) (lt_of_cell hc5)).trans hc5, range_keep hr5 (h67.block bL (by have := HW05.out; have := HBLL.out; omega))⟩
      have HC2 : Hid (∀ i u, X[i]? = some u → (W5.alloc (.cells X.toArray 43)).cell? ((⟨W5.heap.size, 0, none⟩ : Addr).add i) = some u) := Lib.hid (by
        intro i u hj
        rw [Addr.add_mid, Nat.zero_add]
        have c := cell_blk (heap_alloc_new W5 (.cells X.toArray 43)) i
        exact c.trans (by simpa using hj))
      have HFILL : Hid (Instr.fill (fun i => some (i * 40, 40)) ((Array.range (1 * 40)).map ((Value.agg (pkL nilPk none 0).toArray).cells[· % (Value.agg (pkL nilPk none 0).toArray).cells.size]!)) [(0, .agg X.toArray)] = some X.toArray) := Lib.hid (by rw [hX]; exact fill43 (x := x.pk) hxe.1.src hxe.1.dst rfl)
      obtain ⟨i43, hi, hz0, hz1, hz2⟩ := info_parts info43
      have hS : W5.cell? ⟨db, 35, none⟩ = some (.slice (some ⟨bL, oL, none⟩) n c2) ∧ W5.rangeAt bL (oL + j * 40) X := HS5.out
      rw [hW5] at hS
      clear hq1 hq2 hco hno h45 hX hr5 hbv hc5 hq5 h67 hxe hcL hbL hx
      refine wp_region_held_drew (S := fun W => W.cell? ⟨db, 35, none⟩ = some (.slice (some ⟨bL, oL, none⟩) n c2) ∧ W.rangeAt bL (oL + j * 40) X) (by kernel_rfl) hS ?_
      rw [← hW5]
      clear hS hW5 d35
      intro HS
      refine wpAnyH_take (i := 1) (v := ?_) rfl (by kernel_rfl) (by kernel_rfl) (by kernel_rfl) (fun _ _ _ h => h) (Or.inl ⟨by go_simp, ?hy⟩) HS ?_
      case hy => intro W hW; go_simp; (try with_reducible rfl)
      try simp only [List.getElem_toArray, List.getElem_cons_zero, List.getElem_cons_succ, Act.put, List.setIfInBounds_toArray, List.set_cons_zero, List.set_cons_succ]
      refine wpAnyH_take (i := 2) (v := ?_) rfl (by kernel_rfl) (by kernel_rfl) (by kernel_rfl) (fun _ _ _ h => h) (Or.inl ⟨by go_simp, ?hy⟩) HS ?_
      case hy => intro W hW; go_simp; (try with_reducible rfl)
      try simp only [List.getElem_toArray, List.getElem_cons_zero, List.getElem_cons_succ, Act.put, List.setIfInBounds_toArray, List.set_cons_zero, List.set_cons_succ]
      refine wpAnyH_take (i := 3) (v := ?_) rfl (by kernel_rfl) (by kernel_rfl) (by kernel_rfl) (fun _ _ _ h => h) (Or.inl ⟨by go_simp, ?hy⟩) HS ?_
      case hy => intro W hW; go_simp; (try with_reducible rfl)
      try simp only [List.getElem_toArray, List.getElem_cons_zero, List.getElem_cons_succ, Act.put, List.setIfInBounds_toArray, List.set_cons_zero, List.set_cons_succ]
      refine wpAnyH_take (i := 4) (v := ?_) rfl (by kernel_rfl) (by kernel_rfl) (by kernel_rfl) (fun _ _ _ h => h) (Or.inl ⟨by go_simp, ?hy⟩) HS ?_
      case hy => intro W hW; have d := hW.1; go_simp; (try with_reducible rfl)
      try simp only [List.getElem_toArray, List.getElem_cons_zero, List.getElem_cons_succ, Act.put, List.setIfInBounds_toArray, List.set_cons_zero, List.set_cons_succ]
      refine wpAnyH_take (i := 5) (v := ?_) rfl (by kernel_rfl) (by kernel_rfl) (by kernel_rfl) (fun _ _ _ h => h) (Or.inl ⟨by go_simp, ?hy⟩) HS ?_
      case hy => intro W hW; go_simp; (try with_reducible rfl)
      try simp only [List.getElem_toArray, List.getElem_cons_zero, List.getElem_cons_succ, Act.put, List.setIfInBounds_toArray, List.set_cons_zero, List.set_cons_succ]
      refine wpAnyH_take (i := 6) (v := ?_) rfl (by kernel_rfl) (by kernel_rfl) (by kernel_rfl) (fun _ _ _ h => h) (Or.inl ⟨by go_simp, ?hy⟩) HS ?_
      case hy => intro W hW; go_simp; (try with_reducible rfl)
      try simp only [List.getElem_toArray, List.getElem_cons_zero, List.getElem_cons_succ, Act.put, List.setIfInBounds_toArray, List.set_cons_zero, List.set_cons_succ]
      refine wpAnyH_take (i := 7) (v := .agg X.toArray) rfl (by kernel_rfl) (by kernel_rfl) (by kernel_rfl) (fun _ _ _ h => h) (by refine yieldsIf_load_mid ?hw 43 (.tmp 25) ?ho bL (oL + j * 40) ?hx X _ (fun W hW => hW.2) Try.underlying43 rfl (by rw [HXL.out]; exact HSZ.out); (case ho => rfl); (case hw => go_simp); (case hx => go_simp)) HS ?_
      try simp only [List.getElem_toArray, List.getElem_cons_zero, List.getElem_cons_succ, Act.put, List.setIfInBounds_toArray, List.set_cons_zero, List.set_cons_succ]
      refine wpAnyH_ready (rs := [0, 8]) (by kernel_rfl) (by simp) ?_
      refine AllReadyH.cons rfl (fun K hK => ?_) (AllReadyH.cons rfl (fun K hK => ?_) AllReadyH.nil)
      · rw [if_pos (by kernel_rfl)]
        simp only [List.getElem_toArray, List.getElem_cons_zero, List.getElem_cons_succ]
        go_simp
        refine hK.out _ _ HS (fun HS => ?_)
        clear hK
        try simp only [List.getElem_toArray, List.getElem_cons_zero, List.getElem_cons_succ, Act.put, List.setIfInBounds_toArray, List.set_cons_zero, List.set_cons_succ]
        refine wpAnyH_ready (rs := [8]) (by kernel_rfl) (by simp) ?_
        refine AllReadyH.cons rfl (fun K hK => ?_) AllReadyH.nil
        rw [if_pos (by kernel_rfl)]
        simp only [List.getElem_toArray, List.getElem_cons_zero, List.getElem_cons_succ]
        refine wp_buildSlice1 46 43 1 0 (.tmp 26) rfl (.agg X.toArray) rfl X.toArray i43 _ Try.underlying46 hi hz0 (by rw [hz1]; decide) (by rw [hz1]; decide) (by rw [hz1]; exact HFILL.out) ?_
        refine hK.out _ _ HS7.out (fun HS => ?_)
        clear hK
        try simp only [List.getElem_toArray, List.getElem_cons_zero, List.getElem_cons_succ, Act.put, List.setIfInBounds_toArray, List.set_cons_zero, List.set_cons_succ]
        refine wpAnyH_ready (rs := [9]) (by kernel_rfl) (by simp) ?_
        refine AllReadyH.cons rfl (fun K hK => ?_) AllReadyH.nil
        rw [if_pos (by kernel_rfl)]
        simp only [List.getElem_toArray, List.getElem_cons_zero, List.getElem_cons_succ]
        refine wp_append_own2 _ _ _ 46 rfl w0.heap.size 43 i43 _ 40 80 Try.underlying46 hi hz0 hz1 hz2 (by kernel_rfl) (by decide) (.slice qa no co) no ((outK D now k).flatMap El.cells) rfl HROW.out ⟨W5.heap.size, 0, none⟩ 1 1 X (by decide) rfl (by rw [HXL.out]) HC2.out HXO.out (by unfold maxLen; omega) (by omega) HBS.out ?_
        intro v' w8 ho hg8 hwh
        obtain ⟨q2, cq2, hv2, -⟩ := own_slice2 ho
        have hq8 : w8.heap[q]? = some (.cells #[.slice qa no co] 46 (0, 0)) := (hg8.block q (by have := lt_of_blk HQ7.out; exact this) (fun e => by
          have := (HROW.out.lt q e.symm).1
          have := HQL.out; omega)).trans HQ7.out
        have t8 := Turned.setCell hq8 0 v'
        have hset : (#[Value.slice qa no co] : Array Value).setIfInBounds 0 v' = #[v'] := rfl
        rw [hset] at t8
        obtain ⟨W9, hW9⟩ : ∃ W, W = w8.setCell ⟨q, 0, none⟩ v' := ⟨_, rfl⟩
        rw [← hW9] at t8
        have k8 : w8.cell? ⟨q, 0, none⟩ = some (.slice qa no co) := by rw [cell_blk hq8]; rfl
        have f8 := frozen_blk hq8 0
        have hold : ∀ i, i < w0.heap.size → i ≠ q → W9.heap[i]? = W5.heap[i]? := fun i hi hne =>
          ((t8.other hne).trans (hg8.block i (by have := HW05.out; have := H67.out.size; omega) (fun e => by have := (HROW.out.lt i e.symm).1; omega))).trans (H67.out.block i (by have := HW05.out; omega))
        have hold8 : ∀ i, i < w0.heap.size → w8.heap[i]? = W5.heap[i]? := fun i hi =>
          (hg8.block i (by have := HW05.out; have := H67.out.size; omega) (fun e => by have := (HROW.out.lt i e.symm).1; omega)).trans (H67.out.block i (by have := HW05.out; omega))
        have HEND : Hid (TS w0 D now p q g (k + 1) W9 ∧ W9.heap[g]? = W5.heap[g]?) := Lib.hid (by
          refine ⟨⟨HTS5.out.old.trans (G := fun i => i = q ∨ w0.heap.size ≤ i) ⟨t8.os.trans (hg8.os.trans H67.out.os), t8.tape.trans (hg8.tape.trans H67.out.tape), t8.output.trans (hg8.output.trans H67.out.output), by have := t8.size; have := hg8.size; have := H67.out.size; omega, fun i hi hne => hold i (Nat.lt_of_not_le fun h => hne (.inr h)) (fun e => hne (.inl e))⟩ (fun i hi e => e.elim .inl (fun h => by omega)), v', t8.get (lt_of_blk hq8), ?_⟩, hold g HGL.out.1 HGL.out.2⟩
          rw [HSUC2.out, List.length_append, List.flatMap_append, List.length_singleton, List.flatMap_cons, List.flatMap_nil, List.append_nil]
          rw [HNO.out, HXE.out]
          exact own_keep ho (fun i hi => t8.other (fun e => by have := (ho.lt i hi).1; have := HQL.out; omega)))
        have HS8 : Hid (w8.cell? ⟨db, 35, none⟩ = some (.slice (some ⟨bL, oL, none⟩) n c2) ∧ w8.rangeAt bL (oL + j * 40) X) := Lib.hid ⟨by
          rw [← HS5.out.1]
          exact World.cell?_of_block (w := W5) (a := ⟨db, 35, none⟩) (hold8 db HDBL.out), range_keep HS5.out.2 (hold8 bL HBLL.out)⟩
        have HS9 : Hid (W9.cell? ⟨db, 35, none⟩ = some (.slice (some ⟨bL, oL, none⟩) n c2) ∧ W9.rangeAt bL (oL + j * 40) X) := Lib.hid ⟨by
          rw [← HS5.out.1]
          exact World.cell?_of_block (w := W5) (a := ⟨db, 35, none⟩) (hold db HDBL.out HNQ.out.1), range_keep HS5.out.2 (hold bL HBLL.out HNQ.out.2)⟩
        have HW9 := Lib.hid hW9
        rw [hv2] at HW9 ⊢
        clear ho hg8 hwh hv2 hq8 t8 hset hW9 hold hold8
        refine hK.out _ _ HS8.out (fun HS => ?_)
        clear hK
        try simp only [List.getElem_toArray, List.getElem_cons_zero, List.getElem_cons_succ, Act.put, List.setIfInBounds_toArray, List.set_cons_zero, List.set_cons_succ]
        refine wpAnyH_ready (rs := [10]) (by kernel_rfl) (by simp) ?_
        refine AllReadyH.cons rfl (fun K hK => ?_) AllReadyH.nil
        rw [if_pos (by kernel_rfl)]
        simp only [List.getElem_toArray, List.getElem_cons_zero, List.getElem_cons_succ]
        go_simp
        rw [← HW9.out]
        refine hK.out _ _ HS9.out (fun HS => ?_)
        clear hK
        try simp only [List.getElem_toArray, List.getElem_cons_zero, List.getElem_cons_succ, Act.put, List.setIfInBounds_toArray, List.set_cons_zero, List.set_cons_succ]
        refine wpAnyH_done (by kernel_rfl) ?_ _
        go_wp2_with fail
        go_ret
        exact ⟨by rw [HOV.out]; rfl, HEND.out.1, HEND.out.2.trans HG5.out⟩
      · rw [if_pos (by kernel_rfl)]
        simp only [List.getElem_toArray, List.getElem_cons_zero, List.getElem_cons_succ]
        refine wp_buildSlice1 46 43 1 0 (.tmp 26) rfl (.agg X.toArray) rfl X.toArray i43 _ Try.underlying46 hi hz0 (by rw [hz1]; decide) (by rw [hz1]; decide) (by rw [hz1]; exact HFILL.out) ?_
        refine hK.out _ _ HS7.out (fun HS => ?_)
        clear hK
        try simp only [List.getElem_toArray, List.getElem_cons_zero, List.getElem_cons_succ, Act.put, List.setIfInBounds_toArray, List.set_cons_zero, List.set_cons_succ]
        refine wpAnyH_ready (rs := [0]) (by kernel_rfl) (by simp) ?_
        refine AllReadyH.cons rfl (fun K hK => ?_) AllReadyH.nil
        rw [if_pos (by kernel_rfl)]
        simp only [List.getElem_toArray, List.getElem_cons_zero, List.getElem_cons_succ]
        go_simp
        refine hK.out _ _ HS (fun HS => ?_)
        clear hK
        try simp only [List.getElem_toArray, List.getElem_cons_zero, List.getElem_cons_succ, Act.put, List.setIfInBounds_toArray, List.set_cons_zero, List.set_cons_succ]
        refine wpAnyH_ready (rs := [9]) (by kernel_rfl) (by simp) ?_
        refine AllReadyH.cons rfl (fun K hK => ?_) AllReadyH.nil
        rw [if_pos (by kernel_rfl)]
        simp only [List.getElem_toArray, List.getElem_cons_zero, List.getElem_cons_succ]
        refine wp_append_own2 _ _ _ 46 rfl w0.heap.size 43 i43 _ 40 80 Try.underlying46 hi hz0 hz1 hz2 (by kernel_rfl) (by decide) (.slice qa no co) no ((outK D now k).flatMap El.cells) rfl HROW.out ⟨W5.heap.size, 0, none⟩ 1 1 X (by decide) rfl (by rw [HXL.out]) HC2.out HXO.out (by unfold maxLen; omega) (by omega) HBS.out ?_
        intro v' w8 ho hg8 hwh
        obtain ⟨q2, cq2, hv2, -⟩ := own_slice2 ho
        have hq8 : w8.heap[q]? = some (.cells #[.slice qa no co] 46 (0, 0)) := (hg8.block q (by have := lt_of_blk HQ7.out; exact this) (fun e => by
          have := (HROW.out.lt q e.symm).1
          have := HQL.out; omega)).trans HQ7.out
        have t8 := Turned.setCell hq8 0 v'
        have hset : (#[Value.slice qa no co] : Array Value).setIfInBounds 0 v' = #[v'] := rfl
        rw [hset] at t8
        obtain ⟨W9, hW9⟩ : ∃ W, W = w8.setCell ⟨q, 0, none⟩ v' := ⟨_, rfl⟩
        rw [← hW9] at t8
        have k8 : w8.cell? ⟨q, 0, none⟩ = some (.slice qa no co) := by rw [cell_blk hq8]; rfl
        have f8 := frozen_blk hq8 0
        have hold : ∀ i, i < w0.heap.size → i ≠ q → W9.heap[i]? = W5.heap[i]? := fun i hi hne =>
          ((t8.other hne).trans (hg8.block i (by have := HW05.out; have := H67.out.size; omega) (fun e => by have := (HROW.out.lt i e.symm).1; omega))).trans (H67.out.block i (by have := HW05.out; omega))
        have hold8 : ∀ i, i < w0.heap.size → w8.heap[i]? = W5.heap[i]? := fun i hi =>
          (hg8.block i (by have := HW05.out; have := H67.out.size; omega) (fun e => by have := (HROW.out.lt i e.symm).1; omega)).trans (H67.out.block i (by have := HW05.out; omega))
        have HEND : Hid (TS w0 D now p q g (k + 1) W9 ∧ W9.heap[g]? = W5.heap[g]?) := Lib.hid (by
          refine ⟨⟨HTS5.out.old.trans (G := fun i => i = q ∨ w0.heap.size ≤ i) ⟨t8.os.trans (hg8.os.trans H67.out.os), t8.tape.trans (hg8.tape.trans H67.out.tape), t8.output.trans (hg8.output.trans H67.out.output), by have := t8.size; have := hg8.size; have := H67.out.size; omega, fun i hi hne => hold i (Nat.lt_of_not_le fun h => hne (.inr h)) (fun e => hne (.inl e))⟩ (fun i hi e => e.elim .inl (fun h => by omega)), v', t8.get (lt_of_blk hq8), ?_⟩, hold g HGL.out.1 HGL.out.2⟩
          rw [HSUC2.out, List.length_append, List.flatMap_append, List.length_singleton, List.flatMap_cons, List.flatMap_nil, List.append_nil]
          rw [HNO.out, HXE.out]
          exact own_keep ho (fun i hi => t8.other (fun e => by have := (ho.lt i hi).1; have := HQL.out; omega)))
        have HS8 : Hid (w8.cell? ⟨db, 35, none⟩ = some (.slice (some ⟨bL, oL, none⟩) n c2) ∧ w8.rangeAt bL (oL + j * 40) X) := Lib.hid ⟨by
          rw [← HS5.out.1]
          exact World.cell?_of_block (w := W5) (a := ⟨db, 35, none⟩) (hold8 db HDBL.out), range_keep HS5.out.2 (hold8 bL HBLL.out)⟩
        have HS9 : Hid (W9.cell? ⟨db, 35, none⟩ = some (.slice (some ⟨bL, oL, none⟩) n c2) ∧ W9.rangeAt bL (oL + j * 40) X) := Lib.hid ⟨by
          rw [← HS5.out.1]
          exact World.cell?_of_block (w := W5) (a := ⟨db, 35, none⟩) (hold db HDBL.out HNQ.out.1), range_keep HS5.out.2 (hold bL HBLL.out HNQ.out.2)⟩
        have HW9 := Lib.hid hW9
        rw [hv2] at HW9 ⊢
        clear ho hg8 hwh hv2 hq8 t8 hset hW9 hold hold8
        refine hK.out _ _ HS8.out (fun HS => ?_)
        clear hK
        try simp only [List.getElem_toArray, List.getElem_cons_zero, List.getElem_cons_succ, Act.put, List.setIfInBounds_toArray, List.set_cons_zero, List.set_cons_succ]
        refine wpAnyH_ready (rs := [10]) (by kernel_rfl) (by simp) ?_
        refine AllReadyH.cons rfl (fun K hK => ?_) AllReadyH.nil
        rw [if_pos (by kernel_rfl)]
        simp only [List.getElem_toArray, List.getElem_cons_zero, List.getElem_cons_succ]
        go_simp
        rw [← HW9.out]
        refine hK.out _ _ HS9.out (fun HS => ?_)
        clear hK
        try simp only [List.getElem_toArray, List.getElem_cons_zero, List.getElem_cons_succ, Act.put, List.setIfInBounds_toArray, List.set_cons_zero, List.set_cons_succ]
        refine wpAnyH_done (by kernel_rfl) ?_ _
        go_wp2_with fail
        go_ret
        exact ⟨by rw [HOV.out]; rfl, HEND.out.1, HEND.out.2.trans HG5.out⟩
  · have t1 : (ov : Int) > now := by omega
    have HOV : Hid (decide (ov ≤ now) = false) := Lib.hid (decide_eq_false hle)
    clear hle
    go_still (by kernel_rfl)
    have HTS1 : Hid (TS w0 D now p q g k W.drew) := Lib.hid ⟨HTS.out.old.trans (G := fun i => i = q ∨ i = g) (Kept.of_below ((Below.refl W.heap.size _).drew) (Nat.le_refl _)) (fun _ _ h => h), HTS.out.box⟩
    change Exit.then _ _ _ _ W.drew
    have HSAME : Hid (outK D now (k + 1) = outK D now k) := Lib.hid (by rw [HSUC.out, HOV.out]; simp)
    go_wp2_with fail
    go_ret
    exact ⟨by rw [HOV.out]; rfl, ⟨HTS1.out.old, by rw [HSAME.out]; exact HTS1.out.box⟩, rfl⟩
end Go.Proofs.Ytjldcblklbikaaa
