/- Several texts in one: FX, FY. No condition beyond those that each part names. -/
import Derived.Test.YtjldcblklbikaaaFS
import Derived.StillTactics
/- The first part of each datagram whose time is over: the walks. No condition but that the pool is one. (Printed by gFX.py.) -/
namespace Go.Proofs.Ytjldcblklbikaaa
open Go.RowKit
set_option linter.unusedVariables false
set_option linter.unusedSimpArgs false
set_option maxRecDepth 100000 in
set_option maxHeartbeats 1000000 in
theorem idx29_30 {A : Option Addr} {c B : Nat} {L : List El} {t : El → Bool} (w : World) (h : PksRd w B A L) (hB : B ≤ w.heap.size)
    (ht : ∀ (k : Nat) (e : El) (W : World), L[k]? = some e → Below w.heap.size w W → Calls Try.prog 30 #[.agg e.cells.toArray] W (BoolPost (t e) W)) :
    Calls Try.prog 29 #[.slice A L.length c, .func (.func 30) #[] #[]] w (IdxPost L t w) := by
  obtain ⟨n, hn⟩ : ∃ n, L.length = n := ⟨_, rfl⟩
  have HN := Lib.hid hn
  have hm := h.many
  have HO := Lib.hid h
  have HT := Lib.hid ht
  have HSZ := Lib.hid size43
  rw [hn] at hm ⊢
  clear h hn ht
  go_enter Try.func29, Try.ntmps29
  go_wp2_with fail
  go_loopw [8] (fun i wr => ∃ k : Nat, k ≤ n ∧ i = .int .i64 k ∧ (∀ j y, j < k → L[j]? = some y → t y = false) ∧ Below w.heap.size w wr) (fun i _ => n - (intOf i).toNat)
  case atStart => exact ⟨0, Nat.zero_le _, rfl, fun j y hj => absurd hj (by omega), Below.refl _ _⟩
  case round =>
    obtain ⟨k, hk, rfl, hno, hW⟩ := hrel
    have HNO := Lib.hid hno
    clear hno
    by_cases hlt : k < n
    · obtain ⟨x, hx⟩ : ∃ x, L[k]? = some x := ⟨L[k]'(by rw [HN.out]; exact hlt), List.getElem?_eq_getElem _⟩
      have hO := HO.out.below (hW.mono hB)
      obtain ⟨b, o, rfl, hb, hc⟩ := hO.at_ (by rintro rfl; simp at hx)
      have HR := Lib.hid (hc k x hx)
      have HC := Lib.hid (HT.out k x wr hx hW)
      have HX := Lib.hid hx
      have HW := Lib.hid hW
      have hsz := hW.size
      have HLEN := Lib.hid (El.at_ (hO.each x (List.mem_of_getElem? hx)).1).len
      obtain ⟨P, hP⟩ : ∃ P, P = x.cells := ⟨_, rfl⟩
      rw [← hP] at HR HC HLEN
      clear hx hO hc hW hP
      cases htx : t x with
      | true =>
        rw [htx] at HC
        have HTX := Lib.hid htx
        clear htx
        go_wp2_with (first | (refine wpList_load_mid rfl 43 (.tmp 14) ?ho b (o + k * 40) ?hx P _ ?hr Try.underlying43 rfl ?hi ?_; (case ho => with_reducible rfl); (case hx => rfl); (case hr => exact HR.out); (case hi => rw [HLEN.out]; exact HSZ.out)))
        refine (HC.out).mono ?_
        rintro e w1 ⟨rfl, hb1⟩
        have HB1 := Lib.hid (HW.out.trans (hb1.mono hsz))
        clear hb1 HC
        go_wp2_with fail
        go_ret
        exact ⟨some k, ⟨x, HX.out, HTX.out, HNO.out⟩, rfl, HB1.out⟩
      | false =>
        rw [htx] at HC
        have HNX : Hid (∀ j y, j < k + 1 → L[j]? = some y → t y = false) := Lib.hid (by
          intro j y hj hy
          rcases Nat.lt_or_ge j k with h1 | h1
          · exact HNO.out j y h1 hy
          · obtain rfl : j = k := by omega
            have := HX.out
            rw [hy] at this
            cases this
            exact htx)
        clear htx
        go_wp2_with (first | (refine wpList_load_mid rfl 43 (.tmp 14) ?ho b (o + k * 40) ?hx P _ ?hr Try.underlying43 rfl ?hi ?_; (case ho => with_reducible rfl); (case hx => rfl); (case hr => exact HR.out); (case hi => rw [HLEN.out]; exact HSZ.out)))
        refine (HC.out).mono ?_
        rintro e w1 ⟨rfl, hb1⟩
        have HB1 := Lib.hid (HW.out.trans (hb1.mono hsz))
        clear hb1 HC
        go_wp2_with fail
        go_roundw
        case rel => exact ⟨k + 1, by omega, by go_num, HNX.out, HB1.out⟩
        case measure => simp [intOf]; omega
    · obtain rfl : k = n := by omega
      clear hlt
      have HW := Lib.hid hW
      clear hW
      go_wp2_with fail
      go_ret
      refine ⟨none, fun x hx => ?_, rfl, HW.out⟩
      obtain ⟨j, hj⟩ := List.getElem?_of_mem hx
      exact HNO.out j x (by rw [← HN.out]; exact (List.getElem?_eq_some_iff.1 hj).1) hj
/-- the first part at the beginning, if it came -/
def first0 (L : List El) : List El := ((L.find? fun e => e.pk.off == 0).map fun e => [e]).getD []
theorem first0_of {L : List El} {r : Option Nat} (h : FirstB L (fun e => e.pk.off == 0) r) : first0 L = match r with | none => [] | some k => (L[k]?.map fun e => [e]).getD [] := by
  cases r with
  | none =>
    have e : L.find? (fun e => e.pk.off == 0) = none := List.find?_eq_none.2 (fun x hx => by have := h x hx; simpa using this)
    simp [first0, e]
  | some k =>
    obtain ⟨x, hx, ht, hno⟩ := h
    have e : L.find? (fun e => e.pk.off == 0) = some x := by
      rw [List.find?_eq_some_iff_getElem]
      refine ⟨ht, k, (List.getElem?_eq_some_iff.1 hx).1, (List.getElem?_eq_some_iff.1 hx).2, fun j hj => ?_⟩
      have hjl : j < L.length := by have := (List.getElem?_eq_some_iff.1 hx).1; omega
      have := hno j _ hj (List.getElem?_eq_getElem hjl)
      simpa using this
    simp [first0, e, hx]
/-- what is told of the first k datagrams -/
def outK (D : List Dg) (now k : Nat) : List El := (D.take k).flatMap fun d => if decide (d.over ≤ now) then first0 d.L else []
theorem outK_succ {D : List Dg} {now k : Nat} {d : Dg} (h : D[k]? = some d) : outK D now (k + 1) = outK D now k ++ (if decide (d.over ≤ now) then first0 d.L else []) := by
  unfold outK
  rw [List.take_add_one, h, Option.toList_some, List.flatMap_append]; simp
/-- the world while datagrams are asked -/
structure TS (w0 : World) (D : List Dg) (now p q g k : Nat) (W : World) : Prop where
  old : Kept (fun i => i = q ∨ i = g) w0 W
  box : ∃ vo, W.heap[q]? = some (.cells #[vo] 46 (0, 0)) ∧ W.ownsRow w0.heap.size 43 40 vo (outK D now k).length ((outK D now k).flatMap El.cells)
theorem kept_row {W W' : World} {B n : Nat} {v : Value} {L : List El} {F : Nat → Prop} (h : W.ownsRow B 43 40 v n (L.flatMap El.cells)) (hk : Kept F W W') (hF : ∀ i, F i → i < B) : W'.ownsRow B 43 40 v n (L.flatMap El.cells) :=
  own_keep h (fun i hi => hk.block i (own_lt h hi) (fun hf => by have := hF i hf; have := (h.lt i hi).1; omega))
set_option maxRecDepth 100000 in
set_option maxHeartbeats 4000000 in
theorem clos28 {w0 : World} {D : List Dg} {now p q g k : Nat} {d : Dg} (hD : ∀ d ∈ D, DgAt w0 d) (h4 : D.length ≤ 4) (hp : w0.heap[p]? = some (.cells #[.int .u64 (now : Int)] 34 (0, 0))) (hq : w0.heap[q]? = some (.cells #[.slice none 0 0] 46 (0, 0))) (hg : Kd w0 g 71) (hk : D[k]? = some d) (W : World) (hS : TS w0 D now p q g k W) :
    Calls Try.prog 28 #[ptrTo d, .pointer (some ⟨p, 0, none⟩), .pointer (some ⟨q, 0, none⟩)] W fun e w' => e = .returned (.bool (decide (d.over ≤ now))) ∧ TS w0 D now p q g (k + 1) w' ∧ w'.heap[g]? = W.heap[g]? := by
  have hdm := List.mem_of_getElem? hk
  have hd0 := hD d hdm
  have hkq : Kd w0 q 46 := ⟨_, _, hq⟩
  have hkp : Kd w0 p 34 := ⟨_, _, hp⟩
  have hne : ∀ i t, Kd w0 i t → t ≠ 46 → t ≠ 71 → W.heap[i]? = w0.heap[i]? := fun i t hi h1 h2 => by
    obtain ⟨cur, _, hc⟩ := hi
    refine hS.old.block i (lt_of_blk hc) (fun e => ?_)
    rcases e with rfl | rfl
    · exact h1 ((⟨_, _, hc⟩ : Kd w0 i t).one hkq)
    · exact h2 ((⟨_, _, hc⟩ : Kd w0 i t).one hg)
  have hdW : DgAt W d := hd0.keep (fun i hi => by
    rcases hi with (rfl | hi) | hi
    · exact hne _ 75 hd0.kdb (by decide) (by decide)
    · exact hne _ 43 (hd0.kdv hi) (by decide) (by decide)
    · exact hne _ 5 (hd0.kdo hi) (by decide) (by decide)) hS.old.size
  have hpW : W.heap[p]? = some (.cells #[.int .u64 (now : Int)] 34 (0, 0)) := (hne p 34 hkp (by decide) (by decide)).trans hp
  have c33 : W.cell? ⟨d.blk, 33, none⟩ = some (.int .u64 (d.over : Int)) := Dg.tail hdW 0
  have cp : W.cell? ⟨p, 0, none⟩ = some (.int .u64 (now : Int)) := by rw [cell_blk hpW]; rfl
  have HDW := Lib.hid hdW
  have HTS := Lib.hid hS
  have HSZ := Lib.hid size43
  have HSUC := Lib.hid (outK_succ (now := now) hk)
  have HNQ1 : Hid (d.blk ≠ q) := Lib.hid fun e => by have := (e ▸ hd0.kdb : Kd w0 q 75).one hkq; omega
  have HQL : Hid (q < w0.heap.size) := Lib.hid (lt_of_blk hq)
  have HGL : Hid (g < w0.heap.size ∧ g ≠ q) := Lib.hid ⟨by obtain ⟨_, _, h⟩ := hg; exact lt_of_blk h, fun e => by have := (e ▸ hg : Kd w0 q 71).one hkq; omega⟩
  have HDBL : Hid (d.blk < w0.heap.size) := Lib.hid (lt_of_blk hd0.blk)
  have HVK : Hid (∀ i, d.v.ownBlock = some i → i < w0.heap.size ∧ i ≠ q) := Lib.hid fun i hi => ⟨own_lt hd0.own hi, fun e => by have := (e ▸ hd0.kdv hi : Kd w0 q 43).one hkq; omega⟩
  have HLO : Hid ((outK D now k).length ≤ 1000) := Lib.hid (by
    have h1 : ∀ (M : List Dg), (M.flatMap fun d => if decide (d.over ≤ now) then first0 d.L else []).length ≤ M.length := by
      intro M
      induction M with
      | nil => exact Nat.le_refl _
      | cons m M ih =>
        rw [List.flatMap_cons, List.length_append, List.length_cons]
        have : (if decide (m.over ≤ now) then first0 m.L else []).length ≤ 1 := by
          split
          · unfold first0
            cases m.L.find? fun e => e.pk.off == 0 <;> simp
          · simp
        omega
    have h2 := h1 (D.take k)
    have h3 : (D.take k).length ≤ 4 := by rw [List.length_take]; omega
    unfold outK; omega)
  obtain ⟨db, hdb⟩ : ∃ b, b = d.blk := ⟨_, rfl⟩
  have hptr : ptrTo d = .pointer (some ⟨db, 0, none⟩) := by rw [hdb]; rfl
  rw [hptr]
  rw [← hdb] at c33 HNQ1 HDBL
  have HDB := Lib.hid hdb
  obtain ⟨ov, hov⟩ : ∃ o, o = d.over := ⟨_, rfl⟩
  rw [← hov] at c33 HSUC ⊢
  clear hdm hd0 hkq hkp hne hdW hpW hD hp hq hg hk hS hdb hptr hov
  go_enter Try.func28, Try.ntmps28
  go_upto_region 1 with (fail)
  by_cases hle : ov ≤ now
  · have t1 : ¬ (ov : Int) > now := by omega
    have HOV : Hid (decide (ov ≤ now) = true) := Lib.hid (decide_eq_true hle)
    clear hle
    go_still (by kernel_rfl)
    obtain ⟨W1, hW1⟩ : ∃ W', W' = W.drew := ⟨_, rfl⟩
    have h01 : Below W.heap.size W W1 := by rw [hW1]; exact (Below.refl _ _).drew
    change Exit.then _ _ _ _ W.drew
    rw [← hW1]
    have HTS1 : Hid (TS w0 D now p q g k W1) := Lib.hid (by rw [hW1]; exact ⟨HTS.out.old.trans (G := fun i => i = q ∨ i = g) (Kept.of_below ((Below.refl W.heap.size _).drew) (Nat.le_refl _)) (fun _ _ h => h), HTS.out.box⟩)
    have HG1 : Hid (W1.heap[g]? = W.heap[g]?) := Lib.hid (by rw [hW1]; rfl)
    have hd1 := HDW.out.keep (fun i hi => h01.block i (by
      rcases hi with (rfl | hi) | hi
      · exact lt_of_blk HDW.out.blk
      · exact own_lt HDW.out.own hi
      · obtain ⟨e, he, hi⟩ := hi
        exact (HDW.out.each e he).2.1.lt hi)) h01.size
    obtain ⟨A2, c2, hv, hP2⟩ := own_pks (B := 0) hd1.own (fun e he => ⟨(hd1.each e he).1, (hd1.each e he).2.1.bs, (hd1.each e he).2.2⟩) (by have := hd1.many; omega)
    have d35 : W1.cell? ⟨d.blk, 35, none⟩ = some (.slice A2 d.L.length c2) := by rw [← hv]; exact Dg.tail hd1 2
    have HD1 := Lib.hid hd1
    have HP2 := Lib.hid hP2
    have HV := Lib.hid hv
    have HM2 := Lib.hid hd1.many
    have H29 := Lib.hid (idx29_30 (c := c2) (t := fun e => e.pk.off == 0) W1 hP2 (Nat.le_refl _) (fun j e W' hj _ => clos30 W' (El.at_ (hP2.each e (List.mem_of_getElem? hj)).1)))
    rw [← HDB.out] at d35
    obtain ⟨n, hn⟩ : ∃ n, n = d.L.length := ⟨_, rfl⟩
    rw [← hn] at d35 H29
    have HN := Lib.hid hn
    have HW1 := Lib.hid h01
    clear hW1 h01 hd1 hv hP2 hn c33 cp
    go_wp2_with fail
    refine (H29.out).mono ?_
    rintro e W4 ⟨r, hr, rfl, hb4⟩
    have HF := Lib.hid (first0_of hr)
    have HTS4 : Hid (TS w0 D now p q g k W4) := Lib.hid ⟨HTS1.out.old.trans (G := fun i => i = q ∨ i = g) (Kept.of_below hb4 (Nat.le_refl _)) (fun _ _ h => h), by
      obtain ⟨vo, h1, h2⟩ := HTS1.out.box
      exact ⟨vo, (hb4.block q (lt_of_blk h1)).trans h1, own_below h2 hb4⟩⟩
    have HG4 : Hid (W4.heap[g]? = W.heap[g]?) := Lib.hid ((hb4.block g (by have := HTS1.out.old.size; have := HGL.out; omega)).trans HG1.out)
    have HB4 := Lib.hid hb4
    cases r with
    | none =>
      have HR := Lib.hid hr
      have tn : numK none = -1 := rfl
      rw [tn]
      have HSAME : Hid (outK D now (k + 1) = outK D now k) := Lib.hid (by rw [HSUC.out, HOV.out, HF.out]; simp)
      clear tn hb4
      go_wp2_with fail
      go_ret
      exact ⟨by rw [HOV.out]; rfl, ⟨HTS4.out.old, by rw [HSAME.out]; exact HTS4.out.box⟩, HG4.out⟩
    | some j =>
      obtain ⟨x, hx, -, -⟩ := id hr
      have tn : numK (some j) = (j : Int) := rfl
      rw [tn]
      have hxe := HD1.out.each x (List.mem_of_getElem? hx)
      obtain ⟨bL, oL, rfl, hbL, hcL⟩ := HP2.out.at_ (by rintro e; rw [e] at hx; simp at hx)
      have hjn : j < n := by rw [HN.out]; exact (List.getElem?_eq_some_iff.1 hx).1
      have hn32 : n ≤ 32 := by rw [HN.out]; exact HM2.out
      clear tn hb4
      go_upto_region 5 with (fail)
      obtain ⟨W5, hW5⟩ : ∃ W', W' = W4.drew := ⟨_, rfl⟩
      obtain ⟨vo, hq1, hq2⟩ := HTS4.out.box
      obtain ⟨qa, co, rfl, hco⟩ := own_slice2 hq2
      obtain ⟨no, hno⟩ : ∃ n, n = (outK D now k).length := ⟨_, rfl⟩
      rw [← hno] at hq1 hq2 hco
      have HNO : Hid ((outK D now k).length = no) := Lib.hid hno.symm
      have hno1 : no ≤ 1000 := by rw [hno]; exact HLO.out
      have HTS5 : Hid (TS w0 D now p q g k W5) := Lib.hid (by rw [hW5]; exact ⟨HTS4.out.old.trans (G := fun i => i = q ∨ i = g) (Kept.of_below ((Below.refl W4.heap.size _).drew) (Nat.le_refl _)) (fun _ _ h => h), HTS4.out.box⟩)
      have HG5 : Hid (W5.heap[g]? = W.heap[g]?) := Lib.hid (by rw [hW5]; exact HG4.out)
      have h45 : Below W4.heap.size W4 W5 := by rw [hW5]; exact (Below.refl _ _).drew
      have HW05 : Hid (w0.heap.size ≤ W5.heap.size) := Lib.hid HTS5.out.old.size
      obtain ⟨X, hX⟩ : ∃ X, X = x.cells := ⟨_, rfl⟩
      have HXE : Hid (x.cells = X) := Lib.hid hX.symm
      have HXL : Hid (X.length = 40) := Lib.hid (by rw [hX]; exact (El.at_ hxe.1).len)
      have HXO : Hid (∀ v ∈ X, v.oneCell' = true) := Lib.hid (by rw [hX]; exact (El.at_ hxe.1).one)
      have hr5 : W5.rangeAt bL (oL + j * 40) X := by
        rw [hX]
        exact range_keep (hcL j x hx) ((h45.block bL (by have := HB4.out.size; omega)).trans (HB4.out.block bL hbL))
      have hbv := HVK.out bL (by rw [HV.out]; rfl)
      have HBLL : Hid (bL < w0.heap.size) := Lib.hid hbv.1
      have HNQ : Hid (db ≠ q ∧ bL ≠ q) := Lib.hid ⟨HNQ1.out, hbv.2⟩
      have hc5 : W5.cell? ⟨db, 35, none⟩ = some (.slice (some ⟨bL, oL, none⟩) n c2) := by
        have h1 := HB4.out.cell (p := ⟨db, 35, none⟩) (by have := HW1.out.size; have := HTS.out.old.size; have := HDBL.out; show db < _; omega)
        rw [hW5]
        exact h1.trans d35
      have HS5 : Hid (W5.cell? ⟨db, 35, none⟩ = some (.slice (some ⟨bL, oL, none⟩) n c2) ∧ W5.rangeAt bL (oL + j * 40) X) := Lib.hid ⟨hc5, hr5⟩
      have HSUC2 : Hid (outK D now (k + 1) = outK D now k ++ [x]) := Lib.hid (by rw [HSUC.out, HOV.out, HF.out, hx]; rfl)
      have hq5 : W5.heap[q]? = some (.cells #[.slice qa no co] 46 (0, 0)) := by rw [hW5]; exact hq1
      have h67 : Below W5.heap.size W5 (W5.alloc (.cells X.toArray 43)) := (Below.refl _ _).alloc (Nat.le_refl _) _
      have H67 := Lib.hid h67
      have g0 : W5.cell? ⟨q, 0, none⟩ = some (.slice qa no co) := by rw [cell_blk hq5]; rfl
      have g1 : (W5.alloc (.cells X.toArray 43)).cell? ⟨q, 0, none⟩ = some (.slice qa no co) := (h67.cell (p := ⟨q, 0, none⟩) (lt_of_cell g0)).trans g0
      have HQ7 : Hid ((W5.alloc (.cells X.toArray 43)).heap[q]? = some (.cells #[.slice qa no co] 46 (0, 0))) := Lib.hid ((h67.block q (lt_of_blk hq5)).trans hq5)
      have HROW : Hid ((W5.alloc (.cells X.toArray 43)).ownsRow w0.heap.size 43 40 (.slice qa no co) no ((outK D now k).flatMap El.cells)) := Lib.hid (own_below (own_below hq2 h45) h67)
      have HBS : Hid (w0.heap.size ≤ (W5.alloc (.cells X.toArray 43)).heap.size) := Lib.hid (by have := HW05.out; have := h67.size; omega)
      have HS7 : Hid ((W5.alloc (.cells X.toArray 43)).cell? ⟨db, 35, none⟩ = some (.slice (some ⟨bL, oL, none⟩) n c2) ∧ (W5.alloc (.cells X.toArray 43)).rangeAt bL (oL + j * 40) X) := Lib.hid ⟨(h67.cell (p := ⟨db, 35, none⟩) (lt_of_cell hc5)).trans hc5, range_keep hr5 (h67.block bL (by have := HW05.out; have := HBLL.out; omega))⟩
      have HC2 : Hid (∀ i u, X[i]? = some u → (W5.alloc (.cells X.toArray 43)).cell? ((⟨W5.heap.size, 0, none⟩ : Addr).add i) = some u) := Lib.hid (by
        intro i u hj
        rw [Addr.add_mid, Nat.zero_add]
        have c := cell_blk (heap_alloc_new W5 (.cells X.toArray 43)) i
        exact c.trans (by simpa using hj))
      have HFILL : Hid (Instr.fill (fun i => some (i * 40, 40)) ((Array.range (1 * 40)).map ((Value.agg (pkL nilPk none 0).toArray).cells[· % (Value.agg (pkL nilPk none 0).toArray).cells.size]!)) [(0, .agg X.toArray)] = some X.toArray) := Lib.hid (by rw [hX]; exact fill43 (x := x.pk) hxe.1.src hxe.1.dst rfl)
      obtain ⟨i43, hi, hz0, hz1, hz2⟩ := info_parts info43
      have hS : W5.cell? ⟨db, 35, none⟩ = some (.slice (some ⟨bL, oL, none⟩) n c2) ∧ W5.rangeAt bL (oL + j * 40) X := HS5.out
      rw [hW5] at hS
      clear hq1 hq2 hco hno h45 hX hr5 hbv hc5 hq5 h67 hxe hcL hbL hx
      refine wp_region_held_drew (S := fun W => W.cell? ⟨db, 35, none⟩ = some (.slice (some ⟨bL, oL, none⟩) n c2) ∧ W.rangeAt bL (oL + j * 40) X) (by kernel_rfl) hS ?_
      rw [← hW5]
      clear hS hW5 d35
      intro HS
      refine wpAnyH_take (i := 1) (v := ?_) rfl (by kernel_rfl) (by kernel_rfl) (by kernel_rfl) (fun _ _ _ h => h) (Or.inl ⟨by go_simp, ?hy⟩) HS ?_
      case hy => intro W hW; go_simp; (try with_reducible rfl)
      try simp only [List.getElem_toArray, List.getElem_cons_zero, List.getElem_cons_succ, Act.put, List.setIfInBounds_toArray, List.set_cons_zero, List.set_cons_succ]
      refine wpAnyH_take (i := 2) (v := ?_) rfl (by kernel_rfl) (by kernel_rfl) (by kernel_rfl) (fun _ _ _ h => h) (Or.inl ⟨by go_simp, ?hy⟩) HS ?_
      case hy => intro W hW; go_simp; (try with_reducible rfl)
      try simp only [List.getElem_toArray, List.getElem_cons_zero, List.getElem_cons_succ, Act.put, List.setIfInBounds_toArray, List.set_cons_zero, List.set_cons_succ]
      refine wpAnyH_take (i := 3) (v := ?_) rfl (by kernel_rfl) (by kernel_rfl) (by kernel_rfl) (fun _ _ _ h => h) (Or.inl ⟨by go_simp, ?hy⟩) HS ?_
      case hy => intro W hW; go_simp; (try with_reducible rfl)
      try simp only [List.getElem_toArray, List.getElem_cons_zero, List.getElem_cons_succ, Act.put, List.setIfInBounds_toArray, List.set_cons_zero, List.set_cons_succ]
      refine wpAnyH_take (i := 4) (v := ?_) rfl (by kernel_rfl) (by kernel_rfl) (by kernel_rfl) (fun _ _ _ h => h) (Or.inl ⟨by go_simp, ?hy⟩) HS ?_
      case hy => intro W hW; have d := hW.1; go_simp; (try with_reducible rfl)
      try simp only [List.getElem_toArray, List.getElem_cons_zero, List.getElem_cons_succ, Act.put, List.setIfInBounds_toArray, List.set_cons_zero, List.set_cons_succ]
      refine wpAnyH_take (i := 5) (v := ?_) rfl (by kernel_rfl) (by kernel_rfl) (by kernel_rfl) (fun _ _ _ h => h) (Or.inl ⟨by go_simp, ?hy⟩) HS ?_
      case hy => intro W hW; go_simp; (try with_reducible rfl)
      try simp only [List.getElem_toArray, List.getElem_cons_zero, List.getElem_cons_succ, Act.put, List.setIfInBounds_toArray, List.set_cons_zero, List.set_cons_succ]
      refine wpAnyH_take (i := 6) (v := ?_) rfl (by kernel_rfl) (by kernel_rfl) (by kernel_rfl) (fun _ _ _ h => h) (Or.inl ⟨by go_simp, ?hy⟩) HS ?_
      case hy => intro W hW; go_simp; (try with_reducible rfl)
      try simp only [List.getElem_toArray, List.getElem_cons_zero, List.getElem_cons_succ, Act.put, List.setIfInBounds_toArray, List.set_cons_zero, List.set_cons_succ]
      refine wpAnyH_take (i := 7) (v := .agg X.toArray) rfl (by kernel_rfl) (by kernel_rfl) (by kernel_rfl) (fun _ _ _ h => h) (by refine yieldsIf_load_mid ?hw 43 (.tmp 25) ?ho bL (oL + j * 40) ?hx X _ (fun W hW => hW.2) Try.underlying43 rfl (by rw [HXL.out]; exact HSZ.out); (case ho => rfl); (case hw => go_simp); (case hx => go_simp)) HS ?_
      try simp only [List.getElem_toArray, List.getElem_cons_zero, List.getElem_cons_succ, Act.put, List.setIfInBounds_toArray, List.set_cons_zero, List.set_cons_succ]
      refine wpAnyH_ready (rs := [0, 8]) (by kernel_rfl) (by simp) ?_
      refine AllReadyH.cons rfl (fun K hK => ?_) (AllReadyH.cons rfl (fun K hK => ?_) AllReadyH.nil)
      · rw [if_pos (by kernel_rfl)]
        simp only [List.getElem_toArray, List.getElem_cons_zero, List.getElem_cons_succ]
        go_simp
        refine hK.out _ _ HS (fun HS => ?_)
        clear hK
        try simp only [List.getElem_toArray, List.getElem_cons_zero, List.getElem_cons_succ, Act.put, List.setIfInBounds_toArray, List.set_cons_zero, List.set_cons_succ]
        refine wpAnyH_ready (rs := [8]) (by kernel_rfl) (by simp) ?_
        refine AllReadyH.cons rfl (fun K hK => ?_) AllReadyH.nil
        rw [if_pos (by kernel_rfl)]
        simp only [List.getElem_toArray, List.getElem_cons_zero, List.getElem_cons_succ]
        refine wp_buildSlice1 46 43 1 0 (.tmp 26) rfl (.agg X.toArray) rfl X.toArray i43 _ Try.underlying46 hi hz0 (by rw [hz1]; decide) (by rw [hz1]; decide) (by rw [hz1]; exact HFILL.out) ?_
        refine hK.out _ _ HS7.out (fun HS => ?_)
        clear hK
        try simp only [List.getElem_toArray, List.getElem_cons_zero, List.getElem_cons_succ, Act.put, List.setIfInBounds_toArray, List.set_cons_zero, List.set_cons_succ]
        refine wpAnyH_ready (rs := [9]) (by kernel_rfl) (by simp) ?_
        refine AllReadyH.cons rfl (fun K hK => ?_) AllReadyH.nil
        rw [if_pos (by kernel_rfl)]
        simp only [List.getElem_toArray, List.getElem_cons_zero, List.getElem_cons_succ]
        refine wp_append_own2 _ _ _ 46 rfl w0.heap.size 43 i43 _ 40 80 Try.underlying46 hi hz0 hz1 hz2 (by kernel_rfl) (by decide) (.slice qa no co) no ((outK D now k).flatMap El.cells) rfl HROW.out ⟨W5.heap.size, 0, none⟩ 1 1 X (by decide) rfl (by rw [HXL.out]) HC2.out HXO.out (by unfold maxLen; omega) (by omega) HBS.out ?_
        intro v' w8 ho hg8 hwh
        obtain ⟨q2, cq2, hv2, -⟩ := own_slice2 ho
        have hq8 : w8.heap[q]? = some (.cells #[.slice qa no co] 46 (0, 0)) := (hg8.block q (by have := lt_of_blk HQ7.out; exact this) (fun e => by
          have := (HROW.out.lt q e.symm).1
          have := HQL.out; omega)).trans HQ7.out
        have t8 := Turned.setCell hq8 0 v'
        have hset : (#[Value.slice qa no co] : Array Value).setIfInBounds 0 v' = #[v'] := rfl
        rw [hset] at t8
        obtain ⟨W9, hW9⟩ : ∃ W, W = w8.setCell ⟨q, 0, none⟩ v' := ⟨_, rfl⟩
        rw [← hW9] at t8
        have k8 : w8.cell? ⟨q, 0, none⟩ = some (.slice qa no co) := by rw [cell_blk hq8]; rfl
        have f8 := frozen_blk hq8 0
        have hold : ∀ i, i < w0.heap.size → i ≠ q → W9.heap[i]? = W5.heap[i]? := fun i hi hne =>
          ((t8.other hne).trans (hg8.block i (by have := HW05.out; have := H67.out.size; omega) (fun e => by have := (HROW.out.lt i e.symm).1; omega))).trans (H67.out.block i (by have := HW05.out; omega))
        have hold8 : ∀ i, i < w0.heap.size → w8.heap[i]? = W5.heap[i]? := fun i hi =>
          (hg8.block i (by have := HW05.out; have := H67.out.size; omega) (fun e => by have := (HROW.out.lt i e.symm).1; omega)).trans (H67.out.block i (by have := HW05.out; omega))
        have HEND : Hid (TS w0 D now p q g (k + 1) W9 ∧ W9.heap[g]? = W5.heap[g]?) := Lib.hid (by
          refine ⟨⟨HTS5.out.old.trans (G := fun i => i = q ∨ w0.heap.size ≤ i) ⟨t8.os.trans (hg8.os.trans H67.out.os), t8.tape.trans (hg8.tape.trans H67.out.tape), t8.output.trans (hg8.output.trans H67.out.output), by have := t8.size; have := hg8.size; have := H67.out.size; omega, fun i hi hne => hold i (Nat.lt_of_not_le fun h => hne (.inr h)) (fun e => hne (.inl e))⟩ (fun i hi e => e.elim .inl (fun h => by omega)), v', t8.get (lt_of_blk hq8), ?_⟩, hold g HGL.out.1 HGL.out.2⟩
          rw [HSUC2.out, List.length_append, List.flatMap_append, List.length_singleton, List.flatMap_cons, List.flatMap_nil, List.append_nil]
          rw [HNO.out, HXE.out]
          exact own_keep ho (fun i hi => t8.other (fun e => by have := (ho.lt i hi).1; have := HQL.out; omega)))
        have HS8 : Hid (w8.cell? ⟨db, 35, none⟩ = some (.slice (some ⟨bL, oL, none⟩) n c2) ∧ w8.rangeAt bL (oL + j * 40) X) := Lib.hid ⟨by
          rw [← HS5.out.1]
          exact World.cell?_of_block (w := W5) (a := ⟨db, 35, none⟩) (hold8 db HDBL.out), range_keep HS5.out.2 (hold8 bL HBLL.out)⟩
        have HS9 : Hid (W9.cell? ⟨db, 35, none⟩ = some (.slice (some ⟨bL, oL, none⟩) n c2) ∧ W9.rangeAt bL (oL + j * 40) X) := Lib.hid ⟨by
          rw [← HS5.out.1]
          exact World.cell?_of_block (w := W5) (a := ⟨db, 35, none⟩) (hold db HDBL.out HNQ.out.1), range_keep HS5.out.2 (hold bL HBLL.out HNQ.out.2)⟩
        have HW9 := Lib.hid hW9
        rw [hv2] at HW9 ⊢
        clear ho hg8 hwh hv2 hq8 t8 hset hW9 hold hold8
        refine hK.out _ _ HS8.out (fun HS => ?_)
        clear hK
        try simp only [List.getElem_toArray, List.getElem_cons_zero, List.getElem_cons_succ, Act.put, List.setIfInBounds_toArray, List.set_cons_zero, List.set_cons_succ]
        refine wpAnyH_ready (rs := [10]) (by kernel_rfl) (by simp) ?_
        refine AllReadyH.cons rfl (fun K hK => ?_) AllReadyH.nil
        rw [if_pos (by kernel_rfl)]
        simp only [List.getElem_toArray, List.getElem_cons_zero, List.getElem_cons_succ]
        go_simp
        rw [← HW9.out]
        refine hK.out _ _ HS9.out (fun HS => ?_)
        clear hK
        try simp only [List.getElem_toArray, List.getElem_cons_zero, List.getElem_cons_succ, Act.put, List.setIfInBounds_toArray, List.set_cons_zero, List.set_cons_succ]
        refine wpAnyH_done (by kernel_rfl) ?_ _
        go_wp2_with fail
        go_ret
        exact ⟨by rw [HOV.out]; rfl, HEND.out.1, HEND.out.2.trans HG5.out⟩
      · rw [if_pos (by kernel_rfl)]
        simp only [List.getElem_toArray, List.getElem_cons_zero, List.getElem_cons_succ]
        refine wp_buildSlice1 46 43 1 0 (.tmp 26) rfl (.agg X.toArray) rfl X.toArray i43 _ Try.underlying46 hi hz0 (by rw [hz1]; decide) (by rw [hz1]; decide) (by rw [hz1]; exact HFILL.out) ?_
        refine hK.out _ _ HS7.out (fun HS => ?_)
        clear hK
        try simp only [List.getElem_toArray, List.getElem_cons_zero, List.getElem_cons_succ, Act.put, List.setIfInBounds_toArray, List.set_cons_zero, List.set_cons_succ]
        refine wpAnyH_ready (rs := [0]) (by kernel_rfl) (by simp) ?_
        refine AllReadyH.cons rfl (fun K hK => ?_) AllReadyH.nil
        rw [if_pos (by kernel_rfl)]
        simp only [List.getElem_toArray, List.getElem_cons_zero, List.getElem_cons_succ]
        go_simp
        refine hK.out _ _ HS (fun HS => ?_)
        clear hK
        try simp only [List.getElem_toArray, List.getElem_cons_zero, List.getElem_cons_succ, Act.put, List.setIfInBounds_toArray, List.set_cons_zero, List.set_cons_succ]
        refine wpAnyH_ready (rs := [9]) (by kernel_rfl) (by simp) ?_
        refine AllReadyH.cons rfl (fun K hK => ?_) AllReadyH.nil
        rw [if_pos (by kernel_rfl)]
        simp only [List.getElem_toArray, List.getElem_cons_zero, List.getElem_cons_succ]
        refine wp_append_own2 _ _ _ 46 rfl w0.heap.size 43 i43 _ 40 80 Try.underlying46 hi hz0 hz1 hz2 (by kernel_rfl) (by decide) (.slice qa no co) no ((outK D now k).flatMap El.cells) rfl HROW.out ⟨W5.heap.size, 0, none⟩ 1 1 X (by decide) rfl (by rw [HXL.out]) HC2.out HXO.out (by unfold maxLen; omega) (by omega) HBS.out ?_
        intro v' w8 ho hg8 hwh
        obtain ⟨q2, cq2, hv2, -⟩ := own_slice2 ho
        have hq8 : w8.heap[q]? = some (.cells #[.slice qa no co] 46 (0, 0)) := (hg8.block q (by have := lt_of_blk HQ7.out; exact this) (fun e => by
          have := (HROW.out.lt q e.symm).1
          have := HQL.out; omega)).trans HQ7.out
        have t8 := Turned.setCell hq8 0 v'
        have hset : (#[Value.slice qa no co] : Array Value).setIfInBounds 0 v' = #[v'] := rfl
        rw [hset] at t8
        obtain ⟨W9, hW9⟩ : ∃ W, W = w8.setCell ⟨q, 0, none⟩ v' := ⟨_, rfl⟩
        rw [← hW9] at t8
        have k8 : w8.cell? ⟨q, 0, none⟩ = some (.slice qa no co) := by rw [cell_blk hq8]; rfl
        have f8 := frozen_blk hq8 0
        have hold : ∀ i, i < w0.heap.size → i ≠ q → W9.heap[i]? = W5.heap[i]? := fun i hi hne =>
          ((t8.other hne).trans (hg8.block i (by have := HW05.out; have := H67.out.size; omega) (fun e => by have := (HROW.out.lt i e.symm).1; omega))).trans (H67.out.block i (by have := HW05.out; omega))
        have hold8 : ∀ i, i < w0.heap.size → w8.heap[i]? = W5.heap[i]? := fun i hi =>
          (hg8.block i (by have := HW05.out; have := H67.out.size; omega) (fun e => by have := (HROW.out.lt i e.symm).1; omega)).trans (H67.out.block i (by have := HW05.out; omega))
        have HEND : Hid (TS w0 D now p q g (k + 1) W9 ∧ W9.heap[g]? = W5.heap[g]?) := Lib.hid (by
          refine ⟨⟨HTS5.out.old.trans (G := fun i => i = q ∨ w0.heap.size ≤ i) ⟨t8.os.trans (hg8.os.trans H67.out.os), t8.tape.trans (hg8.tape.trans H67.out.tape), t8.output.trans (hg8.output.trans H67.out.output), by have := t8.size; have := hg8.size; have := H67.out.size; omega, fun i hi hne => hold i (Nat.lt_of_not_le fun h => hne (.inr h)) (fun e => hne (.inl e))⟩ (fun i hi e => e.elim .inl (fun h => by omega)), v', t8.get (lt_of_blk hq8), ?_⟩, hold g HGL.out.1 HGL.out.2⟩
          rw [HSUC2.out, List.length_append, List.flatMap_append, List.length_singleton, List.flatMap_cons, List.flatMap_nil, List.append_nil]
          rw [HNO.out, HXE.out]
          exact own_keep ho (fun i hi => t8.other (fun e => by have := (ho.lt i hi).1; have := HQL.out; omega)))
        have HS8 : Hid (w8.cell? ⟨db, 35, none⟩ = some (.slice (some ⟨bL, oL, none⟩) n c2) ∧ w8.rangeAt bL (oL + j * 40) X) := Lib.hid ⟨by
          rw [← HS5.out.1]
          exact World.cell?_of_block (w := W5) (a := ⟨db, 35, none⟩) (hold8 db HDBL.out), range_keep HS5.out.2 (hold8 bL HBLL.out)⟩
        have HS9 : Hid (W9.cell? ⟨db, 35, none⟩ = some (.slice (some ⟨bL, oL, none⟩) n c2) ∧ W9.rangeAt bL (oL + j * 40) X) := Lib.hid ⟨by
          rw [← HS5.out.1]
          exact World.cell?_of_block (w := W5) (a := ⟨db, 35, none⟩) (hold db HDBL.out HNQ.out.1), range_keep HS5.out.2 (hold bL HBLL.out HNQ.out.2)⟩
        have HW9 := Lib.hid hW9
        rw [hv2] at HW9 ⊢
        clear ho hg8 hwh hv2 hq8 t8 hset hW9 hold hold8
        refine hK.out _ _ HS8.out (fun HS => ?_)
        clear hK
        try simp only [List.getElem_toArray, List.getElem_cons_zero, List.getElem_cons_succ, Act.put, List.setIfInBounds_toArray, List.set_cons_zero, List.set_cons_succ]
        refine wpAnyH_ready (rs := [10]) (by kernel_rfl) (by simp) ?_
        refine AllReadyH.cons rfl (fun K hK => ?_) AllReadyH.nil
        rw [if_pos (by kernel_rfl)]
        simp only [List.getElem_toArray, List.getElem_cons_zero, List.getElem_cons_succ]
        go_simp
        rw [← HW9.out]
        refine hK.out _ _ HS9.out (fun HS => ?_)
        clear hK
        try simp only [List.getElem_toArray, List.getElem_cons_zero, List.getElem_cons_succ, Act.put, List.setIfInBounds_toArray, List.set_cons_zero, List.set_cons_succ]
        refine wpAnyH_done (by kernel_rfl) ?_ _
        go_wp2_with fail
        go_ret
        exact ⟨by rw [HOV.out]; rfl, HEND.out.1, HEND.out.2.trans HG5.out⟩
  · have t1 : (ov : Int) > now := by omega
    have HOV : Hid (decide (ov ≤ now) = false) := Lib.hid (decide_eq_false hle)
    clear hle
    go_still (by kernel_rfl)
    have HTS1 : Hid (TS w0 D now p q g k W.drew) := Lib.hid ⟨HTS.out.old.trans (G := fun i => i = q ∨ i = g) (Kept.of_below ((Below.refl W.heap.size _).drew) (Nat.le_refl _)) (fun _ _ h => h), HTS.out.box⟩
    change Exit.then _ _ _ _ W.drew
    have HSAME : Hid (outK D now (k + 1) = outK D now k) := Lib.hid (by rw [HSUC.out, HOV.out]; simp)
    go_wp2_with fail
    go_ret
    exact ⟨by rw [HOV.out]; rfl, ⟨HTS1.out.old, by rw [HSAME.out]; exact HTS1.out.box⟩, rfl⟩
end Go.Proofs.Ytjldcblklbikaaa

/- The datagrams whose time is over are told of and dropped: the walk of Tick. No condition but that the pool is one. (Written out by exp.py.) -/
namespace Go.Proofs.Ytjldcblklbikaaa
open Go.RowKit
set_option linter.unusedVariables false
set_option linter.unusedSimpArgs false
theorem results_cell_one {fn : Func} {p : Tmp} {ty : TypeId} (h : fn.results = #[.cell p ty]) (tmps : Array Value) (P : Program) (w : World) :
    (results fn tmps).run P w = ((asAddr (tmps.getD p undef)).run P w).andThen fun a w₁ => (loadVar ty a).run P w₁ := by
  simp only [results, h]
  simp [Sem.run_bind, Result.andThen]
  try rfl
theorem first0_mem {L : List El} {e : El} (h : e ∈ first0 L) : e ∈ L := by
  unfold first0 at h
  cases hf : L.find? fun e => e.pk.off == 0 with
  | none => rw [hf] at h; cases h
  | some x =>
    rw [hf] at h
    have : e = x := by simpa using h
    rw [this]
    exact List.mem_of_find?_eq_some hf
theorem outK_mem {D : List Dg} {now k : Nat} {e : El} (h : e ∈ outK D now k) : ∃ d ∈ D, e ∈ d.L := by
  unfold outK at h
  rw [List.mem_flatMap] at h
  obtain ⟨d, hd, he⟩ := h
  refine ⟨d, List.mem_of_mem_take hd, ?_⟩
  split at he
  · exact first0_mem he
  · cases he
theorem outK_len (D : List Dg) (now k : Nat) : (outK D now k).length ≤ D.length := by
  have h1 : ∀ (M : List Dg), (M.flatMap fun d => if decide (d.over ≤ now) then first0 d.L else []).length ≤ M.length := by
    intro M
    induction M with
    | nil => exact Nat.le_refl _
    | cons m M ih =>
      rw [List.flatMap_cons, List.length_append, List.length_cons]
      have : (if decide (m.over ≤ now) then first0 m.L else []).length ≤ 1 := by
        split
        · unfold first0
          cases m.L.find? fun e => e.pk.off == 0 <;> simp
        · simp
      omega
  have h2 := h1 (D.take k)
  have h3 : (D.take k).length ≤ D.length := by rw [List.length_take]; omega
  unfold outK; omega
/-- what is left when those told of are taken out of the row -/
structure TickM (w0 : World) (D : List Dg) (now : Nat) (rv : Value) (q : Nat) (v' : Value) (w' : World) : Prop where
  kept : Kept (fun i => i = q ∨ rv.ownBlock = some i) w0 w'
  box : ∃ vo, w'.heap[q]? = some (.cells #[vo] 46 (0, 0)) ∧ w'.ownsRow w0.heap.size 43 40 vo (outK D now D.length).length ((outK D now D.length).flatMap El.cells)
  row : w'.ownsRow 0 71 1 v' (D.filter fun d => !(decide (d.over ≤ now))).length ((D.filter fun d => !(decide (d.over ≤ now))).map ptrTo)
  own : ∀ g, v'.ownBlock = some g → rv.ownBlock = some g
theorem del_tick {pb : Nat} {rv : Value} {D : List Dg} {now p q : Nat} (w0 : World) (hP : PoolAt w0 pb rv D) (hp : w0.heap[p]? = some (.cells #[.int .u64 (now : Int)] 34 (0, 0))) (hq : w0.heap[q]? = some (.cells #[.slice none 0 0] 46 (0, 0))) :
    Calls Try.prog 27 #[rv, .func (.func 28) #[] #[.pointer (some ⟨p, 0, none⟩), .pointer (some ⟨q, 0, none⟩)]] w0 fun e w' => ∃ v', e = .returned v' ∧ TickM w0 D now rv q v' w' := by
  have hql := lt_of_blk hq
  rcases hP.row.2 with ⟨rfl, hl⟩ | ⟨g, cap, cur, hrv, _, hg, hn, hmx, hsz, htk⟩
  · have hD : D = [] := List.length_eq_zero_iff.1 hl
    subst hD
    refine (del27_28 (A := none) (g := w0.heap.size) (cap := 0) (D := []) (t := fun _ => false) (fun _ W => Kept (fun i => i = w0.heap.size) w0 W) w0 (fun h => absurd rfl h) (Kept.refl _ _) (by simp) (by simp) (by unfold maxLen; omega) (fun _ W W' cs hk ht => hk.trans (G := fun i => i = w0.heap.size) (Kept.of_turned ht rfl) (fun i _ h => h)) (fun k d W hk => by simp at hk)).mono ?_
    rintro e w' ⟨v', rfl, hk, h⟩
    have hv : v' = .slice none 0 0 := by
      rcases h with ⟨h1, _⟩ | ⟨h1, _⟩
      · exact h1
      · cases h1
    subst hv
    exact ⟨_, rfl, hk.mono (fun i hi e => by omega), ⟨_, (hk.block q hql (by omega)).trans hq, World.ownsRow_nil _ _ _ _⟩, World.ownsRow_nil _ _ _ _, fun g hg => hg⟩
  · have hgk : Kd w0 g 71 := ⟨_, _, hg⟩
    have hqg : q ≠ g := fun e => by have := (e ▸ (⟨_, _, hq⟩ : Kd w0 q 46)).one hgk; omega
    have hgl := lt_of_blk hg
    have hcut0 : RowCut g cap D (fun d => decide (d.over ≤ now)) 0 w0 := ⟨cur, hg, by rw [hsz, Nat.mul_one], fun i d' hi => by simp at hi, fun i d' _ hi => by
      have h1 : (D.map ptrTo)[i]? = some (ptrTo d') := by rw [List.getElem?_map, hi]; rfl
      rw [← htk, Nat.mul_one, List.getElem?_take] at h1
      split at h1
      · simpa using h1
      · cases h1⟩
    rw [hrv]
    refine (del27_28 (A := some ⟨g, 0, none⟩) (g := g) (cap := cap) (D := D) (t := fun d => decide (d.over ≤ now)) (fun k W => TS w0 D now p q g k W) w0 (fun _ => ⟨rfl, hcut0⟩) ⟨Kept.refl _ _, _, hq, World.ownsRow_nil _ _ _ _⟩ (by have := hP.four; omega) hn hmx
      (fun k W W' cs hS ht => ?_) (fun k d W hk hS _ => clos28 hP.each hP.four hp hq hgk hk W hS)).mono ?_
    · obtain ⟨vo, h1, h2⟩ := hS.box
      exact ⟨hS.old.trans (G := fun i => i = q ∨ i = g) (Kept.of_turned ht (.inr rfl)) (fun _ _ h => h), vo, (ht.other hqg).trans h1, own_keep h2 (fun i hi => ht.other (fun e => by have := (h2.lt i hi).1; omega))⟩
    · rintro e w' ⟨v', rfl, hS, h⟩
      have hk : Kept (fun i => i = q ∨ rv.ownBlock = some i) w0 w' := hS.old.mono (fun i _ e => e.imp id (fun e => by rw [hrv, e]; rfl))
      rcases h with ⟨rfl, hno, hgs⟩ | ⟨_, hv, ho⟩
      · have hf : (D.filter fun d => !(decide (d.over ≤ now))) = D := by
          rw [List.filter_eq_self]
          intro d hd
          rw [hno d hd]; rfl
        refine ⟨_, rfl, by rw [← hrv]; exact hk, hS.box, ?_, fun g' hg' => hg'⟩
        rw [hf]
        have := hP.row
        rw [hrv] at this
        exact own_keep this (fun i hi => by
          have e : g = i := Option.some.inj hi
          rw [← e]; exact hgs)
      · exact ⟨v', rfl, by rw [← hrv]; exact hk, hS.box, own_mono ho (Nat.zero_le _), fun g' hg' => by rw [hv] at hg'; exact hg'⟩
set_option maxRecDepth 100000 in
set_option maxHeartbeats 1000000 in
theorem clip31 (A : Option Addr) (n c : Nat) (hn : n ≤ c) (w : World) : Calls Try.prog 31 #[.slice A n c] w fun e w' => e = .returned (.slice A n n) ∧ w = w' := by
  go_enter Try.func31, Try.ntmps31
  go_wp2_with fail
  go_ret
  exact ⟨rfl, rfl⟩
/-- what Tick leaves -/
def TickRes (pb : Nat) (rv : Value) (D : List Dg) (now : Nat) (w : World) (e : Ending) (w' : World) : Prop := ∃ rv' A, e = .returned (.slice A (outK D now D.length).length (outK D now D.length).length) ∧ AddMem pb rv D w w' rv' (D.filter fun d => !(decide (d.over ≤ now))) ∧ PksRd w' w'.heap.size A (outK D now D.length)
/-- the same, and where the told ones' row lies -/
def TickResX (pb : Nat) (rv : Value) (D : List Dg) (now : Nat) (w : World) (e : Ending) (w' : World) : Prop := ∃ rv' A, e = .returned (.slice A (outK D now D.length).length (outK D now D.length).length) ∧ AddMem pb rv D w w' rv' (D.filter fun d => !(decide (d.over ≤ now))) ∧ PksRd w' w'.heap.size A (outK D now D.length) ∧ ∀ b o, A = some ⟨b, o, none⟩ → w.heap.size ≤ b ∧ ∃ cur, w'.heap[b]? = some (.cells cur 43 (0, 0))
set_option maxRecDepth 100000 in
set_option maxHeartbeats 4000000 in
theorem tick11x {pb : Nat} {rv : Value} {D : List Dg} {now : Nat} (w : World) (hP : PoolAt w pb rv D) :
    Calls Try.prog 11 #[.pointer (some ⟨pb, 0, none⟩), .int .u64 (now : Int)] w (TickResX pb rv D now w) := by
  obtain ⟨V1, hV1⟩ : ∃ V, V = w.alloc (.cells #[.int .u64 (now : Int)] 34) := ⟨_, rfl⟩
  obtain ⟨V, hV⟩ : ∃ V, V = V1.alloc (.cells #[.slice none 0 0] 46) := ⟨_, rfl⟩
  have h01 : Below w.heap.size w V1 := by rw [hV1]; exact (Below.refl _ _).alloc (Nat.le_refl _) _
  have h12 : Below V1.heap.size V1 V := by rw [hV]; exact (Below.refl _ _).alloc (Nat.le_refl _) _
  have hs1 : V1.heap.size = w.heap.size + 1 := by rw [hV1]; simp
  have hbp : V.heap[w.heap.size]? = some (.cells #[.int .u64 (now : Int)] 34 (0, 0)) := (h12.block _ (by omega)).trans (by rw [hV1]; exact heap_alloc_new w _)
  have hbq : V.heap[V1.heap.size]? = some (.cells #[.slice none 0 0] 46 (0, 0)) := by rw [hV]; exact heap_alloc_new V1 _
  have h02 : Below w.heap.size w V := h01.trans (h12.mono h01.size)
  obtain ⟨p, hp⟩ : ∃ b, b = w.heap.size := ⟨_, rfl⟩
  obtain ⟨q, hq⟩ : ∃ b, b = V1.heap.size := ⟨_, rfl⟩
  have hqq : q = w.heap.size + 1 := by omega
  have hPV := hP.below h02
  have c0 : V.cell? ⟨pb, 0, none⟩ = some rv := by rw [cell_blk hPV.blk]; rfl
  rw [← hq] at hbq
  rw [← hp] at hbp
  have H27 := Lib.hid (del_tick V hPV hbp hbq)
  have HP := Lib.hid hP; have H02 := Lib.hid h02
  have HBQ := Lib.hid hbq
  have HQ : Hid (w.heap.size ≤ q) := Lib.hid (by omega)
  have HPB := Lib.hid (hP.lt (.inl (.inl rfl)))
  clear h01 h12 hs1 hbp hPV h02 hP hbq
  go_enter Try.func11, Try.ntmps11
  go_upto_region 3 with (fail)
  rw [← hV1, ← hV, ← hqq, ← hp]
  clear hV1 hV hp hq hqq
  go_wp2_with fail
  refine (H27.out).mono ?_
  rintro e W1 ⟨v', rfl, hm⟩
  have hpb1 : W1.heap[pb]? = some (.cells #[rv, .bool true] 58 (0, 0)) := (hm.kept.block pb (by have := H02.out.size; have := HPB.out; omega) (fun e => by
    rcases e with e | e
    · have := HPB.out; have := HQ.out; omega
    · have := ((HP.out.below H02.out).kdp).one ((HP.out.below H02.out).kdr e); omega)).trans (HP.out.below H02.out).blk
  have c1 : W1.cell? ⟨pb, 0, none⟩ = some rv := by rw [cell_blk hpb1]; rfl
  have f1 := frozen_blk hpb1 0
  have t1 := Turned.setCell hpb1 0 v'
  have hset : (#[rv, Value.bool true] : Array Value).setIfInBounds 0 v' = #[v', .bool true] := rfl
  rw [hset] at t1
  obtain ⟨W2, hW2⟩ : ∃ W, W = W1.setCell ⟨pb, 0, none⟩ v' := ⟨_, rfl⟩
  rw [← hW2] at t1
  obtain ⟨vo, hb1, hb2⟩ := hm.box
  obtain ⟨A, co, rfl, hco⟩ := own_slice2 hb2
  have hpq : pb ≠ q := fun e => by have := HPB.out; have := HQ.out; omega
  have hq2 : W2.heap[q]? = _ := (t1.other hpq.symm).trans hb1
  have hk12 : Kept (fun i => i = pb ∨ rv.ownBlock = some i) w W2 := ((Kept.of_below H02.out (Nat.le_refl _)).trans (G := fun i => i = q ∨ rv.ownBlock = some i) hm.kept (fun i hi e => e.elim (fun e => by have := HQ.out; omega) .inr)).trans (G := fun i => i = pb ∨ rv.ownBlock = some i) (Kept.of_turned t1 (.inl rfl)) (fun i _ h => h)
  have hrow2 := own_keep hm.row (fun i hi => t1.other (fun e => by
    have := ((HP.out.below H02.out).kdp).one (e ▸ (HP.out.below H02.out).kdr (hm.own i hi)); omega))
  have hdel := HP.out.del (t := fun d => !(decide (d.over ≤ now))) hk12 (t1.get (lt_of_blk hpb1)) hrow2 hm.own
  have hb22 := own_keep hb2 (fun i hi => t1.other (fun e => by have := (hb2.lt i hi).1; have := H02.out.size; have := HPB.out; omega))
  obtain ⟨no, hno⟩ : ∃ n, n = (outK D now D.length).length := ⟨_, rfl⟩
  rw [← hno] at hq2 hco hb22
  have c2 : W2.cell? ⟨q, 0, none⟩ = some (.slice A no co) := by rw [cell_blk hq2]; rfl
  have f2 := frozen_blk hq2 0
  have t2 := Turned.setCell hq2 0 (.slice A no no)
  obtain ⟨W3, hW3⟩ : ∃ W, W = W2.setCell ⟨q, 0, none⟩ (.slice A no no) := ⟨_, rfl⟩
  rw [← hW3] at t2
  have hq3 := t2.get (lt_of_blk hq2)
  have c3 : W3.cell? ⟨q, 0, none⟩ = some (.slice A no no) := by rw [cell_blk hq3]; rfl
  have hb23 := own_keep hb22 (fun i hi => t2.other (fun e => by have := (hb22.lt i hi).1; have := lt_of_blk HBQ.out; omega))
  have hfar : ¬ (foot pb v' (D.filter fun d => !(decide (d.over ≤ now))) q ∨ bods (D.filter fun d => !(decide (d.over ≤ now))) q) := fun h => by
    have hlt : q < w.heap.size := by
      rcases h with (h1 | h1 | ⟨d, hd, h1⟩) | ⟨d, hd, h1⟩
      · exact absurd h1.symm hpq
      · exact HP.out.lt (.inl (.inr (.inl (hm.own q h1))))
      · exact HP.out.lt (.inl (.inr (.inr ⟨d, (List.mem_filter.1 hd).1, h1⟩)))
      · exact HP.out.lt (.inr ⟨d, (List.mem_filter.1 hd).1, h1⟩)
    have := HQ.out; omega
  have hmem : AddMem pb rv D w W3 v' (D.filter fun d => !(decide (d.over ≤ now))) := ⟨AddMem.aside hdel.pool t2 hfar, hdel.kept.trans (G := fun i => i = q) (Kept.of_turned t2 rfl) (fun i hi e => by have := HQ.out; omega), hdel.foot, hdel.bods, hdel.sep⟩
  have hk13 : Kept (fun i => i = pb ∨ rv.ownBlock = some i) w W3 := hk12.trans (G := fun i => i = q) (Kept.of_turned t2 rfl) (fun i hi e => by have := HQ.out; omega)
  have hlo : ∀ b o, A = some ⟨b, o, none⟩ → w.heap.size ≤ b ∧ ∃ cur, W3.heap[b]? = some (.cells cur 43 (0, 0)) := fun b o e => ⟨by have := (hb23.lt b (by rw [e]; rfl)).1; have := H02.out.size; omega, own_type hb23 (by rw [e]; rfl)⟩
  have HLO := Lib.hid hlo
  have hrd : PksRd W3 W3.heap.size A (outK D now D.length) := by
    rw [hno] at hb23
    obtain ⟨A', c', e1, h1⟩ := own_pks hb23 (fun e he => by
      obtain ⟨d, hd, hel⟩ := outK_mem he
      have hdd := HP.out.each d hd
      obtain ⟨h1, h2, h3⟩ := hdd.each e hel
      refine ⟨h1, (h2.keep (fun g hg => hk13.block g (h2.lt hg) (fun e => ?_)) hk13.size).bs, h3⟩
      have hk5 := hdd.kdo ⟨_, hel, hg⟩
      rcases e with e | e
      · have := hk5.one (e ▸ HP.out.kdp); omega
      · have := hk5.one (HP.out.kdr e); omega) (by have := outK_len D now D.length; have := HP.out.four; omega)
    injection e1 with e1 e2 e3
    rw [e1]; exact h1
  have HMEM := Lib.hid hmem; have HRD := Lib.hid hrd
  have HW2 := Lib.hid hW2; have HW3 := Lib.hid hW3; have HNO := Lib.hid hno
  have H31 := Lib.hid (clip31 A no co hco W2)
  obtain ⟨RA, rc, hvv, -⟩ := own_slice2 hm.row
  obtain ⟨n', hn'⟩ : ∃ n, n = (D.filter fun d => !(decide (d.over ≤ now))).length := ⟨_, rfl⟩
  rw [← hn'] at hvv
  rw [hvv] at HW2 ⊢
  have HVV := Lib.hid hvv
  clear hm hpb1 t1 hset hW2 hb1 hb2 hq2 hk12 hrow2 hdel hb22 hno t2 hW3 hq3 hb23 hfar hmem hk13 hrd hlo hpq hvv hn'
  go_upto_region 4 with (fail)
  rw [← HW2.out]
  go_wp2_with fail
  refine (H31.out).mono ?_
  rintro e w3 ⟨rfl, rfl⟩
  go_wp2_with fail
  rw [← HW3.out]
  go_wp2_with fail
  refine bodyPost_ret (v := .slice A no no) ?_ ?_ ?_
  · rw [results_cell_one rfl]; go_simp
  · rfl
  · exact ⟨v', A, by rw [← HNO.out], HMEM.out, HRD.out, HLO.out⟩
theorem tick11 {pb : Nat} {rv : Value} {D : List Dg} {now : Nat} (w : World) (hP : PoolAt w pb rv D) :
    Calls Try.prog 11 #[.pointer (some ⟨pb, 0, none⟩), .int .u64 (now : Int)] w (TickRes pb rv D now w) := by
  refine (tick11x (now := now) w hP).mono ?_
  rintro e w' ⟨rv', A, rfl, hm, hk, -⟩
  exact ⟨rv', A, rfl, hm, hk⟩
end Go.Proofs.Ytjldcblklbikaaa
