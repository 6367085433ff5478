/- Several texts in one: FP, FQ, FR, App2. No condition beyond those that each part names. -/
import Derived.Test.YtjldcblklbikaaaFO
import Derived.Lib.SliceRun
import Derived.Great.BuildSlice
import Derived.Deep.CutBlock
/- Which datagram first is told of; those told of deleted: the walks. No condition but what the teller does. (Printed by gFP.py.) -/
namespace Go.Proofs.Ytjldcblklbikaaa
open Go.RowKit
set_option linter.unusedVariables false
set_option linter.unusedSimpArgs false
theorem FirstD.lt {D : List Dg} {t : Dg → Bool} {k : Nat} (h : FirstD D t (some k)) : k < D.length := by
  obtain ⟨x, hx, _⟩ := h; exact (List.getElem?_eq_some_iff.1 hx).1
theorem FirstD.filter {D : List Dg} {t : Dg → Bool} {k : Nat} (h : FirstD D t (some k)) : (D.take (k + 1)).filter (fun d => !t d) = D.take k := by
  obtain ⟨x, hx, ht, hno⟩ := h
  rw [List.take_add_one, hx, Option.toList_some, List.filter_append]
  have h1 : (D.take k).filter (fun d => !t d) = D.take k := by
    rw [List.filter_eq_self]
    intro a ha
    obtain ⟨j, hj⟩ := List.getElem?_of_mem ha
    rw [List.getElem?_take] at hj
    split at hj
    · rename_i hlt; rw [hno j a hlt hj]; rfl
    · cases hj
  rw [h1]
  simp [ht]
theorem filter_take {D : List Dg} {t : Dg → Bool} {k : Nat} {x : Dg} (hx : D[k]? = some x) : (D.take (k + 1)).filter (fun d => !t d) = (D.take k).filter (fun d => !t d) ++ (if t x then [] else [x]) := by
  rw [List.take_add_one, hx, Option.toList_some, List.filter_append]
  cases h : t x <;> simp [h]
theorem turned_setCells {g : Nat} {T : TypeId} : ∀ (l : List Value) (w : World) (o : Nat) (cur : Array Value), w.heap[g]? = some (.cells cur T (0, 0)) → ∃ cur' : Array Value, Turned g (.cells cur' T (0, 0)) w (w.setCells g o l) ∧ cur'.size = cur.size ∧ ∀ k : Nat, k < o → cur'[k]? = cur[k]?
  | [], w, o, cur, h => ⟨cur, Turned.refl h, rfl, fun _ _ => rfl⟩
  | v :: l, w, o, cur, h => by
    have t := Turned.setCell h o v
    obtain ⟨cur', t2, h2, h3⟩ := turned_setCells l (w.setCell ⟨g, o, none⟩ v) (o + 1) _ (t.get (lt_of_blk h))
    refine ⟨cur', t.trans t2, by rw [h2, Array.size_setIfInBounds], fun k hk => ?_⟩
    rw [h3 k (by omega), Array.getElem?_setIfInBounds, if_neg (by omega)]
def stepK (D : List Dg) : Option Nat → Nat
  | none => D.length
  | some k => k + 1
/-- the row while it is rewritten: the kept ones, then those still to be asked -/
structure RowCut (g cap : Nat) (D : List Dg) (t : Dg → Bool) (j : Nat) (W : World) : Prop where
  ex : ∃ cur : Array Value, W.heap[g]? = some (.cells cur 71 (0, 0)) ∧ cur.size = cap ∧ (∀ (k : Nat) (d : Dg), ((D.take j).filter (fun d => !t d))[k]? = some d → cur[k]? = some (ptrTo d)) ∧ (∀ (k : Nat) (d : Dg), j ≤ k → D[k]? = some d → cur[k]? = some (ptrTo d))
theorem RowCut.keep {g cap j : Nat} {D : List Dg} {t : Dg → Bool} {W W' : World} (h : RowCut g cap D t j W) (hk : W'.heap[g]? = W.heap[g]?) : RowCut g cap D t j W' := by
  obtain ⟨cur, h1, h2⟩ := h.ex
  exact ⟨cur, hk.trans h1, h2⟩
set_option maxRecDepth 100000 in
set_option maxHeartbeats 1000000 in
theorem idx52_43 {A : Option Addr} {c g cap p : Nat} {D : List Dg} {t : Dg → Bool} (S : Nat → World → Prop) (w : World) (hA : D ≠ [] → A = some ⟨g, 0, none⟩ ∧ RowCut g cap D t 0 w) (hS : S 0 w) (hm : D.length ≤ 1000000)
    (hf : ∀ (k : Nat) (d : Dg) (W : World), D[k]? = some d → S k W → W.heap[g]? = w.heap[g]? → Calls Try.prog 43 #[ptrTo d, .pointer (some ⟨p, 0, none⟩)] W fun e w' => e = .returned (.bool (t d)) ∧ S (k + 1) w' ∧ w'.heap[g]? = W.heap[g]?) :
    Calls Try.prog 52 #[.slice A D.length c, .func (.func 43) #[] #[.pointer (some ⟨p, 0, none⟩)]] w fun e w' => ∃ r, FirstD D t r ∧ e = .returned (.int .i64 (numK r)) ∧ S (stepK D r) w' ∧ w'.heap[g]? = w.heap[g]? := by
  obtain ⟨n, hn⟩ : ∃ n, D.length = n := ⟨_, rfl⟩
  have HN := Lib.hid hn
  have HF := Lib.hid hf
  have HA := Lib.hid hA
  have HS := Lib.hid hS
  have HST : Hid (stepK D none = n) := Lib.hid hn
  rw [hn] at hm ⊢
  clear hn hf hA hS
  go_enter Try.func52, Try.ntmps52
  go_wp2_with fail
  go_loopw [8] (fun i wr => ∃ k : Nat, k ≤ n ∧ i = .int .i64 k ∧ (∀ j y, j < k → D[j]? = some y → t y = false) ∧ S k wr ∧ wr.heap[g]? = w.heap[g]?) (fun i _ => n - (intOf i).toNat)
  case atStart => exact ⟨0, Nat.zero_le _, rfl, fun j y hj => absurd hj (by omega), HS.out, rfl⟩
  case round =>
    obtain ⟨k, hk, rfl, hno, hW, hg⟩ := hrel
    have HNO := Lib.hid hno
    clear hno HS
    by_cases hlt : k < n
    · obtain ⟨x, hx⟩ : ∃ x, D[k]? = some x := ⟨D[k]'(by rw [HN.out]; exact hlt), List.getElem?_eq_getElem _⟩
      obtain ⟨rfl, hrc⟩ := HA.out (by rintro rfl; simp at hx)
      obtain ⟨cur, h1, h2, h3, h4⟩ := hrc.ex
      have c0 : wr.cell? ⟨g, k, none⟩ = some (ptrTo x) := by rw [cell_blk (hg.trans h1)]; exact h4 k x (Nat.zero_le _) hx
      have HC := Lib.hid (HF.out k x wr hx hW hg)
      have HX := Lib.hid hx
      have HG := Lib.hid hg
      have HPX : Hid (ptrTo x = .pointer (some ⟨x.blk, 0, none⟩)) := Lib.hid rfl
      rw [HPX.out] at c0 HC
      clear hx hW hg hrc h1 h2 h3 h4 HA
      cases htx : t x with
      | true =>
        rw [htx] at HC
        have HTX := Lib.hid htx
        clear htx
        go_wp2_with fail
        refine (HC.out).mono ?_
        rintro e w1 ⟨rfl, hs1, hg1⟩
        have HS1 := Lib.hid hs1; have HG1 := Lib.hid (hg1.trans HG.out)
        clear hs1 hg1 HC
        go_wp2_with fail
        go_ret
        exact ⟨some k, ⟨x, HX.out, HTX.out, HNO.out⟩, rfl, HS1.out, HG1.out⟩
      | false =>
        rw [htx] at HC
        have HNX : Hid (∀ j y, j < k + 1 → D[j]? = some y → t y = false) := Lib.hid (by
          intro j y hj hy
          rcases Nat.lt_or_ge j k with h1 | h1
          · exact HNO.out j y h1 hy
          · obtain rfl : j = k := by omega
            have := HX.out
            rw [hy] at this
            cases this
            exact htx)
        clear htx
        go_wp2_with fail
        refine (HC.out).mono ?_
        rintro e w1 ⟨rfl, hs1, hg1⟩
        have HS1 := Lib.hid hs1; have HG1 := Lib.hid (hg1.trans HG.out)
        clear hs1 hg1 HC
        go_wp2_with fail
        go_roundw
        case rel => exact ⟨k + 1, by omega, by go_num, HNX.out, HS1.out, HG1.out⟩
        case measure => simp [intOf]; omega
    · obtain rfl : k = n := by omega
      clear hlt
      have HW := Lib.hid hW
      have HG := Lib.hid hg
      clear hW hg
      go_wp2_with fail
      go_ret
      refine ⟨none, fun x hx => ?_, rfl, by rw [HST.out]; exact HW.out, HG.out⟩
      obtain ⟨j, hj⟩ := List.getElem?_of_mem hx
      exact HNO.out j x (by rw [← HN.out]; exact (List.getElem?_eq_some_iff.1 hj).1) hj
set_option maxRecDepth 100000 in
set_option maxHeartbeats 1000000 in
theorem del27_43 {A : Option Addr} {g cap p : Nat} {D : List Dg} {t : Dg → Bool} (S : Nat → World → Prop) (w : World) (hA : D ≠ [] → A = some ⟨g, 0, none⟩ ∧ RowCut g cap D t 0 w) (hS : S 0 w) (hm : D.length ≤ 1000000) (hcap : D.length ≤ cap) (hmx : cap ≤ maxLen)
    (hT : ∀ k W W' cs, S k W → Turned g (.cells cs 71 (0, 0)) W W' → S k W')
    (hf : ∀ (k : Nat) (d : Dg) (W : World), D[k]? = some d → S k W → g < W.heap.size → Calls Try.prog 43 #[ptrTo d, .pointer (some ⟨p, 0, none⟩)] W fun e w' => e = .returned (.bool (t d)) ∧ S (k + 1) w' ∧ w'.heap[g]? = W.heap[g]?) :
    Calls Try.prog 27 #[.slice A D.length cap, .func (.func 43) #[] #[.pointer (some ⟨p, 0, none⟩)]] w fun e w' => ∃ v', e = .returned v' ∧ S D.length w' ∧ ((v' = .slice A D.length cap ∧ (∀ d ∈ D, t d = false) ∧ w'.heap[g]? = w.heap[g]?) ∨ (A = some ⟨g, 0, none⟩ ∧ v' = .slice A (D.filter (fun d => !t d)).length cap ∧ w'.ownsRow g 71 1 v' (D.filter (fun d => !t d)).length ((D.filter (fun d => !t d)).map ptrTo))) := by
  have HI := Lib.hid (idx52_43 (c := cap) (t := t) S w hA hS hm (fun k d W hk hs hg => by
    obtain ⟨rfl, hrc⟩ := hA (by rintro rfl; simp at hk)
    obtain ⟨cur, h1, _⟩ := hrc.ex
    exact hf k d W hk hs (lt_of_blk (hg.trans h1))))
  obtain ⟨n, hn⟩ : ∃ n, D.length = n := ⟨_, rfl⟩
  have HN := Lib.hid hn
  have HF := Lib.hid hf
  have HA := Lib.hid hA
  have HT := Lib.hid hT
  have HST : Hid (stepK D none = n) := Lib.hid hn
  have HMX := Lib.hid hmx
  rw [hn] at hm hcap HI ⊢
  clear hn hf hA hS hT hmx
  go_enter Try.func27, Try.ntmps27
  go_wp2_with fail
  refine (HI.out).mono ?_
  rintro e w1 ⟨r, hr, rfl, hs1, hg1⟩
  have HS1 := Lib.hid hs1; have HG1 := Lib.hid hg1; have HR := Lib.hid hr
  clear HI hs1 hg1 hr
  cases r with
  | none =>
    have tn : numK none = -1 := rfl
    rw [tn]
    clear tn
    go_wp2_with fail
    go_ret
    exact ⟨_, rfl, by rw [← HST.out]; exact HS1.out, .inl ⟨rfl, HR.out, HG1.out⟩⟩
  | some k0 =>
    have tn : numK (some k0) = (k0 : Int) := rfl
    rw [tn]
    clear tn
    have hk0 : k0 < n := by rw [← HN.out]; exact HR.out.lt
    have hne : D ≠ [] := by rintro rfl; have := HN.out; simp at this; omega
    obtain ⟨rfl, hrc⟩ := HA.out hne
    have hrc1 : RowCut g cap D t (k0 + 1) w1 := by
      obtain ⟨cur, h1, h2, h3, h4⟩ := hrc.ex
      refine ⟨cur, HG1.out.trans h1, h2, fun k d hk => ?_, fun k d hk hd => h4 k d (Nat.zero_le _) hd⟩
      rw [HR.out.filter, List.getElem?_take] at hk
      split at hk
      · exact h4 k d (Nat.zero_le _) hk
      · cases hk
    have hlen : ((D.take (k0 + 1)).filter (fun d => !t d)).length = k0 := by rw [HR.out.filter, List.length_take, HN.out]; omega
    have HRC := Lib.hid hrc1
    have HLEN := Lib.hid hlen
    have hS1 : S (k0 + 1) w1 := HS1.out
    have HS2 := Lib.hid hS1
    have tf : ((k0 : Int) == -1) = false := by rw [beq_eq_false_iff_ne]; omega
    clear hrc hrc1 hlen hne HA HR HG1 HS1 hS1
    go_wp2_with fail
    go_loopw [5, 6] (fun i j wr => ∃ (a b : Nat), i = .int .i64 a ∧ j = .int .i64 b ∧ a = ((D.take b).filter (fun d => !t d)).length ∧ a < b ∧ b ≤ n ∧ S b wr ∧ RowCut g cap D t b wr) (fun _ j _ => n - (intOf j).toNat)
    case atStart => exact ⟨k0, k0 + 1, rfl, by go_num, HLEN.out.symm, by omega, by omega, HS2.out, HRC.out⟩
    case round =>
      obtain ⟨a, b, rfl, rfl, ha, hab, hbn, hW, hRC⟩ := hrel
      clear HS2 HRC HLEN tf
      have HAE := Lib.hid ha
      by_cases hlt : b < n
      · obtain ⟨x, hx⟩ : ∃ x, D[b]? = some x := ⟨D[b]'(by rw [HN.out]; exact hlt), List.getElem?_eq_getElem _⟩
        obtain ⟨cur, h1, h2, h3, h4⟩ := hRC.ex
        have c0 : wr.cell? ⟨g, b, none⟩ = some (ptrTo x) := by rw [cell_blk h1]; exact h4 b x (Nat.le_refl _) hx
        have HC := Lib.hid (HF.out b x wr hx hW (lt_of_blk h1))
        have HX := Lib.hid hx
        have HFT := Lib.hid (filter_take (t := t) hx)
        have HPX : Hid (ptrTo x = .pointer (some ⟨x.blk, 0, none⟩)) := Lib.hid rfl
        have H1 := Lib.hid h1; have H2 := Lib.hid h2; have H3 := Lib.hid h3; have H4 := Lib.hid h4
        rw [HPX.out] at c0 HC
        clear hx hW hRC h1 h2 h3 h4 ha
        cases htx : t x with
        | true =>
          rw [htx] at HC HFT
          clear htx
          go_wp2_with fail
          refine (HC.out).mono ?_
          rintro e w2 ⟨rfl, hs2, hg2⟩
          have HS2 := Lib.hid hs2; have HG2 := Lib.hid hg2
          clear hs2 hg2 HC
          go_wp2_with fail
          go_roundw
          case rel =>
            refine ⟨a, b + 1, rfl, by go_num, ?_, by omega, by omega, HS2.out, cur, HG2.out.trans H1.out, H2.out, fun k d hk => H3.out k d ?_, fun k d hk hd => H4.out k d (by omega) hd⟩
            · rw [HFT.out, HAE.out]; simp
            · rw [HFT.out] at hk; simpa using hk
          case measure => simp [intOf]; omega
        | false =>
          rw [htx] at HC HFT
          clear htx
          go_wp2_with fail
          refine (HC.out).mono ?_
          rintro e w2 ⟨rfl, hs2, hg2⟩
          have hb2 : w2.heap[g]? = some (.cells cur 71 (0, 0)) := hg2.trans H1.out
          have ca : ∃ va, w2.cell? ⟨g, a, none⟩ = some va := by
            rw [cell_blk hb2]
            exact ⟨_, Array.getElem?_eq_getElem (by rw [H2.out]; omega)⟩
          obtain ⟨va, ca⟩ := ca
          have fa := frozen_blk hb2 a
          have tt := Turned.setCell hb2 a (.pointer (some ⟨x.blk, 0, none⟩))
          have hs3 := HT.out _ _ _ _ hs2 tt
          have HS3 := Lib.hid hs3; have HB3 := Lib.hid (tt.get (lt_of_blk hb2))
          clear hs2 hg2 HC tt hs3 hb2
          go_wp2_with fail
          go_roundw
          case rel =>
            have hfl : ((D.take (b + 1)).filter (fun d => !t d)) = ((D.take b).filter (fun d => !t d)) ++ [x] := by rw [HFT.out, if_neg (by simp)]
            refine ⟨a + 1, b + 1, by go_num, by go_num, ?_, by omega, by omega, HS3.out, _, HB3.out, by rw [Array.size_setIfInBounds]; exact H2.out, fun k d hk => ?_, fun k d hk hd => ?_⟩
            · rw [hfl, List.length_append, ← HAE.out]; rfl
            · rw [hfl] at hk
              rw [Array.getElem?_setIfInBounds]
              by_cases e : a = k
              · subst e
                rw [HAE.out, List.getElem?_append_right (Nat.le_refl _)] at hk
                simp at hk
                subst hk
                rw [if_pos rfl, if_pos (by rw [H2.out]; omega)]
                rfl
              · rw [if_neg e]
                refine H3.out k d ?_
                rw [List.getElem?_append] at hk
                split at hk
                · exact hk
                · rename_i hge
                  rw [← HAE.out] at hk hge
                  rw [List.getElem?_eq_none (by simp; omega)] at hk
                  cases hk
            · rw [Array.getElem?_setIfInBounds, if_neg (by omega)]
              exact H4.out k d (by omega) hd
          case measure => simp [intOf]; omega
      · obtain rfl : b = n := by omega
        clear hlt
        obtain ⟨cur, h1, h2, h3, h4⟩ := hRC.ex
        have hmx := HMX.out
        unfold maxLen at hmx
        have hcl : ∀ ty, (Builtin.clear_ #[56] ty #[.slice (some ⟨g, a, none⟩) (b - a) (cap - a)]).run Try.prog wr = .ok (.tuple #[]) (wr.setCells g a (List.replicate (b - a) (.pointer none))) :=
          fun ty => Lib.run_clear_slice wr 56 71 ty (.pointer none) Try.underlying56 Try.zeroValue71 rfl rfl g a (b - a) _ (by omega) (fun j hj => by rw [cell_blk h1, Array.getElem?_eq_getElem (by omega)]; rfl) (fun j hj => frozen_blk h1 _)
        have H1 := Lib.hid h1; have H2 := Lib.hid h2; have H3 := Lib.hid h3
        have HW := Lib.hid hW
        clear h1 h2 h3 h4 hRC hW ha hmx
        go_wp2_with fail
        go_ret
        obtain ⟨cur', ht, hs', hlo⟩ := turned_setCells (List.replicate (b - a) (.pointer none)) wr a cur H1.out
        have htk : D.take b = D := by rw [← HN.out, List.take_length]
        have hae := HAE.out
        rw [htk] at hae
        refine ⟨.slice (some ⟨g, 0, none⟩) a cap, rfl, HT.out _ _ _ _ HW.out ht, .inr ⟨by rw [← hae], ?_⟩⟩
        have h3 := H3.out
        rw [htk] at h3
        rw [← hae]
        refine ⟨by rw [List.length_map, ← hae, Nat.mul_one], .inr ⟨g, cap, cur', rfl, Nat.le_refl _, ht.get (lt_of_blk H1.out), by omega, HMX.out, by rw [hs', H2.out, Nat.mul_one], ?_⟩⟩
        refine List.ext_getElem? fun k => ?_
        rw [Nat.mul_one, List.getElem?_take, List.getElem?_map]
        by_cases hk : k < a
        · obtain ⟨y, hy⟩ : ∃ y, (D.filter (fun d => !t d))[k]? = some y := ⟨_, List.getElem?_eq_getElem (by rw [← hae]; exact hk)⟩
          rw [if_pos hk, hy]
          have := (hlo k hk).trans (h3 k y hy)
          simpa using this
        · rw [if_neg hk, List.getElem?_eq_none (by rw [← hae]; omega)]; rfl
set_option maxRecDepth 100000 in
set_option maxHeartbeats 1000000 in
theorem idx52_28 {A : Option Addr} {c g cap p q : Nat} {D : List Dg} {t : Dg → Bool} (S : Nat → World → Prop) (w : World) (hA : D ≠ [] → A = some ⟨g, 0, none⟩ ∧ RowCut g cap D t 0 w) (hS : S 0 w) (hm : D.length ≤ 1000000)
    (hf : ∀ (k : Nat) (d : Dg) (W : World), D[k]? = some d → S k W → W.heap[g]? = w.heap[g]? → Calls Try.prog 28 #[ptrTo d, .pointer (some ⟨p, 0, none⟩), .pointer (some ⟨q, 0, none⟩)] W fun e w' => e = .returned (.bool (t d)) ∧ S (k + 1) w' ∧ w'.heap[g]? = W.heap[g]?) :
    Calls Try.prog 52 #[.slice A D.length c, .func (.func 28) #[] #[.pointer (some ⟨p, 0, none⟩), .pointer (some ⟨q, 0, none⟩)]] w fun e w' => ∃ r, FirstD D t r ∧ e = .returned (.int .i64 (numK r)) ∧ S (stepK D r) w' ∧ w'.heap[g]? = w.heap[g]? := by
  obtain ⟨n, hn⟩ : ∃ n, D.length = n := ⟨_, rfl⟩
  have HN := Lib.hid hn
  have HF := Lib.hid hf
  have HA := Lib.hid hA
  have HS := Lib.hid hS
  have HST : Hid (stepK D none = n) := Lib.hid hn
  rw [hn] at hm ⊢
  clear hn hf hA hS
  go_enter Try.func52, Try.ntmps52
  go_wp2_with fail
  go_loopw [8] (fun i wr => ∃ k : Nat, k ≤ n ∧ i = .int .i64 k ∧ (∀ j y, j < k → D[j]? = some y → t y = false) ∧ S k wr ∧ wr.heap[g]? = w.heap[g]?) (fun i _ => n - (intOf i).toNat)
  case atStart => exact ⟨0, Nat.zero_le _, rfl, fun j y hj => absurd hj (by omega), HS.out, rfl⟩
  case round =>
    obtain ⟨k, hk, rfl, hno, hW, hg⟩ := hrel
    have HNO := Lib.hid hno
    clear hno HS
    by_cases hlt : k < n
    · obtain ⟨x, hx⟩ : ∃ x, D[k]? = some x := ⟨D[k]'(by rw [HN.out]; exact hlt), List.getElem?_eq_getElem _⟩
      obtain ⟨rfl, hrc⟩ := HA.out (by rintro rfl; simp at hx)
      obtain ⟨cur, h1, h2, h3, h4⟩ := hrc.ex
      have c0 : wr.cell? ⟨g, k, none⟩ = some (ptrTo x) := by rw [cell_blk (hg.trans h1)]; exact h4 k x (Nat.zero_le _) hx
      have HC := Lib.hid (HF.out k x wr hx hW hg)
      have HX := Lib.hid hx
      have HG := Lib.hid hg
      have HPX : Hid (ptrTo x = .pointer (some ⟨x.blk, 0, none⟩)) := Lib.hid rfl
      rw [HPX.out] at c0 HC
      clear hx hW hg hrc h1 h2 h3 h4 HA
      cases htx : t x with
      | true =>
        rw [htx] at HC
        have HTX := Lib.hid htx
        clear htx
        go_wp2_with fail
        refine (HC.out).mono ?_
        rintro e w1 ⟨rfl, hs1, hg1⟩
        have HS1 := Lib.hid hs1; have HG1 := Lib.hid (hg1.trans HG.out)
        clear hs1 hg1 HC
        go_wp2_with fail
        go_ret
        exact ⟨some k, ⟨x, HX.out, HTX.out, HNO.out⟩, rfl, HS1.out, HG1.out⟩
      | false =>
        rw [htx] at HC
        have HNX : Hid (∀ j y, j < k + 1 → D[j]? = some y → t y = false) := Lib.hid (by
          intro j y hj hy
          rcases Nat.lt_or_ge j k with h1 | h1
          · exact HNO.out j y h1 hy
          · obtain rfl : j = k := by omega
            have := HX.out
            rw [hy] at this
            cases this
            exact htx)
        clear htx
        go_wp2_with fail
        refine (HC.out).mono ?_
        rintro e w1 ⟨rfl, hs1, hg1⟩
        have HS1 := Lib.hid hs1; have HG1 := Lib.hid (hg1.trans HG.out)
        clear hs1 hg1 HC
        go_wp2_with fail
        go_roundw
        case rel => exact ⟨k + 1, by omega, by go_num, HNX.out, HS1.out, HG1.out⟩
        case measure => simp [intOf]; omega
    · obtain rfl : k = n := by omega
      clear hlt
      have HW := Lib.hid hW
      have HG := Lib.hid hg
      clear hW hg
      go_wp2_with fail
      go_ret
      refine ⟨none, fun x hx => ?_, rfl, by rw [HST.out]; exact HW.out, HG.out⟩
      obtain ⟨j, hj⟩ := List.getElem?_of_mem hx
      exact HNO.out j x (by rw [← HN.out]; exact (List.getElem?_eq_some_iff.1 hj).1) hj
set_option maxRecDepth 100000 in
set_option maxHeartbeats 1000000 in
theorem del27_28 {A : Option Addr} {g cap p q : Nat} {D : List Dg} {t : Dg → Bool} (S : Nat → World → Prop) (w : World) (hA : D ≠ [] → A = some ⟨g, 0, none⟩ ∧ RowCut g cap D t 0 w) (hS : S 0 w) (hm : D.length ≤ 1000000) (hcap : D.length ≤ cap) (hmx : cap ≤ maxLen)
    (hT : ∀ k W W' cs, S k W → Turned g (.cells cs 71 (0, 0)) W W' → S k W')
    (hf : ∀ (k : Nat) (d : Dg) (W : World), D[k]? = some d → S k W → g < W.heap.size → Calls Try.prog 28 #[ptrTo d, .pointer (some ⟨p, 0, none⟩), .pointer (some ⟨q, 0, none⟩)] W fun e w' => e = .returned (.bool (t d)) ∧ S (k + 1) w' ∧ w'.heap[g]? = W.heap[g]?) :
    Calls Try.prog 27 #[.slice A D.length cap, .func (.func 28) #[] #[.pointer (some ⟨p, 0, none⟩), .pointer (some ⟨q, 0, none⟩)]] w fun e w' => ∃ v', e = .returned v' ∧ S D.length w' ∧ ((v' = .slice A D.length cap ∧ (∀ d ∈ D, t d = false) ∧ w'.heap[g]? = w.heap[g]?) ∨ (A = some ⟨g, 0, none⟩ ∧ v' = .slice A (D.filter (fun d => !t d)).length cap ∧ w'.ownsRow g 71 1 v' (D.filter (fun d => !t d)).length ((D.filter (fun d => !t d)).map ptrTo))) := by
  have HI := Lib.hid (idx52_28 (c := cap) (t := t) S w hA hS hm (fun k d W hk hs hg => by
    obtain ⟨rfl, hrc⟩ := hA (by rintro rfl; simp at hk)
    obtain ⟨cur, h1, _⟩ := hrc.ex
    exact hf k d W hk hs (lt_of_blk (hg.trans h1))))
  obtain ⟨n, hn⟩ : ∃ n, D.length = n := ⟨_, rfl⟩
  have HN := Lib.hid hn
  have HF := Lib.hid hf
  have HA := Lib.hid hA
  have HT := Lib.hid hT
  have HST : Hid (stepK D none = n) := Lib.hid hn
  have HMX := Lib.hid hmx
  rw [hn] at hm hcap HI ⊢
  clear hn hf hA hS hT hmx
  go_enter Try.func27, Try.ntmps27
  go_wp2_with fail
  refine (HI.out).mono ?_
  rintro e w1 ⟨r, hr, rfl, hs1, hg1⟩
  have HS1 := Lib.hid hs1; have HG1 := Lib.hid hg1; have HR := Lib.hid hr
  clear HI hs1 hg1 hr
  cases r with
  | none =>
    have tn : numK none = -1 := rfl
    rw [tn]
    clear tn
    go_wp2_with fail
    go_ret
    exact ⟨_, rfl, by rw [← HST.out]; exact HS1.out, .inl ⟨rfl, HR.out, HG1.out⟩⟩
  | some k0 =>
    have tn : numK (some k0) = (k0 : Int) := rfl
    rw [tn]
    clear tn
    have hk0 : k0 < n := by rw [← HN.out]; exact HR.out.lt
    have hne : D ≠ [] := by rintro rfl; have := HN.out; simp at this; omega
    obtain ⟨rfl, hrc⟩ := HA.out hne
    have hrc1 : RowCut g cap D t (k0 + 1) w1 := by
      obtain ⟨cur, h1, h2, h3, h4⟩ := hrc.ex
      refine ⟨cur, HG1.out.trans h1, h2, fun k d hk => ?_, fun k d hk hd => h4 k d (Nat.zero_le _) hd⟩
      rw [HR.out.filter, List.getElem?_take] at hk
      split at hk
      · exact h4 k d (Nat.zero_le _) hk
      · cases hk
    have hlen : ((D.take (k0 + 1)).filter (fun d => !t d)).length = k0 := by rw [HR.out.filter, List.length_take, HN.out]; omega
    have HRC := Lib.hid hrc1
    have HLEN := Lib.hid hlen
    have hS1 : S (k0 + 1) w1 := HS1.out
    have HS2 := Lib.hid hS1
    have tf : ((k0 : Int) == -1) = false := by rw [beq_eq_false_iff_ne]; omega
    clear hrc hrc1 hlen hne HA HR HG1 HS1 hS1
    go_wp2_with fail
    go_loopw [5, 6] (fun i j wr => ∃ (a b : Nat), i = .int .i64 a ∧ j = .int .i64 b ∧ a = ((D.take b).filter (fun d => !t d)).length ∧ a < b ∧ b ≤ n ∧ S b wr ∧ RowCut g cap D t b wr) (fun _ j _ => n - (intOf j).toNat)
    case atStart => exact ⟨k0, k0 + 1, rfl, by go_num, HLEN.out.symm, by omega, by omega, HS2.out, HRC.out⟩
    case round =>
      obtain ⟨a, b, rfl, rfl, ha, hab, hbn, hW, hRC⟩ := hrel
      clear HS2 HRC HLEN tf
      have HAE := Lib.hid ha
      by_cases hlt : b < n
      · obtain ⟨x, hx⟩ : ∃ x, D[b]? = some x := ⟨D[b]'(by rw [HN.out]; exact hlt), List.getElem?_eq_getElem _⟩
        obtain ⟨cur, h1, h2, h3, h4⟩ := hRC.ex
        have c0 : wr.cell? ⟨g, b, none⟩ = some (ptrTo x) := by rw [cell_blk h1]; exact h4 b x (Nat.le_refl _) hx
        have HC := Lib.hid (HF.out b x wr hx hW (lt_of_blk h1))
        have HX := Lib.hid hx
        have HFT := Lib.hid (filter_take (t := t) hx)
        have HPX : Hid (ptrTo x = .pointer (some ⟨x.blk, 0, none⟩)) := Lib.hid rfl
        have H1 := Lib.hid h1; have H2 := Lib.hid h2; have H3 := Lib.hid h3; have H4 := Lib.hid h4
        rw [HPX.out] at c0 HC
        clear hx hW hRC h1 h2 h3 h4 ha
        cases htx : t x with
        | true =>
          rw [htx] at HC HFT
          clear htx
          go_wp2_with fail
          refine (HC.out).mono ?_
          rintro e w2 ⟨rfl, hs2, hg2⟩
          have HS2 := Lib.hid hs2; have HG2 := Lib.hid hg2
          clear hs2 hg2 HC
          go_wp2_with fail
          go_roundw
          case rel =>
            refine ⟨a, b + 1, rfl, by go_num, ?_, by omega, by omega, HS2.out, cur, HG2.out.trans H1.out, H2.out, fun k d hk => H3.out k d ?_, fun k d hk hd => H4.out k d (by omega) hd⟩
            · rw [HFT.out, HAE.out]; simp
            · rw [HFT.out] at hk; simpa using hk
          case measure => simp [intOf]; omega
        | false =>
          rw [htx] at HC HFT
          clear htx
          go_wp2_with fail
          refine (HC.out).mono ?_
          rintro e w2 ⟨rfl, hs2, hg2⟩
          have hb2 : w2.heap[g]? = some (.cells cur 71 (0, 0)) := hg2.trans H1.out
          have ca : ∃ va, w2.cell? ⟨g, a, none⟩ = some va := by
            rw [cell_blk hb2]
            exact ⟨_, Array.getElem?_eq_getElem (by rw [H2.out]; omega)⟩
          obtain ⟨va, ca⟩ := ca
          have fa := frozen_blk hb2 a
          have tt := Turned.setCell hb2 a (.pointer (some ⟨x.blk, 0, none⟩))
          have hs3 := HT.out _ _ _ _ hs2 tt
          have HS3 := Lib.hid hs3; have HB3 := Lib.hid (tt.get (lt_of_blk hb2))
          clear hs2 hg2 HC tt hs3 hb2
          go_wp2_with fail
          go_roundw
          case rel =>
            have hfl : ((D.take (b + 1)).filter (fun d => !t d)) = ((D.take b).filter (fun d => !t d)) ++ [x] := by rw [HFT.out, if_neg (by simp)]
            refine ⟨a + 1, b + 1, by go_num, by go_num, ?_, by omega, by omega, HS3.out, _, HB3.out, by rw [Array.size_setIfInBounds]; exact H2.out, fun k d hk => ?_, fun k d hk hd => ?_⟩
            · rw [hfl, List.length_append, ← HAE.out]; rfl
            · rw [hfl] at hk
              rw [Array.getElem?_setIfInBounds]
              by_cases e : a = k
              · subst e
                rw [HAE.out, List.getElem?_append_right (Nat.le_refl _)] at hk
                simp at hk
                subst hk
                rw [if_pos rfl, if_pos (by rw [H2.out]; omega)]
                rfl
              · rw [if_neg e]
                refine H3.out k d ?_
                rw [List.getElem?_append] at hk
                split at hk
                · exact hk
                · rename_i hge
                  rw [← HAE.out] at hk hge
                  rw [List.getElem?_eq_none (by simp; omega)] at hk
                  cases hk
            · rw [Array.getElem?_setIfInBounds, if_neg (by omega)]
              exact H4.out k d (by omega) hd
          case measure => simp [intOf]; omega
      · obtain rfl : b = n := by omega
        clear hlt
        obtain ⟨cur, h1, h2, h3, h4⟩ := hRC.ex
        have hmx := HMX.out
        unfold maxLen at hmx
        have hcl : ∀ ty, (Builtin.clear_ #[56] ty #[.slice (some ⟨g, a, none⟩) (b - a) (cap - a)]).run Try.prog wr = .ok (.tuple #[]) (wr.setCells g a (List.replicate (b - a) (.pointer none))) :=
          fun ty => Lib.run_clear_slice wr 56 71 ty (.pointer none) Try.underlying56 Try.zeroValue71 rfl rfl g a (b - a) _ (by omega) (fun j hj => by rw [cell_blk h1, Array.getElem?_eq_getElem (by omega)]; rfl) (fun j hj => frozen_blk h1 _)
        have H1 := Lib.hid h1; have H2 := Lib.hid h2; have H3 := Lib.hid h3
        have HW := Lib.hid hW
        clear h1 h2 h3 h4 hRC hW ha hmx
        go_wp2_with fail
        go_ret
        obtain ⟨cur', ht, hs', hlo⟩ := turned_setCells (List.replicate (b - a) (.pointer none)) wr a cur H1.out
        have htk : D.take b = D := by rw [← HN.out, List.take_length]
        have hae := HAE.out
        rw [htk] at hae
        refine ⟨.slice (some ⟨g, 0, none⟩) a cap, rfl, HT.out _ _ _ _ HW.out ht, .inr ⟨by rw [← hae], ?_⟩⟩
        have h3 := H3.out
        rw [htk] at h3
        rw [← hae]
        refine ⟨by rw [List.length_map, ← hae, Nat.mul_one], .inr ⟨g, cap, cur', rfl, Nat.le_refl _, ht.get (lt_of_blk H1.out), by omega, HMX.out, by rw [hs', H2.out, Nat.mul_one], ?_⟩⟩
        refine List.ext_getElem? fun k => ?_
        rw [Nat.mul_one, List.getElem?_take, List.getElem?_map]
        by_cases hk : k < a
        · obtain ⟨y, hy⟩ : ∃ y, (D.filter (fun d => !t d))[k]? = some y := ⟨_, List.getElem?_eq_getElem (by rw [← hae]; exact hk)⟩
          rw [if_pos hk, hy]
          have := (hlo k hk).trans (h3 k y hy)
          simpa using this
        · rw [if_neg hk, List.getElem?_eq_none (by rw [← hae]; omega)]; rfl
end Go.Proofs.Ytjldcblklbikaaa

/- A pool in memory: a datagram in it changed, added, taken out; what a part does to a pool, in plain words. No condition. -/
namespace Go.Proofs.Ytjldcblklbikaaa
open Go.RowKit
set_option linter.unusedVariables false
set_option linter.unusedSimpArgs false
/-- a datagram of the pool, as far as it is data -/
structure Ds where
  src : List Nat
  dst : List Nat
  id : Nat
  over : Nat
  bad : Bool
  L : List Pk
def Dg.abs (d : Dg) : Ds := ⟨d.src, d.dst, d.id, d.over, d.bad, d.L.map (·.pk)⟩
def Ds.has (x : Pk) (d : Ds) : Bool := d.src == x.src && (d.dst == x.dst && d.id == x.id)
theorem has_abs (x : Pk) (d : Dg) : Ds.has x d.abs = Dg.has x.src x.dst x.id d := rfl
def spoilS (d : Ds) : Ds := { d with bad := true, L := [] }
def freshS (now : Nat) (x : Pk) : Ds := ⟨x.src, x.dst, x.id, addU now 60000, false, []⟩
/-- the first that has the part's name -/
def FirstS (S : List Ds) (x : Pk) (r : Option Nat) : Prop := match r with
  | none => ∀ d ∈ S, Ds.has x d = false
  | some k => ∃ d, S[k]? = some d ∧ Ds.has x d = true ∧ ∀ (j : Nat) (y : Ds), j < k → S[j]? = some y → Ds.has x y = false
theorem FirstD.abs {D : List Dg} {x : Pk} {r : Option Nat} (h : FirstD D (Dg.has x.src x.dst x.id) r) : FirstS (D.map Dg.abs) x r := by
  cases r with
  | none =>
    intro d hd
    obtain ⟨e, he, rfl⟩ := List.mem_map.1 hd
    exact h e he
  | some k =>
    obtain ⟨d, hd, ht, hno⟩ := h
    refine ⟨d.abs, by rw [List.getElem?_map, hd]; rfl, ht, fun j y hj hy => ?_⟩
    rw [List.getElem?_map] at hy
    obtain ⟨e, he, rfl⟩ := Option.map_eq_some_iff.1 hy
    exact hno j e hj he
/-- what becomes of a part that may be, in the datagram at k -/
def PutS (x : Pk) (S : List Ds) (k : Nat) (d : Ds) (S' : List Ds) (out : Option Pk) (dr : Bool) : Prop :=
  (judgeN d.L x = 1 ∧ S' = S ∧ out = none ∧ dr = false) ∨
  (judgeN d.L x = 2 ∧ S' = S.set k (spoilS d) ∧ out = none ∧ dr = true) ∨
  (judgeN d.L x = 0 ∧ ¬ (hadN (d.L ++ [x]) : Int) = endZ (d.L ++ [x]) ∧ S' = S.set k { d with L := d.L ++ [x] } ∧ out = none ∧ dr = false) ∨
  (judgeN d.L x = 0 ∧ (hadN (d.L ++ [x]) : Int) = endZ (d.L ++ [x]) ∧ S' = S.eraseIdx k ∧ (∃ l, l.Perm (d.L ++ [x]) ∧ (l.Pairwise fun a b => frm a ≤ frm b) ∧ out = joinP l ∧ out ≠ none) ∧ dr = false)
def AddS (now : Nat) (x : Pk) (S S' : List Ds) (out : Option Pk) (dr : Bool) : Prop :=
  (x.is = false ∧ S' = S ∧ out = none ∧ dr = true) ∨
  (x.is = true ∧ mayB x = false ∧ ((FirstS S x none ∧ S' = S) ∨ ∃ k d, FirstS S x (some k) ∧ S[k]? = some d ∧ S' = S.set k (spoilS d)) ∧ out = none ∧ dr = true) ∨
  (x.is = true ∧ mayB x = true ∧ (∃ k d, FirstS S x (some k) ∧ S[k]? = some d ∧ d.bad = true) ∧ S' = S ∧ out = none ∧ dr = true) ∨
  (x.is = true ∧ mayB x = true ∧ FirstS S x none ∧ S.length = 4 ∧ S' = S ∧ out = none ∧ dr = true) ∨
  (x.is = true ∧ mayB x = true ∧ ∃ k d, FirstS S x (some k) ∧ S[k]? = some d ∧ d.bad = false ∧ PutS x S k d S' out dr) ∨
  (x.is = true ∧ mayB x = true ∧ FirstS S x none ∧ S.length ≠ 4 ∧ PutS x (S ++ [freshS now x]) S.length (freshS now x) S' out dr)
/-! ### in memory -/
theorem own_type {w : World} {B e s n : Nat} {v : Value} {xs : List Value} (h : w.ownsRow B e s v n xs) {i : Nat} (hi : v.ownBlock = some i) : ∃ cur, w.heap[i]? = some (.cells cur e (0, 0)) := by
  rcases h.2 with ⟨rfl, _⟩ | ⟨g, cap, cur, rfl, hb, hg, _⟩
  · cases hi
  · cases hi; exact ⟨cur, hg⟩
theorem body_type {w : World} {e : El} (h : BodyAt w e) {i : Nat} (hi : e.adr = some ⟨i, 0, none⟩) : ∃ cur, w.heap[i]? = some (.cells cur 5 (0, 0)) := by
  rcases h.blk with h1 | ⟨g, cur, h1, h2, h3⟩
  · rw [h1] at hi; cases hi
  · rw [h1] at hi; cases hi; exact ⟨cur, h2⟩
/-- the kinds of a pool's blocks -/
inductive Kd (w : World) (i : Nat) : Nat → Prop where
  | mk (cur : Array Value) (t : TypeId) (h : w.heap[i]? = some (.cells cur t (0, 0))) : Kd w i t
theorem Kd.one {w : World} {i a b : Nat} (h : Kd w i a) (k : Kd w i b) : a = b := by
  obtain ⟨c, _, h⟩ := h
  obtain ⟨c2, _, k⟩ := k
  rw [h] at k; cases k; rfl
theorem DgAt.kdb {w : World} {d : Dg} (h : DgAt w d) : Kd w d.blk 75 := ⟨_, _, h.blk⟩
theorem DgAt.kdv {w : World} {d : Dg} (h : DgAt w d) {i : Nat} (hi : d.v.ownBlock = some i) : Kd w i 43 := by
  obtain ⟨cur, hc⟩ := own_type h.own hi; exact ⟨_, _, hc⟩
theorem DgAt.kdo {w : World} {d : Dg} (h : DgAt w d) {i : Nat} (hi : d.bods i) : Kd w i 5 := by
  obtain ⟨e, he, hi⟩ := hi
  obtain ⟨cur, hc⟩ := body_type (h.each e he).2.1 hi; exact ⟨_, _, hc⟩
theorem PoolAt.kdp {w : World} {pb : Nat} {rv : Value} {D : List Dg} (h : PoolAt w pb rv D) : Kd w pb 58 := ⟨_, _, h.blk⟩
theorem PoolAt.kdr {w : World} {pb : Nat} {rv : Value} {D : List Dg} (h : PoolAt w pb rv D) {i : Nat} (hi : rv.ownBlock = some i) : Kd w i 71 := by
  obtain ⟨cur, hc⟩ := own_type h.row hi; exact ⟨_, _, hc⟩
theorem PoolAt.blk_ne {w : World} {pb : Nat} {rv : Value} {D : List Dg} (h : PoolAt w pb rv D) {i j : Nat} {a b : Dg} (hi : D[i]? = some a) (hj : D[j]? = some b) (hne : i ≠ j) : a.blk ≠ b.blk := by
  have hp := List.pairwise_iff_getElem.1 h.blks
  obtain ⟨h1, rfl⟩ := List.getElem?_eq_some_iff.1 hi
  obtain ⟨h2, rfl⟩ := List.getElem?_eq_some_iff.1 hj
  rcases Nat.lt_or_gt_of_ne hne with hlt | hlt
  · exact hp i j h1 h2 hlt
  · exact (hp j i h2 h1 hlt).symm
theorem PoolAt.row_ne {w : World} {pb : Nat} {rv : Value} {D : List Dg} (h : PoolAt w pb rv D) {i j : Nat} {a b : Dg} (hi : D[i]? = some a) (hj : D[j]? = some b) (hne : i ≠ j) {g : Nat} (ha : a.v.ownBlock = some g) : b.v.ownBlock ≠ some g := by
  have hp := List.pairwise_iff_getElem.1 h.rows
  obtain ⟨h1, rfl⟩ := List.getElem?_eq_some_iff.1 hi
  obtain ⟨h2, rfl⟩ := List.getElem?_eq_some_iff.1 hj
  intro hb
  rcases Nat.lt_or_gt_of_ne hne with hlt | hlt
  · rcases hp i j h1 h2 hlt with h | h
    · rw [h] at ha; cases ha
    · exact h (ha.trans hb.symm)
  · rcases hp j i h2 h1 hlt with h | h
    · rw [h] at hb; cases hb
    · exact h (hb.trans ha.symm)
/-- blocks of the pool that are not of this datagram -/
theorem PoolAt.apart {w : World} {pb : Nat} {rv : Value} {D : List Dg} (h : PoolAt w pb rv D) {k : Nat} {d : Dg} (hk : D[k]? = some d) {i : Nat} (hi : d.foot i) :
    i ≠ pb ∧ rv.ownBlock ≠ some i ∧ ∀ (j : Nat) (b : Dg), D[j]? = some b → (j ≠ k → ¬ b.foot i) ∧ ¬ b.bods i := by
  have hd := h.each d (List.mem_of_getElem? hk)
  rcases hi with rfl | hi
  · refine ⟨?_, ?_, fun j b hb => ?_⟩
    · intro e; have := hd.kdb.one (e ▸ h.kdp); omega
    · intro e; have := hd.kdb.one (h.kdr e); omega
    · have hbm := h.each b (List.mem_of_getElem? hb)
      refine ⟨fun hne hf => ?_, fun ho => ?_⟩
      · rcases hf with e | hf
        · exact h.blk_ne hk hb (fun e => hne e.symm) e
        · have := hd.kdb.one (hbm.kdv hf); omega
      · have := hd.kdb.one (hbm.kdo ho); omega
  · refine ⟨?_, ?_, fun j b hb => ?_⟩
    · intro e; have := (hd.kdv hi).one (e ▸ h.kdp); omega
    · intro e; have := (hd.kdv hi).one (h.kdr e); omega
    · have hbm := h.each b (List.mem_of_getElem? hb)
      refine ⟨fun hne hf => ?_, fun ho => ?_⟩
      · rcases hf with e | hf
        · have := (hd.kdv hi).one (e ▸ hbm.kdb); omega
        · exact h.row_ne hk hb (fun e => hne e.symm) hi hf
      · have := (hd.kdv hi).one (hbm.kdo ho); omega
/-- no body is two parts' -/
def Sep (D : List Dg) : Prop := (D.flatMap (·.L)).Pairwise fun a b => ∀ g, a.adr = some ⟨g, 0, none⟩ → b.adr ≠ some ⟨g, 0, none⟩
theorem Sep.set {D : List Dg} {k : Nat} {d d' : Dg} (hk : D[k]? = some d) (hL : d'.L = [] ∨ ∃ e, d'.L = d.L ++ [e] ∧ ∀ g, e.adr = some ⟨g, 0, none⟩ → ¬ bods D g) (h : Sep D) : Sep (D.set k d') := by
  obtain ⟨hkl, e1⟩ := List.getElem?_eq_some_iff.1 hk
  have hD : D = D.take k ++ d :: D.drop (k + 1) := by rw [← e1, List.getElem_cons_drop, List.take_append_drop]
  have hS : D.set k d' = D.take k ++ d' :: D.drop (k + 1) := List.set_eq_take_append_cons_drop.trans (if_pos hkl)
  have hn : ∀ a ∈ D.flatMap (·.L), ∀ g, a.adr = some ⟨g, 0, none⟩ → bods D g := fun a ha g hg => by
    obtain ⟨b, hb, hab⟩ := List.mem_flatMap.1 ha
    exact ⟨b, hb, a, hab, hg⟩
  unfold Sep at h ⊢
  rw [hS, List.flatMap_append, List.flatMap_cons]
  rw [hD, List.flatMap_append, List.flatMap_cons] at h hn
  rw [← hD] at hn
  rcases hL with e | ⟨e, he, hfr⟩
  · rw [e]
    refine h.sublist ?_
    exact List.Sublist.append (List.Sublist.refl _) (List.Sublist.append (List.nil_sublist _) (List.Sublist.refl _))
  · rw [he]
    have hp : (List.flatMap (·.L) (D.take k) ++ (d.L ++ [e] ++ List.flatMap (·.L) (D.drop (k + 1)))).Perm (e :: (List.flatMap (·.L) (D.take k) ++ (d.L ++ List.flatMap (·.L) (D.drop (k + 1))))) := by
      rw [List.append_assoc, List.singleton_append, ← List.append_assoc]
      refine List.perm_middle.trans ?_
      rw [List.append_assoc]
    refine (hp.pairwise_iff (fun {a b} h g hb ha => h g ha hb)).2 ?_
    rw [List.pairwise_cons]
    exact ⟨fun a ha g hg h2 => hfr g hg (hn a ha g h2), h⟩
/-- what a call leaves of a pool -/
structure AddMem (pb : Nat) (rv : Value) (D : List Dg) (w w' : World) (rv' : Value) (D' : List Dg) : Prop where
  pool : PoolAt w' pb rv' D'
  kept : Kept (foot pb rv D) w w'
  foot : ∀ k, foot pb rv' D' k → foot pb rv D k ∨ w.heap.size ≤ k
  bods : ∀ k, bods D' k → bods D k ∨ w.heap.size ≤ k
  sep : Sep D → Sep D'
theorem AddMem.refl {pb : Nat} {rv : Value} {D : List Dg} {w : World} (h : PoolAt w pb rv D) : AddMem pb rv D w w rv D := ⟨h, Kept.refl _ _, fun _ h => .inl h, fun _ h => .inl h, id⟩
theorem AddMem.trans {pb : Nat} {rv rv1 rv2 : Value} {D D1 D2 : List Dg} {a b c : World} (h : AddMem pb rv D a b rv1 D1) (k : AddMem pb rv1 D1 b c rv2 D2) : AddMem pb rv D a c rv2 D2 where
  pool := k.pool
  kept := h.kept.trans k.kept (fun i hi hf => (h.foot i hf).resolve_right (by omega))
  foot := fun i hi => (k.foot i hi).elim (fun h1 => h.foot i h1) (fun h1 => .inr (Nat.le_trans h.kept.size h1))
  bods := fun i hi => (k.bods i hi).elim (fun h1 => h.bods i h1) (fun h1 => .inr (Nat.le_trans h.kept.size h1))
  sep := fun i => k.sep (h.sep i)
theorem AddMem.below {pb : Nat} {rv : Value} {D : List Dg} {a b : World} (h : PoolAt a pb rv D) (hb : Below a.heap.size a b) : AddMem pb rv D a b rv D := ⟨h.below hb, Kept.of_below hb (Nat.le_refl _), fun _ h => .inl h, fun _ h => .inl h, id⟩
/-- a block that is none of the pool's is written -/
theorem AddMem.aside {pb b : Nat} {rv : Value} {D : List Dg} {w w' : World} {o : Obj} (h : PoolAt w pb rv D) (ht : Turned b o w w') (hb : ¬ (Ytjldcblklbikaaa.foot pb rv D b ∨ Ytjldcblklbikaaa.bods D b)) : PoolAt w' pb rv D :=
  h.keep (fun k hk => ht.other (fun e => hb (e ▸ hk))) (by rw [ht.size]; exact Nat.le_refl _)
/-- a datagram of the pool changed -/
theorem PoolAt.set0 {w w' : World} {pb N : Nat} {rv : Value} {D : List Dg} {k : Nat} {d d' : Dg} (h : PoolAt w pb rv D) (hk : D[k]? = some d) (hb : d'.blk = d.blk) (hd' : DgAt w' d') (hkeep : Kept d.foot w w')
    (hv : ∀ g, d'.v.ownBlock = some g → d.v.ownBlock = some g ∨ w.heap.size ≤ g) (ho : ∀ g, d'.bods g → d.bods g ∨ N ≤ g) : PoolAt w' pb rv (D.set k d') ∧ Kept (foot pb rv D) w w' ∧ (∀ i, foot pb rv (D.set k d') i → foot pb rv D i ∨ w.heap.size ≤ i) ∧ (∀ i, bods (D.set k d') i → bods D i ∨ N ≤ i) := by
  have hdm := List.mem_of_getElem? hk
  have hkl := (List.getElem?_eq_some_iff.1 hk).1
  have hmem : ∀ b ∈ D.set k d', b = d' ∨ ∃ j, j ≠ k ∧ D[j]? = some b := by
    intro b hbm
    obtain ⟨j, hj⟩ := List.getElem?_of_mem hbm
    rw [List.getElem?_set] at hj
    split at hj
    · exact .inl (Option.some.inj (by simpa using hj)).symm
    · rename_i hne
      exact .inr ⟨j, fun e => hne e.symm, hj⟩
  have hm2 : (D.set k d').map ptrTo = D.map ptrTo := by
    rw [List.map_set]
    refine List.ext_getElem? fun i => ?_
    rw [List.getElem?_set]
    split
    · rename_i e; subst e
      rw [List.length_map, if_pos hkl, List.getElem?_map, hk]
      simp [ptrTo, hb]
    · rfl
  refine ⟨⟨?_, ?_, ?_, ?_, ?_, by rw [List.length_set]; exact h.four⟩, hkeep.mono fun i _ hf => .inr (.inr ⟨d, hdm, hf⟩), ?_, ?_⟩
  · exact (hkeep.block pb (lt_of_blk h.blk) (fun hf => (h.apart hk hf).1 rfl)).trans h.blk
  · rw [List.length_set, hm2]
    exact own_keep h.row (fun i hi => hkeep.block i (own_lt h.row hi) (fun hf => (h.apart hk hf).2.1 hi))
  · intro b hbm
    rcases hmem b hbm with rfl | ⟨j, hj, hjb⟩
    · exact hd'
    · have hba := h.each b (List.mem_of_getElem? hjb)
      refine hba.keep (fun i hi => hkeep.block i (h.lt (hi.imp (fun f => .inr (.inr ⟨b, List.mem_of_getElem? hjb, f⟩)) (fun o => ⟨b, List.mem_of_getElem? hjb, o⟩))) (fun hf => ?_)) hkeep.size
      rcases hi with hi | hi
      · exact ((h.apart hk hf).2.2 j b hjb).1 hj hi
      · exact ((h.apart hk hf).2.2 j b hjb).2 hi
  · have : (D.set k d').map (·.blk) = D.map (·.blk) := by
      rw [List.map_set]
      refine List.ext_getElem? fun i => ?_
      rw [List.getElem?_set]
      split
      · rename_i e; subst e
        rw [List.length_map, if_pos hkl, List.getElem?_map, hk]
        simp [hb]
      · rfl
    have h2 : (D.map (·.blk)).Pairwise (· ≠ ·) := List.pairwise_map.2 h.blks
    rw [← this] at h2
    exact List.pairwise_map.1 h2
  · rw [List.pairwise_iff_getElem]
    intro i j hi hj hij
    rw [List.length_set] at hi hj
    have hgi : (D.set k d')[i]? = some ((D.set k d')[i]'(by rw [List.length_set]; exact hi)) := List.getElem?_eq_getElem _
    have hgj : (D.set k d')[j]? = some ((D.set k d')[j]'(by rw [List.length_set]; exact hj)) := List.getElem?_eq_getElem _
    generalize (D.set k d')[i]'(by rw [List.length_set]; exact hi) = a at hgi ⊢
    generalize (D.set k d')[j]'(by rw [List.length_set]; exact hj) = b at hgj ⊢
    rw [List.getElem?_set] at hgi hgj
    cases ha : a.v.ownBlock with
    | none => exact .inl rfl
    | some g =>
      refine .inr (fun e => ?_)
      by_cases hik : k = i
      · rw [if_pos hik, if_pos hkl] at hgi
        rw [if_neg (by omega)] at hgj
        cases hgi
        rcases hv g ha with h1 | h1
        · exact h.row_ne hk hgj (by omega) h1 e.symm
        · have := own_lt (h.each b (List.mem_of_getElem? hgj)).own e.symm; omega
      · rw [if_neg hik] at hgi
        by_cases hjk : k = j
        · rw [if_pos hjk, if_pos hkl] at hgj
          cases hgj
          rcases hv g e.symm with h1 | h1
          · exact h.row_ne hk hgi (by omega) h1 ha
          · have := own_lt (h.each a (List.mem_of_getElem? hgi)).own ha; omega
        · rw [if_neg hjk] at hgj
          exact h.row_ne hgi hgj (by omega) ha e.symm
  · rintro i (rfl | hi | ⟨b, hbm, hi⟩)
    · exact .inl (.inl rfl)
    · exact .inl (.inr (.inl hi))
    · rcases hmem b hbm with rfl | ⟨j, hj, hjb⟩
      · rcases hi with rfl | hi
        · exact .inl (.inr (.inr ⟨d, hdm, .inl hb⟩))
        · exact (hv i hi).imp (fun h1 => .inr (.inr ⟨d, hdm, .inr h1⟩)) id
      · exact .inl (.inr (.inr ⟨b, List.mem_of_getElem? hjb, hi⟩))
  · rintro i ⟨b, hbm, hi⟩
    rcases hmem b hbm with rfl | ⟨j, hj, hjb⟩
    · exact (ho i hi).imp (fun h1 => ⟨d, hdm, h1⟩) id
    · exact .inl ⟨b, List.mem_of_getElem? hjb, hi⟩
theorem PoolAt.set {w w' : World} {pb : Nat} {rv : Value} {D : List Dg} {k : Nat} {d d' : Dg} (h : PoolAt w pb rv D) (hk : D[k]? = some d) (hb : d'.blk = d.blk) (hd' : DgAt w' d') (hkeep : Kept d.foot w w')
    (hv : ∀ g, d'.v.ownBlock = some g → d.v.ownBlock = some g ∨ w.heap.size ≤ g) (ho : ∀ g, d'.bods g → d.bods g ∨ w.heap.size ≤ g) (hs : Sep D → Sep (D.set k d')) : AddMem pb rv D w w' rv (D.set k d') := by
  obtain ⟨h1, h2, h3, h4⟩ := h.set0 hk hb hd' hkeep hv ho
  exact ⟨h1, h2, h3, h4, hs⟩
theorem AddMem.set {a w w' : World} {pb : Nat} {rv0 rv : Value} {D0 D : List Dg} {k : Nat} {d d' : Dg} (m : AddMem pb rv0 D0 a w rv D) (hk : D[k]? = some d) (hb : d'.blk = d.blk) (hd' : DgAt w' d') (hkeep : Kept d.foot w w')
    (hv : ∀ g, d'.v.ownBlock = some g → d.v.ownBlock = some g ∨ w.heap.size ≤ g) (ho : ∀ g, d'.bods g → d.bods g ∨ a.heap.size ≤ g) (hs : Sep D → Sep (D.set k d')) : AddMem pb rv0 D0 a w' rv (D.set k d') := by
  obtain ⟨h1, h2, h3, h4⟩ := m.pool.set0 hk hb hd' hkeep hv ho
  exact ⟨h1, m.kept.trans h2 (fun i hi hf => (m.foot i hf).resolve_right (by omega)), fun i hi => (h3 i hi).elim (m.foot i) (fun h => .inr (Nat.le_trans m.kept.size h)), fun i hi => (h4 i hi).elim (m.bods i) .inr, fun h => hs (m.sep h)⟩
theorem set_abs {D : List Dg} {k : Nat} {d' : Dg} : (D.set k d').map Dg.abs = (D.map Dg.abs).set k d'.abs := by rw [List.map_set]
theorem filter_erase {D : List Dg} {k : Nat} {d : Dg} (hp : D.Pairwise fun a b => a.blk ≠ b.blk) (hk : D[k]? = some d) : D.filter (fun o => !(o.blk == d.blk)) = D.eraseIdx k := by
  induction D generalizing k with
  | nil => simp at hk
  | cons a D ih =>
    rw [List.pairwise_cons] at hp
    cases k with
    | zero =>
      simp at hk; subst hk
      rw [List.filter_cons_of_neg (by simp), List.eraseIdx_cons_zero, List.filter_eq_self]
      intro b hb
      have := hp.1 b hb
      simp; exact fun e => this e.symm
    | succ k =>
      have hk' : D[k]? = some d := by simpa using hk
      have := hp.1 d (List.mem_of_getElem? hk')
      rw [List.filter_cons_of_pos (by simpa using this), List.eraseIdx_cons_succ, ih hp.2 hk']
end Go.Proofs.Ytjldcblklbikaaa

/- A datagram spoilt, made, grown, in memory; the walk's helpers. No condition. -/
namespace Go.Proofs.Ytjldcblklbikaaa
open Go.RowKit
set_option linter.unusedVariables false
set_option linter.unusedSimpArgs false
theorem Turned.same {b : Nat} {o : Obj} {w w' : World} (h : Turned b o w w') (hb : w.heap[b]? = some o) (B : Nat) : Below B w w' := ⟨h.os, h.tape, h.output, by rw [h.size]; exact Nat.le_refl _, fun k hk => by
  by_cases e : k = b
  · subst e; rw [h.get (lt_of_blk hb), hb]
  · exact h.other e⟩
theorem dg_set {s d : List Nat} {i : Nat} {T : List Value} {j : Nat} {v : Value} (h1 : s.length = 16) (h2 : d.length = 16) : (nmL s d i ++ T).toArray.setIfInBounds (33 + j) v = (nmL s d i ++ T.set j v).toArray := by
  rw [List.setIfInBounds_toArray, List.set_append_right _ _ (by rw [nmL_length h1 h2]; omega), nmL_length h1 h2, show 33 + j - 33 = j by omega]
def Dg.spoiled (d : Dg) : Dg := { d with bad := true, v := .slice none 0 0, L := [] }
theorem spoiled_cells {w : World} {d : Dg} (h : DgAt w d) : ((d.cells.toArray.setIfInBounds 34 (.bool true)).setIfInBounds 35 (.slice none 0 0)) = d.spoiled.cells.toArray := by
  unfold Dg.cells
  rw [show (34 : Nat) = 33 + 1 from rfl, dg_set h.src h.dst, show (35 : Nat) = 33 + 2 from rfl, dg_set h.src h.dst]
  rfl
theorem DgAt.spoil {w w' : World} {d : Dg} (h : DgAt w d) (ht : Turned d.blk (.cells d.spoiled.cells.toArray 75 (0, 0)) w w') : DgAt w' d.spoiled :=
  ⟨ht.get (lt_of_blk h.blk), h.src, h.dst, h.src8, h.dst8, h.id, h.over, World.ownsRow_nil _ _ _ _, fun e he => (by cases he), (by show (0 : Nat) ≤ 32; omega)⟩
theorem PoolAt.spoil {w w' : World} {pb : Nat} {rv : Value} {D : List Dg} {k : Nat} {d : Dg} (h : PoolAt w pb rv D) (hk : D[k]? = some d) (ht : Turned d.blk (.cells d.spoiled.cells.toArray 75 (0, 0)) w w') : AddMem pb rv D w w' rv (D.set k d.spoiled) :=
  h.set hk rfl ((h.each d (List.mem_of_getElem? hk)).spoil ht) (Kept.of_turned ht (.inl rfl)) (fun g hg => by cases hg) (fun g hg => by obtain ⟨e, he, _⟩ := hg; cases he) (Sep.set hk (.inl rfl))
theorem spoiled_abs (d : Dg) : d.spoiled.abs = spoilS d.abs := rfl
/-- a datagram without parts -/
def Dg.fresh (b : Nat) (x : Pk) (over : Nat) : Dg := ⟨b, x.src, x.dst, x.id, over, false, .slice none 0 0, []⟩
theorem built75 {s d : List Nat} {i o : Nat} (h1 : s.length = 16) (h2 : d.length = 16) : Try.prog.built 75 [(0, .agg (nmL s d i).toArray), (1, .int .u64 (o : Int))] = some (nmL s d i ++ [Value.int .u64 (o : Int), Value.bool false, Value.slice none 0 0]).toArray := by
  obtain ⟨a0, a1, a2, a3, a4, a5, a6, a7, a8, a9, a10, a11, a12, a13, a14, a15, rfl⟩ := list16 h1
  obtain ⟨b0, b1, b2, b3, b4, b5, b6, b7, b8, b9, b10, b11, b12, b13, b14, b15, rfl⟩ := list16 h2
  clear h1 h2
  kernel_rfl
theorem wpList_build2 {P : Program} {ops : Array Oper} {rest : List Oper} {o : Oper} {a : Act} {w : World} {Q : Exit → Act → World → Prop} (hg : o.guard = none) (t : TypeId) (i0 i1 : Nat) (x0 x1 : Operand) (ho : o.op = .build t #[(i0, x0), (i1, x1)])
    (v0 v1 : Value) (h0 : a.eval x0 = v0) (h1 : a.eval x1 = v1) (cs : Array Value) (hf : P.built t [(i0, v0), (i1, v1)] = some cs)
    (h : wpList P ops Q rest (a.put o.dst (.agg cs)) w) : wpList P ops Q (o :: rest) a w := by
  have e : ((#[(i0, x0), (i1, x1)] : Array (Nat × Operand)).map fun (i, x) => (i, a.eval x)).toList = [(i0, v0), (i1, v1)] := by simp [h0, h1]
  exact wpList_build hg t _ ho (by rw [e, hf]; rfl) (by rw [e, hf]; exact h)
theorem fill43 {x : Pk} {v : Value} (h1 : x.src.length = 16) (h2 : x.dst.length = 16) (hv : v.oneCell' = true) : Instr.fill (fun i => some (i * 40, 40)) ((Array.range (1 * 40)).map ((Value.agg (pkL nilPk none 0).toArray).cells[· % (Value.agg (pkL nilPk none 0).toArray).cells.size]!)) [(0, .agg (pkV x v).toArray)] = some (pkV x v).toArray := by
  obtain ⟨s, d, hops, alert, is, id, off, more, next, body⟩ := x
  simp only at h1 h2
  obtain ⟨a0, a1, a2, a3, a4, a5, a6, a7, a8, a9, a10, a11, a12, a13, a14, a15, rfl⟩ := list16 h1
  obtain ⟨b0, b1, b2, b3, b4, b5, b6, b7, b8, b9, b10, b11, b12, b13, b14, b15, rfl⟩ := list16 h2
  clear h1 h2
  cases v <;> first | kernel_rfl | cases hv
/-- one more datagram -/
theorem PoolAt.add {w w' : World} {pb : Nat} {rv rv' : Value} {D : List Dg} {d : Dg} (h : PoolAt w pb rv D) (h4 : D.length ≠ 4) (hb : w.heap.size ≤ d.blk) (hd : DgAt w' d) (hv : d.v.ownBlock = none) (hL : d.L = [])
    (hkeep : Kept (fun i => i = pb ∨ rv.ownBlock = some i) w w') (hbk : w'.heap[pb]? = some (.cells #[rv', .bool true] 58 (0, 0))) (hrow : w'.ownsRow 0 71 1 rv' (D.length + 1) (D.map ptrTo ++ [ptrTo d]))
    (hro : ∀ g, rv'.ownBlock = some g → rv.ownBlock = some g ∨ w.heap.size ≤ g) : AddMem pb rv D w w' rv' (D ++ [d]) := by
  have hno : ∀ (b : Dg), b ∈ D → ∀ i, b.foot i ∨ b.bods i → ¬ (i = pb ∨ rv.ownBlock = some i) := by
    intro b hbm i hi
    have hbd := h.each b hbm
    rcases hi with (rfl | hi) | hi
    · rintro (e | e)
      · have := hbd.kdb.one (e ▸ h.kdp); omega
      · have := hbd.kdb.one (h.kdr e); omega
    · rintro (e | e)
      · have := (hbd.kdv hi).one (e ▸ h.kdp); omega
      · have := (hbd.kdv hi).one (h.kdr e); omega
    · rintro (e | e)
      · have := (hbd.kdo hi).one (e ▸ h.kdp); omega
      · have := (hbd.kdo hi).one (h.kdr e); omega
  refine ⟨⟨hbk, ?_, ?_, ?_, ?_, ?_⟩, hkeep.mono fun i _ hf => hf.elim (fun e => .inl e) (fun e => .inr (.inl e)), ?_, ?_, fun hs => by unfold Sep at hs ⊢; rw [List.flatMap_append, List.flatMap_cons, hL]; simpa using hs⟩
  · rw [List.length_append, List.map_append]; exact hrow
  · intro b hbm
    rcases List.mem_append.1 hbm with hbm | hbm
    · exact (h.each b hbm).keep (fun i hi => hkeep.block i (h.lt (hi.imp (fun f => .inr (.inr ⟨b, hbm, f⟩)) (fun o => ⟨b, hbm, o⟩))) (hno b hbm i hi)) hkeep.size
    · rw [List.mem_singleton] at hbm; subst hbm; exact hd
  · rw [List.pairwise_append]
    refine ⟨h.blks, List.pairwise_singleton _ _, fun a ha b hb' => ?_⟩
    rw [List.mem_singleton] at hb'; subst hb'
    have := lt_of_blk (h.each a ha).blk
    omega
  · rw [List.pairwise_append]
    refine ⟨h.rows, List.pairwise_singleton _ _, fun a ha b hb' => ?_⟩
    rw [List.mem_singleton] at hb'; subst hb'
    rw [hv]
    cases e : a.v.ownBlock with
    | none => exact .inl rfl
    | some g => exact .inr (fun x => by cases x)
  · rw [List.length_append, List.length_singleton]
    have := h.four; omega
  · rintro i (rfl | hi | ⟨b, hbm, hi⟩)
    · exact .inl (.inl rfl)
    · exact (hro i hi).imp (fun e => .inr (.inl e)) id
    · rcases List.mem_append.1 hbm with hbm | hbm
      · exact .inl (.inr (.inr ⟨b, hbm, hi⟩))
      · rw [List.mem_singleton] at hbm; subst hbm
        rcases hi with rfl | hi
        · exact .inr hb
        · rw [hv] at hi; cases hi
  · rintro i ⟨b, hbm, hi⟩
    rcases List.mem_append.1 hbm with hbm | hbm
    · exact .inl ⟨b, hbm, hi⟩
    · rw [List.mem_singleton] at hbm; subst hbm
      obtain ⟨e, he, _⟩ := hi
      rw [hL] at he; cases he
theorem flat_sub (t : Dg → Bool) : ∀ D : List Dg, ((D.filter t).flatMap (·.L)).Sublist (D.flatMap (·.L))
  | [] => List.Sublist.refl _
  | d :: D => by
    rw [List.filter_cons, List.flatMap_cons]
    split
    · rw [List.flatMap_cons]
      exact List.Sublist.append (List.Sublist.refl _) (flat_sub t D)
    · exact (flat_sub t D).trans (List.sublist_append_right _ _)
/-- some taken out -/
theorem PoolAt.del {w w' : World} {pb : Nat} {rv rv' : Value} {D : List Dg} {t : Dg → Bool} (h : PoolAt w pb rv D)
    (hkeep : Kept (fun i => i = pb ∨ rv.ownBlock = some i) w w') (hbk : w'.heap[pb]? = some (.cells #[rv', .bool true] 58 (0, 0))) (hrow : w'.ownsRow 0 71 1 rv' (D.filter t).length ((D.filter t).map ptrTo))
    (hro : ∀ g, rv'.ownBlock = some g → rv.ownBlock = some g) : AddMem pb rv D w w' rv' (D.filter t) := by
  have hno : ∀ (b : Dg), b ∈ D → ∀ i, b.foot i ∨ b.bods i → ¬ (i = pb ∨ rv.ownBlock = some i) := by
    intro b hbm i hi
    have hbd := h.each b hbm
    rcases hi with (rfl | hi) | hi
    · rintro (e | e)
      · have := hbd.kdb.one (e ▸ h.kdp); omega
      · have := hbd.kdb.one (h.kdr e); omega
    · rintro (e | e)
      · have := (hbd.kdv hi).one (e ▸ h.kdp); omega
      · have := (hbd.kdv hi).one (h.kdr e); omega
    · rintro (e | e)
      · have := (hbd.kdo hi).one (e ▸ h.kdp); omega
      · have := (hbd.kdo hi).one (h.kdr e); omega
  refine ⟨⟨hbk, hrow, ?_, h.blks.filter _, h.rows.filter _, Nat.le_trans (List.length_filter_le _ _) h.four⟩, hkeep.mono fun i _ hf => hf.elim (fun e => .inl e) (fun e => .inr (.inl e)), ?_, ?_, fun hs => List.Pairwise.sublist (flat_sub t D) hs⟩
  · intro b hbm
    have hbm := (List.mem_filter.1 hbm).1
    exact (h.each b hbm).keep (fun i hi => hkeep.block i (h.lt (hi.imp (fun f => .inr (.inr ⟨b, hbm, f⟩)) (fun o => ⟨b, hbm, o⟩))) (hno b hbm i hi)) hkeep.size
  · rintro i (rfl | hi | ⟨b, hbm, hi⟩)
    · exact .inl (.inl rfl)
    · exact .inl (.inr (.inl (hro i hi)))
    · exact .inl (.inr (.inr ⟨b, (List.mem_filter.1 hbm).1, hi⟩))
  · rintro i ⟨b, hbm, hi⟩
    exact .inl ⟨b, (List.mem_filter.1 hbm).1, hi⟩
end Go.Proofs.Ytjldcblklbikaaa

/- What append leaves, and where: its row, or a new one. No condition but append's own. -/
namespace Go.Proofs.Ytjldcblklbikaaa
open Go.RowKit
set_option linter.unusedVariables false
set_option linter.unusedSimpArgs false
theorem append_where {P : Program} (w : World) (base : Nat) (t ty e : TypeId) (i : TypeInfo) (z : Value) (size bytes : Nat) (ht : P.underlying t = some (.slice e)) (hi : P.info? e = some i) (hz : i.zero = some z)
    (hsize : i.size = size) (hby : i.bytes = bytes) (v : Value) (n : Nat) (xs : List Value) (hown : w.ownsRow base e size v n xs)
    (a : Addr) (m c : Nat) (news : List Value) (hm : 0 < m) (hl : news.length = m * size) (hnews : ∀ j u, news[j]? = some u → w.cell? (a.add j) = some u) (h1 : ∀ u ∈ news, u.oneCell' = true)
    (h63 : n + m ≤ maxLen) (hbytes : (n + m) * bytes ≤ 140737488355328) {v' : Value} {w' : World} (hr : (Builtin.append_ #[t, t] ty #[v, .slice (some a) m c]).run P w = .ok v' w') :
    v'.ownBlock = v.ownBlock ∨ v'.ownBlock = some w.heap.size := by
  subst hsize
  subst hby
  have hsmall : n + m ≤ 9223372036854775807 := by simp only [maxLen] at h63; omega
  rcases hown.2 with ⟨rfl, rfl⟩ | ⟨g, cap, cur, rfl, hbg, hg, hnc, hcm, hcs, htake⟩
  · have h := run_append_nil (P := P) w t ty e i z ht hi hz a m c news hl hnews hm (by omega) (by have hb := hbytes; simp only [Nat.zero_add] at hb; omega)
    rw [hr] at h
    injection h with h _
    rw [h]; exact .inr rfl
  · by_cases hroom : n + m ≤ cap
    · have hfit : n * i.size + news.length ≤ cur.size := by rw [hl, hcs, ← Nat.add_mul]; exact Nat.mul_le_mul_right _ hroom
      have h := run_append_room (P := P) w t ty e i ht hi g n cap cur hg a m c news hl hnews h1 hroom hfit
      rw [hr] at h
      injection h with h _
      rw [h]; exact .inl rfl
    · have holds : ∀ j u, xs[j]? = some u → w.cell? ((⟨g, 0, none⟩ : Addr).add j) = some u := hown.cells (g := g) rfl
      have h := run_append_grow (P := P) w t ty e i z ht hi hz ⟨g, 0, none⟩ n cap xs hown.1 holds a m c news hl hnews (by omega) (by omega) (growslice_fits (by omega) hbytes)
      rw [hr] at h
      injection h with h _
      rw [h]; exact .inr rfl
theorem wpList_append_own2 {P : Program} (w : World) {ops : Array Oper} {rest : List Oper} {o : Oper} {a : Act} {Q : Exit → Act → World → Prop} (hgd : o.guard = none) (s x : Operand) (t : TypeId)
    (ho : o.op = .call { callee := .builtin .append, args := #[s, x], argTypes := #[t, t] })
    (base : Nat) (e : TypeId) (i : TypeInfo) (z : Value) (size bytes : Nat) (ht : P.underlying t = some (.slice e)) (hi : P.info? e = some i) (hz : i.zero = some z)
    (hsize : i.size = size) (hby : i.bytes = bytes) (hzs : z.cells.size = size) (hsz : 0 < size)
    (v : Value) (n : Nat) (xs : List Value) (hs : a.eval s = v) (hown : w.ownsRow base e size v n xs)
    (ad : Addr) (m c : Nat) (news : List Value) (hm : 0 < m) (hx : a.eval x = .slice (some ad) m c) (hl : news.length = m * size) (hnews : ∀ j u, news[j]? = some u → w.cell? (ad.add j) = some u) (h1 : ∀ u ∈ news, u.oneCell' = true)
    (h63 : n + m ≤ maxLen) (hbytes : (n + m) * bytes ≤ 140737488355328) (hbase : base ≤ w.heap.size)
    (h : ∀ v' w', w'.ownsRow base e size v' (n + m) (xs ++ news) → w.grownBy w' v.ownBlock → (v'.ownBlock = v.ownBlock ∨ v'.ownBlock = some w.heap.size) → wpList P ops Q rest (a.put o.dst v') w') : wpList P ops Q (o :: rest) a w := by
  refine wpList_plain hgd fun K hK => ?_
  obtain ⟨v', w', hr, h2, h3, h4⟩ := run_append_own (P := P) w base t o.type e i z size bytes ht hi hz hsize hby hzs hsz v n xs hown ad m c news hl hnews h1 h63 hbytes hbase
  have h5 := append_where w base t o.type e i z size bytes ht hi hz hsize hby v n xs hown ad m c news hm hl hnews h1 h63 hbytes hr
  unfold Oper.wp
  simp [execOp, ho, resolve, invoke, builtin, hs, hx, hr, Result.andThen]
  exact hK _ _ (h v' w' h2 h3 h5)
theorem wp_append_own2 {P : Program} (w : World) {o : Oper} {a : Act} {K : Act → World → Prop} {Q : Exit → Act → World → Prop} (s x : Operand) (t : TypeId)
    (ho : o.op = .call { callee := .builtin .append, args := #[s, x], argTypes := #[t, t] })
    (base : Nat) (e : TypeId) (i : TypeInfo) (z : Value) (size bytes : Nat) (ht : P.underlying t = some (.slice e)) (hi : P.info? e = some i) (hz : i.zero = some z)
    (hsize : i.size = size) (hby : i.bytes = bytes) (hzs : z.cells.size = size) (hsz : 0 < size)
    (v : Value) (n : Nat) (xs : List Value) (hs : a.eval s = v) (hown : w.ownsRow base e size v n xs)
    (ad : Addr) (m c : Nat) (news : List Value) (hm : 0 < m) (hx : a.eval x = .slice (some ad) m c) (hl : news.length = m * size) (hnews : ∀ j u, news[j]? = some u → w.cell? (ad.add j) = some u) (h1 : ∀ u ∈ news, u.oneCell' = true)
    (h63 : n + m ≤ maxLen) (hbytes : (n + m) * bytes ≤ 140737488355328) (hbase : base ≤ w.heap.size)
    (h : ∀ v' w', w'.ownsRow base e size v' (n + m) (xs ++ news) → w.grownBy w' v.ownBlock → (v'.ownBlock = v.ownBlock ∨ v'.ownBlock = some w.heap.size) → K (a.put o.dst v') w') : o.wp P a w K Q := by
  obtain ⟨v', w', hr, h2, h3, h4⟩ := run_append_own (P := P) w base t o.type e i z size bytes ht hi hz hsize hby hzs hsz v n xs hown ad m c news hl hnews h1 h63 hbytes hbase
  have h5 := append_where w base t o.type e i z size bytes ht hi hz hsize hby v n xs hown ad m c news hm hl hnews h1 h63 hbytes hr
  unfold Oper.wp
  simp [execOp, ho, resolve, invoke, builtin, hs, hx, hr, Result.andThen]
  exact h v' w' h2 h3 h5
end Go.Proofs.Ytjldcblklbikaaa
