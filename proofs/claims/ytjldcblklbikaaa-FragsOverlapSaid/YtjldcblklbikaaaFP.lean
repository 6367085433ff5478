/- Which datagram first is told of; those told of deleted: the walks. No condition but what the teller does. (Printed by gFP.py.) -/
import Derived.Test.YtjldcblklbikaaaFO
import Derived.Lib.SliceRun
namespace Go.Proofs.Ytjldcblklbikaaa
open Go.RowKit
set_option linter.unusedVariables false
set_option linter.unusedSimpArgs false
theorem FirstD.lt {D : List Dg} {t : Dg → Bool} {k : Nat} (h : FirstD D t (some k)) : k < D.length := by
  obtain ⟨x, hx, _⟩ := h; exact (List.getElem?_eq_some_iff.1 hx).1
theorem FirstD.filter {D : List Dg} {t : Dg → Bool} {k : Nat} (h : FirstD D t (some k)) : (D.take (k + 1)).filter (fun d => !t d) = D.take k := by
  obtain ⟨x, hx, ht, hno⟩ := h
  rw [List.take_add_one, hx, Option.toList_some, List.filter_append]
  have h1 : (D.take k).filter (fun d => !t d) = D.take k := by
    rw [List.filter_eq_self]
    intro a ha
    obtain ⟨j, hj⟩ := List.getElem?_of_mem ha
    rw [List.getElem?_take] at hj
    split at hj
    · rename_i hlt; rw [hno j a hlt hj]; rfl
    · cases hj
  rw [h1]
  simp [ht]
theorem filter_take {D : List Dg} {t : Dg → Bool} {k : Nat} {x : Dg} (hx : D[k]? = some x) : (D.take (k + 1)).filter (fun d => !t d) = (D.take k).filter (fun d => !t d) ++ (if t x then [] else [x]) := by
  rw [List.take_add_one, hx, Option.toList_some, List.filter_append]
  cases h : t x <;> simp [h]
theorem turned_setCells {g : Nat} {T : TypeId} : ∀ (l : List Value) (w : World) (o : Nat) (cur : Array Value), w.heap[g]? = some (.cells cur T (0, 0)) → ∃ cur' : Array Value, Turned g (.cells cur' T (0, 0)) w (w.setCells g o l) ∧ cur'.size = cur.size ∧ ∀ k : Nat, k < o → cur'[k]? = cur[k]?
  | [], w, o, cur, h => ⟨cur, Turned.refl h, rfl, fun _ _ => rfl⟩
  | v :: l, w, o, cur, h => by
    have t := Turned.setCell h o v
    obtain ⟨cur', t2, h2, h3⟩ := turned_setCells l (w.setCell ⟨g, o, none⟩ v) (o + 1) _ (t.get (lt_of_blk h))
    refine ⟨cur', t.trans t2, by rw [h2, Array.size_setIfInBounds], fun k hk => ?_⟩
    rw [h3 k (by omega), Array.getElem?_setIfInBounds, if_neg (by omega)]
def stepK (D : List Dg) : Option Nat → Nat
  | none => D.length
  | some k => k + 1
/-- the row while it is rewritten: the kept ones, then those still to be asked -/
structure RowCut (g cap : Nat) (D : List Dg) (t : Dg → Bool) (j : Nat) (W : World) : Prop where
  ex : ∃ cur : Array Value, W.heap[g]? = some (.cells cur 71 (0, 0)) ∧ cur.size = cap ∧ (∀ (k : Nat) (d : Dg), ((D.take j).filter (fun d => !t d))[k]? = some d → cur[k]? = some (ptrTo d)) ∧ (∀ (k : Nat) (d : Dg), j ≤ k → D[k]? = some d → cur[k]? = some (ptrTo d))
theorem RowCut.keep {g cap j : Nat} {D : List Dg} {t : Dg → Bool} {W W' : World} (h : RowCut g cap D t j W) (hk : W'.heap[g]? = W.heap[g]?) : RowCut g cap D t j W' := by
  obtain ⟨cur, h1, h2⟩ := h.ex
  exact ⟨cur, hk.trans h1, h2⟩
set_option maxRecDepth 100000 in
set_option maxHeartbeats 1000000 in
theorem idx52_43 {A : Option Addr} {c g cap p : Nat} {D : List Dg} {t : Dg → Bool} (S : Nat → World → Prop) (w : World) (hA : D ≠ [] → A = some ⟨g, 0, none⟩ ∧ RowCut g cap D t 0 w) (hS : S 0 w) (hm : D.length ≤ 1000000)
    (hf : ∀ (k : Nat) (d : Dg) (W : World), D[k]? = some d → S k W → W.heap[g]? = w.heap[g]? → Calls Try.prog 43 #[ptrTo d, .pointer (some ⟨p, 0, none⟩)] W fun e w' => e = .returned (.bool (t d)) ∧ S (k + 1) w' ∧ w'.heap[g]? = W.heap[g]?) :
    Calls Try.prog 52 #[.slice A D.length c, .func (.func 43) #[] #[.pointer (some ⟨p, 0, none⟩)]] w fun e w' => ∃ r, FirstD D t r ∧ e = .returned (.int .i64 (numK r)) ∧ S (stepK D r) w' ∧ w'.heap[g]? = w.heap[g]? := by
  obtain ⟨n, hn⟩ : ∃ n, D.length = n := ⟨_, rfl⟩
  have HN := Lib.hid hn
  have HF := Lib.hid hf
  have HA := Lib.hid hA
  have HS := Lib.hid hS
  have HST : Hid (stepK D none = n) := Lib.hid hn
  rw [hn] at hm ⊢
  clear hn hf hA hS
  go_enter Try.func52, Try.ntmps52
  go_wp2_with fail
  go_loopw [8] (fun i wr => ∃ k : Nat, k ≤ n ∧ i = .int .i64 k ∧ (∀ j y, j < k → D[j]? = some y → t y = false) ∧ S k wr ∧ wr.heap[g]? = w.heap[g]?) (fun i _ => n - (intOf i).toNat)
  case atStart => exact ⟨0, Nat.zero_le _, rfl, fun j y hj => absurd hj (by omega), HS.out, rfl⟩
  case round =>
    obtain ⟨k, hk, rfl, hno, hW, hg⟩ := hrel
    have HNO := Lib.hid hno
    clear hno HS
    by_cases hlt : k < n
    · obtain ⟨x, hx⟩ : ∃ x, D[k]? = some x := ⟨D[k]'(by rw [HN.out]; exact hlt), List.getElem?_eq_getElem _⟩
      obtain ⟨rfl, hrc⟩ := HA.out (by rintro rfl; simp at hx)
      obtain ⟨cur, h1, h2, h3, h4⟩ := hrc.ex
      have c0 : wr.cell? ⟨g, k, none⟩ = some (ptrTo x) := by rw [cell_blk (hg.trans h1)]; exact h4 k x (Nat.zero_le _) hx
      have HC := Lib.hid (HF.out k x wr hx hW hg)
      have HX := Lib.hid hx
      have HG := Lib.hid hg
      have HPX : Hid (ptrTo x = .pointer (some ⟨x.blk, 0, none⟩)) := Lib.hid rfl
      rw [HPX.out] at c0 HC
      clear hx hW hg hrc h1 h2 h3 h4 HA
      cases htx : t x with
      | true =>
        rw [htx] at HC
        have HTX := Lib.hid htx
        clear htx
        go_wp2_with fail
        refine (HC.out).mono ?_
        rintro e w1 ⟨rfl, hs1, hg1⟩
        have HS1 := Lib.hid hs1; have HG1 := Lib.hid (hg1.trans HG.out)
        clear hs1 hg1 HC
        go_wp2_with fail
        go_ret
        exact ⟨some k, ⟨x, HX.out, HTX.out, HNO.out⟩, rfl, HS1.out, HG1.out⟩
      | false =>
        rw [htx] at HC
        have HNX : Hid (∀ j y, j < k + 1 → D[j]? = some y → t y = false) := Lib.hid (by
          intro j y hj hy
          rcases Nat.lt_or_ge j k with h1 | h1
          · exact HNO.out j y h1 hy
          · obtain rfl : j = k := by omega
            have := HX.out
            rw [hy] at this
            cases this
            exact htx)
        clear htx
        go_wp2_with fail
        refine (HC.out).mono ?_
        rintro e w1 ⟨rfl, hs1, hg1⟩
        have HS1 := Lib.hid hs1; have HG1 := Lib.hid (hg1.trans HG.out)
        clear hs1 hg1 HC
        go_wp2_with fail
        go_roundw
        case rel => exact ⟨k + 1, by omega, by go_num, HNX.out, HS1.out, HG1.out⟩
        case measure => simp [intOf]; omega
    · obtain rfl : k = n := by omega
      clear hlt
      have HW := Lib.hid hW
      have HG := Lib.hid hg
      clear hW hg
      go_wp2_with fail
      go_ret
      refine ⟨none, fun x hx => ?_, rfl, by rw [HST.out]; exact HW.out, HG.out⟩
      obtain ⟨j, hj⟩ := List.getElem?_of_mem hx
      exact HNO.out j x (by rw [← HN.out]; exact (List.getElem?_eq_some_iff.1 hj).1) hj
set_option maxRecDepth 100000 in
set_option maxHeartbeats 1000000 in
theorem del27_43 {A : Option Addr} {g cap p : Nat} {D : List Dg} {t : Dg → Bool} (S : Nat → World → Prop) (w : World) (hA : D ≠ [] → A = some ⟨g, 0, none⟩ ∧ RowCut g cap D t 0 w) (hS : S 0 w) (hm : D.length ≤ 1000000) (hcap : D.length ≤ cap) (hmx : cap ≤ maxLen)
    (hT : ∀ k W W' cs, S k W → Turned g (.cells cs 71 (0, 0)) W W' → S k W')
    (hf : ∀ (k : Nat) (d : Dg) (W : World), D[k]? = some d → S k W → g < W.heap.size → Calls Try.prog 43 #[ptrTo d, .pointer (some ⟨p, 0, none⟩)] W fun e w' => e = .returned (.bool (t d)) ∧ S (k + 1) w' ∧ w'.heap[g]? = W.heap[g]?) :
    Calls Try.prog 27 #[.slice A D.length cap, .func (.func 43) #[] #[.pointer (some ⟨p, 0, none⟩)]] w fun e w' => ∃ v', e = .returned v' ∧ S D.length w' ∧ ((v' = .slice A D.length cap ∧ (∀ d ∈ D, t d = false) ∧ w'.heap[g]? = w.heap[g]?) ∨ (A = some ⟨g, 0, none⟩ ∧ v' = .slice A (D.filter (fun d => !t d)).length cap ∧ w'.ownsRow g 71 1 v' (D.filter (fun d => !t d)).length ((D.filter (fun d => !t d)).map ptrTo))) := by
  have HI := Lib.hid (idx52_43 (c := cap) (t := t) S w hA hS hm (fun k d W hk hs hg => by
    obtain ⟨rfl, hrc⟩ := hA (by rintro rfl; simp at hk)
    obtain ⟨cur, h1, _⟩ := hrc.ex
    exact hf k d W hk hs (lt_of_blk (hg.trans h1))))
  obtain ⟨n, hn⟩ : ∃ n, D.length = n := ⟨_, rfl⟩
  have HN := Lib.hid hn
  have HF := Lib.hid hf
  have HA := Lib.hid hA
  have HT := Lib.hid hT
  have HST : Hid (stepK D none = n) := Lib.hid hn
  have HMX := Lib.hid hmx
  rw [hn] at hm hcap HI ⊢
  clear hn hf hA hS hT hmx
  go_enter Try.func27, Try.ntmps27
  go_wp2_with fail
  refine (HI.out).mono ?_
  rintro e w1 ⟨r, hr, rfl, hs1, hg1⟩
  have HS1 := Lib.hid hs1; have HG1 := Lib.hid hg1; have HR := Lib.hid hr
  clear HI hs1 hg1 hr
  cases r with
  | none =>
    have tn : numK none = -1 := rfl
    rw [tn]
    clear tn
    go_wp2_with fail
    go_ret
    exact ⟨_, rfl, by rw [← HST.out]; exact HS1.out, .inl ⟨rfl, HR.out, HG1.out⟩⟩
  | some k0 =>
    have tn : numK (some k0) = (k0 : Int) := rfl
    rw [tn]
    clear tn
    have hk0 : k0 < n := by rw [← HN.out]; exact HR.out.lt
    have hne : D ≠ [] := by rintro rfl; have := HN.out; simp at this; omega
    obtain ⟨rfl, hrc⟩ := HA.out hne
    have hrc1 : RowCut g cap D t (k0 + 1) w1 := by
      obtain ⟨cur, h1, h2, h3, h4⟩ := hrc.ex
      refine ⟨cur, HG1.out.trans h1, h2, fun k d hk => ?_, fun k d hk hd => h4 k d (Nat.zero_le _) hd⟩
      rw [HR.out.filter, List.getElem?_take] at hk
      split at hk
      · exact h4 k d (Nat.zero_le _) hk
      · cases hk
    have hlen : ((D.take (k0 + 1)).filter (fun d => !t d)).length = k0 := by rw [HR.out.filter, List.length_take, HN.out]; omega
    have HRC := Lib.hid hrc1
    have HLEN := Lib.hid hlen
    have hS1 : S (k0 + 1) w1 := HS1.out
    have HS2 := Lib.hid hS1
    have tf : ((k0 : Int) == -1) = false := by rw [beq_eq_false_iff_ne]; omega
    clear hrc hrc1 hlen hne HA HR HG1 HS1 hS1
    go_wp2_with fail
    go_loopw [5, 6] (fun i j wr => ∃ (a b : Nat), i = .int .i64 a ∧ j = .int .i64 b ∧ a = ((D.take b).filter (fun d => !t d)).length ∧ a < b ∧ b ≤ n ∧ S b wr ∧ RowCut g cap D t b wr) (fun _ j _ => n - (intOf j).toNat)
    case atStart => exact ⟨k0, k0 + 1, rfl, by go_num, HLEN.out.symm, by omega, by omega, HS2.out, HRC.out⟩
    case round =>
      obtain ⟨a, b, rfl, rfl, ha, hab, hbn, hW, hRC⟩ := hrel
      clear HS2 HRC HLEN tf
      have HAE := Lib.hid ha
      by_cases hlt : b < n
      · obtain ⟨x, hx⟩ : ∃ x, D[b]? = some x := ⟨D[b]'(by rw [HN.out]; exact hlt), List.getElem?_eq_getElem _⟩
        obtain ⟨cur, h1, h2, h3, h4⟩ := hRC.ex
        have c0 : wr.cell? ⟨g, b, none⟩ = some (ptrTo x) := by rw [cell_blk h1]; exact h4 b x (Nat.le_refl _) hx
        have HC := Lib.hid (HF.out b x wr hx hW (lt_of_blk h1))
        have HX := Lib.hid hx
        have HFT := Lib.hid (filter_take (t := t) hx)
        have HPX : Hid (ptrTo x = .pointer (some ⟨x.blk, 0, none⟩)) := Lib.hid rfl
        have H1 := Lib.hid h1; have H2 := Lib.hid h2; have H3 := Lib.hid h3; have H4 := Lib.hid h4
        rw [HPX.out] at c0 HC
        clear hx hW hRC h1 h2 h3 h4 ha
        cases htx : t x with
        | true =>
          rw [htx] at HC HFT
          clear htx
          go_wp2_with fail
          refine (HC.out).mono ?_
          rintro e w2 ⟨rfl, hs2, hg2⟩
          have HS2 := Lib.hid hs2; have HG2 := Lib.hid hg2
          clear hs2 hg2 HC
          go_wp2_with fail
          go_roundw
          case rel =>
            refine ⟨a, b + 1, rfl, by go_num, ?_, by omega, by omega, HS2.out, cur, HG2.out.trans H1.out, H2.out, fun k d hk => H3.out k d ?_, fun k d hk hd => H4.out k d (by omega) hd⟩
            · rw [HFT.out, HAE.out]; simp
            · rw [HFT.out] at hk; simpa using hk
          case measure => simp [intOf]; omega
        | false =>
          rw [htx] at HC HFT
          clear htx
          go_wp2_with fail
          refine (HC.out).mono ?_
          rintro e w2 ⟨rfl, hs2, hg2⟩
          have hb2 : w2.heap[g]? = some (.cells cur 71 (0, 0)) := hg2.trans H1.out
          have ca : ∃ va, w2.cell? ⟨g, a, none⟩ = some va := by
            rw [cell_blk hb2]
            exact ⟨_, Array.getElem?_eq_getElem (by rw [H2.out]; omega)⟩
          obtain ⟨va, ca⟩ := ca
          have fa := frozen_blk hb2 a
          have tt := Turned.setCell hb2 a (.pointer (some ⟨x.blk, 0, none⟩))
          have hs3 := HT.out _ _ _ _ hs2 tt
          have HS3 := Lib.hid hs3; have HB3 := Lib.hid (tt.get (lt_of_blk hb2))
          clear hs2 hg2 HC tt hs3 hb2
          go_wp2_with fail
          go_roundw
          case rel =>
            have hfl : ((D.take (b + 1)).filter (fun d => !t d)) = ((D.take b).filter (fun d => !t d)) ++ [x] := by rw [HFT.out, if_neg (by simp)]
            refine ⟨a + 1, b + 1, by go_num, by go_num, ?_, by omega, by omega, HS3.out, _, HB3.out, by rw [Array.size_setIfInBounds]; exact H2.out, fun k d hk => ?_, fun k d hk hd => ?_⟩
            · rw [hfl, List.length_append, ← HAE.out]; rfl
            · rw [hfl] at hk
              rw [Array.getElem?_setIfInBounds]
              by_cases e : a = k
              · subst e
                rw [HAE.out, List.getElem?_append_right (Nat.le_refl _)] at hk
                simp at hk
                subst hk
                rw [if_pos rfl, if_pos (by rw [H2.out]; omega)]
                rfl
              · rw [if_neg e]
                refine H3.out k d ?_
                rw [List.getElem?_append] at hk
                split at hk
                · exact hk
                · rename_i hge
                  rw [← HAE.out] at hk hge
                  rw [List.getElem?_eq_none (by simp; omega)] at hk
                  cases hk
            · rw [Array.getElem?_setIfInBounds, if_neg (by omega)]
              exact H4.out k d (by omega) hd
          case measure => simp [intOf]; omega
      · obtain rfl : b = n := by omega
        clear hlt
        obtain ⟨cur, h1, h2, h3, h4⟩ := hRC.ex
        have hmx := HMX.out
        unfold maxLen at hmx
        have hcl : ∀ ty, (Builtin.clear_ #[56] ty #[.slice (some ⟨g, a, none⟩) (b - a) (cap - a)]).run Try.prog wr = .ok (.tuple #[]) (wr.setCells g a (List.replicate (b - a) (.pointer none))) :=
          fun ty => Lib.run_clear_slice wr 56 71 ty (.pointer none) Try.underlying56 Try.zeroValue71 rfl rfl g a (b - a) _ (by omega) (fun j hj => by rw [cell_blk h1, Array.getElem?_eq_getElem (by omega)]; rfl) (fun j hj => frozen_blk h1 _)
        have H1 := Lib.hid h1; have H2 := Lib.hid h2; have H3 := Lib.hid h3
        have HW := Lib.hid hW
        clear h1 h2 h3 h4 hRC hW ha hmx
        go_wp2_with fail
        go_ret
        obtain ⟨cur', ht, hs', hlo⟩ := turned_setCells (List.replicate (b - a) (.pointer none)) wr a cur H1.out
        have htk : D.take b = D := by rw [← HN.out, List.take_length]
        have hae := HAE.out
        rw [htk] at hae
        refine ⟨.slice (some ⟨g, 0, none⟩) a cap, rfl, HT.out _ _ _ _ HW.out ht, .inr ⟨by rw [← hae], ?_⟩⟩
        have h3 := H3.out
        rw [htk] at h3
        rw [← hae]
        refine ⟨by rw [List.length_map, ← hae, Nat.mul_one], .inr ⟨g, cap, cur', rfl, Nat.le_refl _, ht.get (lt_of_blk H1.out), by omega, HMX.out, by rw [hs', H2.out, Nat.mul_one], ?_⟩⟩
        refine List.ext_getElem? fun k => ?_
        rw [Nat.mul_one, List.getElem?_take, List.getElem?_map]
        by_cases hk : k < a
        · obtain ⟨y, hy⟩ : ∃ y, (D.filter (fun d => !t d))[k]? = some y := ⟨_, List.getElem?_eq_getElem (by rw [← hae]; exact hk)⟩
          rw [if_pos hk, hy]
          have := (hlo k hk).trans (h3 k y hy)
          simpa using this
        · rw [if_neg hk, List.getElem?_eq_none (by rw [← hae]; omega)]; rfl
set_option maxRecDepth 100000 in
set_option maxHeartbeats 1000000 in
theorem idx52_28 {A : Option Addr} {c g cap p q : Nat} {D : List Dg} {t : Dg → Bool} (S : Nat → World → Prop) (w : World) (hA : D ≠ [] → A = some ⟨g, 0, none⟩ ∧ RowCut g cap D t 0 w) (hS : S 0 w) (hm : D.length ≤ 1000000)
    (hf : ∀ (k : Nat) (d : Dg) (W : World), D[k]? = some d → S k W → W.heap[g]? = w.heap[g]? → Calls Try.prog 28 #[ptrTo d, .pointer (some ⟨p, 0, none⟩), .pointer (some ⟨q, 0, none⟩)] W fun e w' => e = .returned (.bool (t d)) ∧ S (k + 1) w' ∧ w'.heap[g]? = W.heap[g]?) :
    Calls Try.prog 52 #[.slice A D.length c, .func (.func 28) #[] #[.pointer (some ⟨p, 0, none⟩), .pointer (some ⟨q, 0, none⟩)]] w fun e w' => ∃ r, FirstD D t r ∧ e = .returned (.int .i64 (numK r)) ∧ S (stepK D r) w' ∧ w'.heap[g]? = w.heap[g]? := by
  obtain ⟨n, hn⟩ : ∃ n, D.length = n := ⟨_, rfl⟩
  have HN := Lib.hid hn
  have HF := Lib.hid hf
  have HA := Lib.hid hA
  have HS := Lib.hid hS
  have HST : Hid (stepK D none = n) := Lib.hid hn
  rw [hn] at hm ⊢
  clear hn hf hA hS
  go_enter Try.func52, Try.ntmps52
  go_wp2_with fail
  go_loopw [8] (fun i wr => ∃ k : Nat, k ≤ n ∧ i = .int .i64 k ∧ (∀ j y, j < k → D[j]? = some y → t y = false) ∧ S k wr ∧ wr.heap[g]? = w.heap[g]?) (fun i _ => n - (intOf i).toNat)
  case atStart => exact ⟨0, Nat.zero_le _, rfl, fun j y hj => absurd hj (by omega), HS.out, rfl⟩
  case round =>
    obtain ⟨k, hk, rfl, hno, hW, hg⟩ := hrel
    have HNO := Lib.hid hno
    clear hno HS
    by_cases hlt : k < n
    · obtain ⟨x, hx⟩ : ∃ x, D[k]? = some x := ⟨D[k]'(by rw [HN.out]; exact hlt), List.getElem?_eq_getElem _⟩
      obtain ⟨rfl, hrc⟩ := HA.out (by rintro rfl; simp at hx)
      obtain ⟨cur, h1, h2, h3, h4⟩ := hrc.ex
      have c0 : wr.cell? ⟨g, k, none⟩ = some (ptrTo x) := by rw [cell_blk (hg.trans h1)]; exact h4 k x (Nat.zero_le _) hx
      have HC := Lib.hid (HF.out k x wr hx hW hg)
      have HX := Lib.hid hx
      have HG := Lib.hid hg
      have HPX : Hid (ptrTo x = .pointer (some ⟨x.blk, 0, none⟩)) := Lib.hid rfl
      rw [HPX.out] at c0 HC
      clear hx hW hg hrc h1 h2 h3 h4 HA
      cases htx : t x with
      | true =>
        rw [htx] at HC
        have HTX := Lib.hid htx
        clear htx
        go_wp2_with fail
        refine (HC.out).mono ?_
        rintro e w1 ⟨rfl, hs1, hg1⟩
        have HS1 := Lib.hid hs1; have HG1 := Lib.hid (hg1.trans HG.out)
        clear hs1 hg1 HC
        go_wp2_with fail
        go_ret
        exact ⟨some k, ⟨x, HX.out, HTX.out, HNO.out⟩, rfl, HS1.out, HG1.out⟩
      | false =>
        rw [htx] at HC
        have HNX : Hid (∀ j y, j < k + 1 → D[j]? = some y → t y = false) := Lib.hid (by
          intro j y hj hy
          rcases Nat.lt_or_ge j k with h1 | h1
          · exact HNO.out j y h1 hy
          · obtain rfl : j = k := by omega
            have := HX.out
            rw [hy] at this
            cases this
            exact htx)
        clear htx
        go_wp2_with fail
        refine (HC.out).mono ?_
        rintro e w1 ⟨rfl, hs1, hg1⟩
        have HS1 := Lib.hid hs1; have HG1 := Lib.hid (hg1.trans HG.out)
        clear hs1 hg1 HC
        go_wp2_with fail
        go_roundw
        case rel => exact ⟨k + 1, by omega, by go_num, HNX.out, HS1.out, HG1.out⟩
        case measure => simp [intOf]; omega
    · obtain rfl : k = n := by omega
      clear hlt
      have HW := Lib.hid hW
      have HG := Lib.hid hg
      clear hW hg
      go_wp2_with fail
      go_ret
      refine ⟨none, fun x hx => ?_, rfl, by rw [HST.out]; exact HW.out, HG.out⟩
      obtain ⟨j, hj⟩ := List.getElem?_of_mem hx
      exact HNO.out j x (by rw [← HN.out]; exact (List.getElem?_eq_some_iff.1 hj).1) hj
set_option maxRecDepth 100000 in
set_option maxHeartbeats 1000000 in
theorem del27_28 {A : Option Addr} {g cap p q : Nat} {D : List Dg} {t : Dg → Bool} (S : Nat → World → Prop) (w : World) (hA : D ≠ [] → A = some ⟨g, 0, none⟩ ∧ RowCut g cap D t 0 w) (hS : S 0 w) (hm : D.length ≤ 1000000) (hcap : D.length ≤ cap) (hmx : cap ≤ maxLen)
    (hT : ∀ k W W' cs, S k W → Turned g (.cells cs 71 (0, 0)) W W' → S k W')
    (hf : ∀ (k : Nat) (d : Dg) (W : World), D[k]? = some d → S k W → g < W.heap.size → Calls Try.prog 28 #[ptrTo d, .pointer (some ⟨p, 0, none⟩), .pointer (some ⟨q, 0, none⟩)] W fun e w' => e = .returned (.bool (t d)) ∧ S (k + 1) w' ∧ w'.heap[g]? = W.heap[g]?) :
    Calls Try.prog 27 #[.slice A D.length cap, .func (.func 28) #[] #[.pointer (some ⟨p, 0, none⟩), .pointer (some ⟨q, 0, none⟩)]] w fun e w' => ∃ v', e = .returned v' ∧ S D.length w' ∧ ((v' = .slice A D.length cap ∧ (∀ d ∈ D, t d = false) ∧ w'.heap[g]? = w.heap[g]?) ∨ (A = some ⟨g, 0, none⟩ ∧ v' = .slice A (D.filter (fun d => !t d)).length cap ∧ w'.ownsRow g 71 1 v' (D.filter (fun d => !t d)).length ((D.filter (fun d => !t d)).map ptrTo))) := by
  have HI := Lib.hid (idx52_28 (c := cap) (t := t) S w hA hS hm (fun k d W hk hs hg => by
    obtain ⟨rfl, hrc⟩ := hA (by rintro rfl; simp at hk)
    obtain ⟨cur, h1, _⟩ := hrc.ex
    exact hf k d W hk hs (lt_of_blk (hg.trans h1))))
  obtain ⟨n, hn⟩ : ∃ n, D.length = n := ⟨_, rfl⟩
  have HN := Lib.hid hn
  have HF := Lib.hid hf
  have HA := Lib.hid hA
  have HT := Lib.hid hT
  have HST : Hid (stepK D none = n) := Lib.hid hn
  have HMX := Lib.hid hmx
  rw [hn] at hm hcap HI ⊢
  clear hn hf hA hS hT hmx
  go_enter Try.func27, Try.ntmps27
  go_wp2_with fail
  refine (HI.out).mono ?_
  rintro e w1 ⟨r, hr, rfl, hs1, hg1⟩
  have HS1 := Lib.hid hs1; have HG1 := Lib.hid hg1; have HR := Lib.hid hr
  clear HI hs1 hg1 hr
  cases r with
  | none =>
    have tn : numK none = -1 := rfl
    rw [tn]
    clear tn
    go_wp2_with fail
    go_ret
    exact ⟨_, rfl, by rw [← HST.out]; exact HS1.out, .inl ⟨rfl, HR.out, HG1.out⟩⟩
  | some k0 =>
    have tn : numK (some k0) = (k0 : Int) := rfl
    rw [tn]
    clear tn
    have hk0 : k0 < n := by rw [← HN.out]; exact HR.out.lt
    have hne : D ≠ [] := by rintro rfl; have := HN.out; simp at this; omega
    obtain ⟨rfl, hrc⟩ := HA.out hne
    have hrc1 : RowCut g cap D t (k0 + 1) w1 := by
      obtain ⟨cur, h1, h2, h3, h4⟩ := hrc.ex
      refine ⟨cur, HG1.out.trans h1, h2, fun k d hk => ?_, fun k d hk hd => h4 k d (Nat.zero_le _) hd⟩
      rw [HR.out.filter, List.getElem?_take] at hk
      split at hk
      · exact h4 k d (Nat.zero_le _) hk
      · cases hk
    have hlen : ((D.take (k0 + 1)).filter (fun d => !t d)).length = k0 := by rw [HR.out.filter, List.length_take, HN.out]; omega
    have HRC := Lib.hid hrc1
    have HLEN := Lib.hid hlen
    have hS1 : S (k0 + 1) w1 := HS1.out
    have HS2 := Lib.hid hS1
    have tf : ((k0 : Int) == -1) = false := by rw [beq_eq_false_iff_ne]; omega
    clear hrc hrc1 hlen hne HA HR HG1 HS1 hS1
    go_wp2_with fail
    go_loopw [5, 6] (fun i j wr => ∃ (a b : Nat), i = .int .i64 a ∧ j = .int .i64 b ∧ a = ((D.take b).filter (fun d => !t d)).length ∧ a < b ∧ b ≤ n ∧ S b wr ∧ RowCut g cap D t b wr) (fun _ j _ => n - (intOf j).toNat)
    case atStart => exact ⟨k0, k0 + 1, rfl, by go_num, HLEN.out.symm, by omega, by omega, HS2.out, HRC.out⟩
    case round =>
      obtain ⟨a, b, rfl, rfl, ha, hab, hbn, hW, hRC⟩ := hrel
      clear HS2 HRC HLEN tf
      have HAE := Lib.hid ha
      by_cases hlt : b < n
      · obtain ⟨x, hx⟩ : ∃ x, D[b]? = some x := ⟨D[b]'(by rw [HN.out]; exact hlt), List.getElem?_eq_getElem _⟩
        obtain ⟨cur, h1, h2, h3, h4⟩ := hRC.ex
        have c0 : wr.cell? ⟨g, b, none⟩ = some (ptrTo x) := by rw [cell_blk h1]; exact h4 b x (Nat.le_refl _) hx
        have HC := Lib.hid (HF.out b x wr hx hW (lt_of_blk h1))
        have HX := Lib.hid hx
        have HFT := Lib.hid (filter_take (t := t) hx)
        have HPX : Hid (ptrTo x = .pointer (some ⟨x.blk, 0, none⟩)) := Lib.hid rfl
        have H1 := Lib.hid h1; have H2 := Lib.hid h2; have H3 := Lib.hid h3; have H4 := Lib.hid h4
        rw [HPX.out] at c0 HC
        clear hx hW hRC h1 h2 h3 h4 ha
        cases htx : t x with
        | true =>
          rw [htx] at HC HFT
          clear htx
          go_wp2_with fail
          refine (HC.out).mono ?_
          rintro e w2 ⟨rfl, hs2, hg2⟩
          have HS2 := Lib.hid hs2; have HG2 := Lib.hid hg2
          clear hs2 hg2 HC
          go_wp2_with fail
          go_roundw
          case rel =>
            refine ⟨a, b + 1, rfl, by go_num, ?_, by omega, by omega, HS2.out, cur, HG2.out.trans H1.out, H2.out, fun k d hk => H3.out k d ?_, fun k d hk hd => H4.out k d (by omega) hd⟩
            · rw [HFT.out, HAE.out]; simp
            · rw [HFT.out] at hk; simpa using hk
          case measure => simp [intOf]; omega
        | false =>
          rw [htx] at HC HFT
          clear htx
          go_wp2_with fail
          refine (HC.out).mono ?_
          rintro e w2 ⟨rfl, hs2, hg2⟩
          have hb2 : w2.heap[g]? = some (.cells cur 71 (0, 0)) := hg2.trans H1.out
          have ca : ∃ va, w2.cell? ⟨g, a, none⟩ = some va := by
            rw [cell_blk hb2]
            exact ⟨_, Array.getElem?_eq_getElem (by rw [H2.out]; omega)⟩
          obtain ⟨va, ca⟩ := ca
          have fa := frozen_blk hb2 a
          have tt := Turned.setCell hb2 a (.pointer (some ⟨x.blk, 0, none⟩))
          have hs3 := HT.out _ _ _ _ hs2 tt
          have HS3 := Lib.hid hs3; have HB3 := Lib.hid (tt.get (lt_of_blk hb2))
          clear hs2 hg2 HC tt hs3 hb2
          go_wp2_with fail
          go_roundw
          case rel =>
            have hfl : ((D.take (b + 1)).filter (fun d => !t d)) = ((D.take b).filter (fun d => !t d)) ++ [x] := by rw [HFT.out, if_neg (by simp)]
            refine ⟨a + 1, b + 1, by go_num, by go_num, ?_, by omega, by omega, HS3.out, _, HB3.out, by rw [Array.size_setIfInBounds]; exact H2.out, fun k d hk => ?_, fun k d hk hd => ?_⟩
            · rw [hfl, List.length_append, ← HAE.out]; rfl
            · rw [hfl] at hk
              rw [Array.getElem?_setIfInBounds]
              by_cases e : a = k
              · subst e
                rw [HAE.out, List.getElem?_append_right (Nat.le_refl _)] at hk
                simp at hk
                subst hk
                rw [if_pos rfl, if_pos (by rw [H2.out]; omega)]
                rfl
              · rw [if_neg e]
                refine H3.out k d ?_
                rw [List.getElem?_append] at hk
                split at hk
                · exact hk
                · rename_i hge
                  rw [← HAE.out] at hk hge
                  rw [List.getElem?_eq_none (by simp; omega)] at hk
                  cases hk
            · rw [Array.getElem?_setIfInBounds, if_neg (by omega)]
              exact H4.out k d (by omega) hd
          case measure => simp [intOf]; omega
      · obtain rfl : b = n := by omega
        clear hlt
        obtain ⟨cur, h1, h2, h3, h4⟩ := hRC.ex
        have hmx := HMX.out
        unfold maxLen at hmx
        have hcl : ∀ ty, (Builtin.clear_ #[56] ty #[.slice (some ⟨g, a, none⟩) (b - a) (cap - a)]).run Try.prog wr = .ok (.tuple #[]) (wr.setCells g a (List.replicate (b - a) (.pointer none))) :=
          fun ty => Lib.run_clear_slice wr 56 71 ty (.pointer none) Try.underlying56 Try.zeroValue71 rfl rfl g a (b - a) _ (by omega) (fun j hj => by rw [cell_blk h1, Array.getElem?_eq_getElem (by omega)]; rfl) (fun j hj => frozen_blk h1 _)
        have H1 := Lib.hid h1; have H2 := Lib.hid h2; have H3 := Lib.hid h3
        have HW := Lib.hid hW
        clear h1 h2 h3 h4 hRC hW ha hmx
        go_wp2_with fail
        go_ret
        obtain ⟨cur', ht, hs', hlo⟩ := turned_setCells (List.replicate (b - a) (.pointer none)) wr a cur H1.out
        have htk : D.take b = D := by rw [← HN.out, List.take_length]
        have hae := HAE.out
        rw [htk] at hae
        refine ⟨.slice (some ⟨g, 0, none⟩) a cap, rfl, HT.out _ _ _ _ HW.out ht, .inr ⟨by rw [← hae], ?_⟩⟩
        have h3 := H3.out
        rw [htk] at h3
        rw [← hae]
        refine ⟨by rw [List.length_map, ← hae, Nat.mul_one], .inr ⟨g, cap, cur', rfl, Nat.le_refl _, ht.get (lt_of_blk H1.out), by omega, HMX.out, by rw [hs', H2.out, Nat.mul_one], ?_⟩⟩
        refine List.ext_getElem? fun k => ?_
        rw [Nat.mul_one, List.getElem?_take, List.getElem?_map]
        by_cases hk : k < a
        · obtain ⟨y, hy⟩ : ∃ y, (D.filter (fun d => !t d))[k]? = some y := ⟨_, List.getElem?_eq_getElem (by rw [← hae]; exact hk)⟩
          rw [if_pos hk, hy]
          have := (hlo k hk).trans (h3 k y hy)
          simpa using this
        · rw [if_neg hk, List.getElem?_eq_none (by rw [← hae]; omega)]; rfl
end Go.Proofs.Ytjldcblklbikaaa
