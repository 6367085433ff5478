/- Bytes read as options, each in memory of its own: the walk. No condition but that the bytes fit a machine. -/
import Derived.Test.YtfolamkjlgpgmaaDoorRefP
namespace Go.Proofs.YtfolamkjlgpgmaaDoor
open Go.RowKit
set_option linter.unusedVariables false
set_option linter.unusedSimpArgs false
/-- what is left of the bytes -/
theorem Bs.drop {w : World} {B c pos b o n : Nat} {l : List Nat} (h : Bs w B (some ⟨b, o, none⟩) c (l.drop pos)) (hn : pos + n ≤ l.length) : ∀ A2, A2 = some ⟨b, o + n, none⟩ ∨ (A2 = some ⟨b, o, none⟩ ∧ n = c) → Bs w B A2 (c - n) (l.drop (pos + n)) := by
  intro A2 hA
  have hc := h.cap
  rw [List.length_drop] at hc
  have hm := h.max
  refine ⟨fun hne => ?_, by rw [List.length_drop]; omega, (fun e => by rcases hA with rfl | ⟨rfl, _⟩ <;> cases e), by omega⟩
  obtain ⟨b', o', e, hlt, hr⟩ := h.rd (by intro e; apply hne; rw [← List.drop_drop, e]; simp)
  cases e
  rcases hA with rfl | ⟨rfl, hnc⟩
  · refine ⟨b, o + n, rfl, hlt, fun k x hx => ?_⟩
    have := hr (n + k) x (by rw [List.getElem?_drop] at hx ⊢; rw [← hx]; congr 1; omega)
    rw [← Nat.add_assoc] at this
    exact this
  · exact absurd (List.drop_eq_nil_of_le (by omega)) hne
theorem refPost_bad {l : List Nat} {w w' : World} (h : getS l = none) (hb : Below w.heap.size w w') : RefPost l w (.returned (.tuple #[.slice none 0 0, .int .i64 4])) w' := ⟨hb, .inl ⟨h, rfl⟩⟩
set_option maxRecDepth 100000 in
set_option maxHeartbeats 4000000 in
theorem ref11 {A : Option Addr} {c : Nat} {l : List Nat} (w : World) (h : Bs w w.heap.size A c l) (hl : l.length ≤ 1000000000) (h256 : ∀ x ∈ l, x < 256) :
    Calls Tryd.prog 11 #[.slice A l.length c] w (RefPost l w) := by
  obtain ⟨n, hn⟩ : ∃ n, l.length = n := ⟨_, rfl⟩
  have HN := Lib.hid hn
  have HA := Lib.hid h
  have H256 := Lib.hid h256
  rw [hn] at hl ⊢
  clear h hn h256
  obtain ⟨i41, hi, hz0, hz1, hz2⟩ := info_parts info41
  obtain ⟨i5, hi5, hz50, hz51, hz52⟩ := info_parts info5
  go_enter Tryd.func11, Tryd.ntmps11
  go_wp2_with fail
  go_loopw [0, 4] (fun b v wr => ∃ pos L M A2 c2, pos ≤ n ∧ b = .slice A2 (n - pos) c2 ∧ Bs w w.heap.size A2 c2 (l.drop pos) ∧ Scn l pos L ∧ RefB w wr v l L M) (fun b _ _ => match b with | .slice _ m _ => m | _ => 0)
  case atStart => exact ⟨0, [], [], A, c, Nat.zero_le _, rfl, HA.out, Scn.start l, RefB.start w l⟩
  case round =>
    clear HA
    obtain ⟨pos, L, M, A2, c2, hle, rfl, hbs, hS, hB⟩ := hrel
    have HSS := Lib.hid hS
    have HBB := Lib.hid hB
    have hmany := hB.many
    have HML := Lib.hid hB.len
    have HBS := Lib.hid hbs
    obtain ⟨q, cq, hq, hqc⟩ := own_slice2 hB.own
    subst hq
    clear hS hB
    by_cases hlt : pos < n
    · obtain ⟨b, o, rfl, hb, hc⟩ := hbs.rd (by intro e; have := congrArg List.length e; rw [List.length_drop, HN.out] at this; simp at this; omega)
      obtain ⟨kd, hkd⟩ : ∃ kd, l[pos]? = some kd := ⟨l[pos]'(by rw [HN.out]; exact hlt), List.getElem?_eq_getElem _⟩
      have hcap := hbs.cap
      have hmx := hbs.max
      rw [List.length_drop, HN.out] at hcap
      have w0 := hc 0 kd (by rw [List.getElem?_drop, Nat.add_zero]; exact hkd)
      rw [Nat.add_zero] at w0
      have c0 := (HBB.out.below.cell (p := ⟨b, o + 0, none⟩) hb).trans (hc 0 kd (by rw [List.getElem?_drop, Nat.add_zero]; exact hkd))
      rw [Nat.add_zero] at c0
      have HK := Lib.hid hkd
      clear hbs hkd
      by_cases h2 : pos + 1 < n
      · obtain ⟨m, hm⟩ : ∃ m, l[pos + 1]? = some m := ⟨l[pos + 1]'(by rw [HN.out]; exact h2), List.getElem?_eq_getElem _⟩
        have hm2 : m < 256 := H256.out m (List.mem_of_getElem? hm)
        have c1 := (HBB.out.below.cell (p := ⟨b, o + 1, none⟩) hb).trans (hc 1 m (by rw [List.getElem?_drop]; exact hm))
        have HM := Lib.hid hm
        have t2 : decide (((n - pos : Nat) : Int) < 2) = false := by simp; omega
        clear hm hc
        by_cases h0 : m = 0
        · have HNX : Hid (nextO l pos = none) := Lib.hid (nextO_zero (by rw [HM.out, h0]))
          subst h0
          go_wp2_with fail
          go_ret2
          exact refPost_bad (HSS.out.fail (by rw [HN.out]; exact hlt) (.inl HNX.out)) HBB.out.below
        · have t0 : ((m : Int) == 0) = false := by rw [beq_eq_false_iff_ne]; omega
          by_cases h3 : pos + 8 * m ≤ n
          · have HNX : Hid (nextO l pos = some (kd, 8 * m)) := Lib.hid (nextO_some HK.out HM.out h0 (by rw [HN.out]; exact h3))
            have t3 : decide (((n - pos : Nat) : Int) < 8 * (m : Int)) = false := by simp; omega
            by_cases h64 : M.length = 64
            · have t64 : decide ((M.length : Int) ≥ 64) = true := by simp; omega
              have t65 : (64 : Int) ≤ (M.length : Int) := by omega
              have H64 := Lib.hid h64
              clear h64
              go_wp2_with fail
              go_ret2
              exact refPost_bad (HSS.out.fail (by rw [HN.out]; exact hlt) (.inr (by rw [← HML.out]; exact H64.out))) HBB.out.below
            · have t65 : ¬ (64 : Int) ≤ (M.length : Int) := by omega
              obtain ⟨k, hk⟩ : ∃ k, 8 * m = k + 2 := ⟨8 * m - 2, by omega⟩
              have ek : (8 : Int) * (m : Int) = ((k + 2 : Nat) : Int) := by omega
              obtain ⟨d, hd⟩ : ∃ d, (l.drop (pos + 2)).take k = d := ⟨_, rfl⟩
              have HDL : Hid (d.length = k) := Lib.hid (by rw [← hd, List.length_take, List.length_drop, HN.out]; omega)
              have HDD := Lib.hid hd
              have HC : Hid (∀ W, Below w.heap.size w W → ∀ j u, (row8 d)[j]? = some u → W.cell? ((⟨b, o + 2, none⟩ : Addr).add j) = some u) := Lib.hid (by
                intro W hW j u hu
                obtain ⟨x, hx, rfl⟩ := row8_inv hu
                rw [← HDD.out] at hx
                have hjk : j < k := by have := (List.getElem?_eq_some_iff.1 hx).1; rw [List.length_take] at this; omega
                rw [List.getElem?_take_of_lt hjk, List.getElem?_drop] at hx
                obtain ⟨b', o', e, hlt', hr⟩ := HBS.out.rd (by intro e; have := congrArg List.length e; rw [List.length_drop, HN.out] at this; simp at this; omega)
                cases e
                have h5 := hr (2 + j) x (by rw [List.getElem?_drop, ← hx]; congr 1; omega)
                rw [Addr.add_mid, Nat.add_assoc]
                exact (hW.cell (p := ⟨b, o + (2 + j), none⟩) hlt').trans h5)
              have ck0 := fun (W : World) (hW : Below w.heap.size w W) => (hW.cell (p := ⟨b, o, none⟩) hb).trans w0
              have hS : Below w.heap.size w wr.drew := HBB.out.below.drew
              clear hd
              go_wp2_with fail
              refine wp_region_held_drew (S := fun W => Below w.heap.size w W) (by kernel_rfl) hS ?_
              clear hS
              intro HS
              refine wpAnyH_take (i := 0) (v := ?_) rfl (by kernel_rfl) (by kernel_rfl) (by kernel_rfl) (fun _ _ _ h => h) (Or.inl ⟨by go_simp, ?hy⟩) HS ?_
              case hy => intro W hW; go_simp; (try with_reducible rfl)
              try simp only [List.getElem_toArray, List.getElem_cons_zero, List.getElem_cons_succ, Act.put, List.setIfInBounds_toArray, List.set_cons_zero, List.set_cons_succ]
              refine wpAnyH_take (i := 1) (v := ?_) rfl (by kernel_rfl) (by kernel_rfl) (by kernel_rfl) (fun _ _ _ h => h) (Or.inl ⟨by go_simp, ?hy⟩) HS ?_
              case hy => intro W hW; go_simp; (try with_reducible rfl)
              try simp only [List.getElem_toArray, List.getElem_cons_zero, List.getElem_cons_succ, Act.put, List.setIfInBounds_toArray, List.set_cons_zero, List.set_cons_succ]
              refine wpAnyH_take (i := 2) (v := .pointer (some ⟨b, o, none⟩)) rfl (by kernel_rfl) (by kernel_rfl) (by kernel_rfl) (fun _ _ _ h => h) (Or.inl ⟨by go_simp, fun W hW => by go_simp⟩) HS ?_
              try simp only [List.getElem_toArray, List.getElem_cons_zero, List.getElem_cons_succ, Act.put, List.setIfInBounds_toArray, List.set_cons_zero, List.set_cons_succ]
              refine wpAnyH_take (i := 3) (v := ?_) rfl (by kernel_rfl) (by kernel_rfl) (by kernel_rfl) (fun _ _ _ h => h) (Or.inl ⟨by go_simp, ?hy⟩) HS ?_
              case hy => intro W hW; have c := ck0 W hW; go_simp; (try with_reducible rfl)
              try simp only [List.getElem_toArray, List.getElem_cons_zero, List.getElem_cons_succ, Act.put, List.setIfInBounds_toArray, List.set_cons_zero, List.set_cons_succ]
              refine wpAnyH_take (i := 4) (v := ?_) rfl (by kernel_rfl) (by kernel_rfl) (by kernel_rfl) (fun _ _ _ h => h) (Or.inl ⟨by go_simp, ?hy⟩) HS ?_
              case hy => intro W hW; go_simp; (try with_reducible rfl)
              try simp only [List.getElem_toArray, List.getElem_cons_zero, List.getElem_cons_succ, Act.put, List.setIfInBounds_toArray, List.set_cons_zero, List.set_cons_succ]
              refine wpAnyH_take (i := 5) (v := ?_) rfl (by kernel_rfl) (by kernel_rfl) (by kernel_rfl) (fun _ _ _ h => h) (Or.inl ⟨by go_simp, ?hy⟩) HS ?_
              case hy => intro W hW; go_simp; (try with_reducible rfl)
              try simp only [List.getElem_toArray, List.getElem_cons_zero, List.getElem_cons_succ, Act.put, List.setIfInBounds_toArray, List.set_cons_zero, List.set_cons_succ]
              refine wpAnyH_take (i := 6) (v := .slice (some ⟨b, o + 2, none⟩) k (c2 - 2)) rfl (by kernel_rfl) (by kernel_rfl) (by kernel_rfl) (fun _ _ _ h => h) (Or.inl ⟨by go_simp, fun W hW => by go_simp; rw [if_pos ⟨by omega, by omega⟩, if_pos (by omega), if_neg (by omega), show ((k : Int) + 2).toNat - 2 = k by omega]⟩) HS ?_
              try simp only [List.getElem_toArray, List.getElem_cons_zero, List.getElem_cons_succ, Act.put, List.setIfInBounds_toArray, List.set_cons_zero, List.set_cons_succ]
              refine wpAnyH_ready (rs := [7]) (by kernel_rfl) (by simp) ?_
              refine AllReadyH.cons rfl (fun K hK => ?_) AllReadyH.nil
              rw [if_pos (by kernel_rfl)]
              simp only [List.getElem_toArray, List.getElem_cons_zero, List.getElem_cons_succ]
              refine wp_append_own _ (.const (.slice none 0 0)) (.tmp 44) 22 rfl w.heap.size 5 i5 (.int .u8 0) 1 1 Tryd.underlying22 hi5 hz50 hz51 hz52 rfl (by decide) _ 0 [] rfl (World.ownsRow_nil _ _ _ _) ⟨b, o + 2, none⟩ k (c2 - 2) (row8 d) rfl ?l7 ?n7 (row8_one d) (by unfold maxLen; omega) (by omega) ?b7 ?_
              case l7 => rw [row8_length, HDL.out]; omega
              case n7 => exact HC.out _ HS
              case b7 => exact HS.size
              intro v9 w9 hown9 hgr9 _
              rw [Nat.zero_add, List.nil_append] at hown9
              obtain ⟨A9, c9, rfl, -⟩ := own_slice2 hown9
              have HB9 : Hid (RefB w w9 (.slice q M.length cq) l L M) := Lib.hid (HBB.out.step (Below.grown' (Below.refl _ _).drew hgr9 (Nat.le_refl _) (fun k hk => by cases hk)))
              have HO9 := Lib.hid hown9
              clear hgr9 hown9
              refine hK.out _ _ (HB9.out.below) (fun HS => ?_)
              clear hK
              try simp only [List.getElem_toArray, List.getElem_cons_zero, List.getElem_cons_succ, Act.put, List.setIfInBounds_toArray, List.set_cons_zero, List.set_cons_succ]
              refine wpAnyH_take (i := 8) (v := ?_) rfl (by kernel_rfl) (by kernel_rfl) (by kernel_rfl) (fun _ _ _ h => h) (Or.inl ⟨by go_simp, ?hy⟩) HS ?_
              case hy => intro W hW; go_simp; (try with_reducible rfl)
              try simp only [List.getElem_toArray, List.getElem_cons_zero, List.getElem_cons_succ, Act.put, List.setIfInBounds_toArray, List.set_cons_zero, List.set_cons_succ]
              refine wpAnyH_ready (rs := [9]) (by kernel_rfl) (by simp) ?_
              refine AllReadyH.cons rfl (fun K hK => ?_) AllReadyH.nil
              rw [if_pos (by kernel_rfl)]
              simp only [List.getElem_toArray, List.getElem_cons_zero, List.getElem_cons_succ]
              go_simp
              have hal : Below w9.heap.size w9 (w9.alloc (.cells #[.int .u8 (kd : Int), .slice A9 k c9] 41)) := (Below.refl _ _).alloc (Nat.le_refl _) _
              refine hK.out _ _ (HB9.out.below.trans (hal.mono HB9.out.below.size)) (fun HS => ?_)
              clear hK
              try simp only [List.getElem_toArray, List.getElem_cons_zero, List.getElem_cons_succ, Act.put, List.setIfInBounds_toArray, List.set_cons_zero, List.set_cons_succ]
              refine wpAnyH_ready (rs := [10]) (by kernel_rfl) (by simp) ?_
              refine AllReadyH.cons rfl (fun K hK => ?_) AllReadyH.nil
              rw [if_pos (by kernel_rfl)]
              simp only [List.getElem_toArray, List.getElem_cons_zero, List.getElem_cons_succ]
              refine wp_append_own _ (.tmp 38) (.tmp 47) 25 rfl w.heap.size 41 i41 (.agg #[.int .u8 0, .slice none 0 0]) 2 32 Tryd.underlying25 hi hz0 hz1 hz2 rfl (by decide) _ M.length _ rfl (HB9.out.step hal).own ⟨w9.heap.size, 0, none⟩ 1 1 [.int .u8 (kd : Int), .slice A9 k c9] rfl rfl ?n10 ?o10 (by unfold maxLen; omega) (by omega) ?b10 ?_
              case n10 =>
                intro j u hj
                rw [Addr.add_mid, Nat.zero_add]
                have c := cell_blk (heap_alloc_new w9 (.cells #[.int .u8 (kd : Int), .slice A9 k c9] 41)) j
                exact c.trans (by simpa using hj)
              case o10 => intro u hu; simp only [List.mem_cons, List.not_mem_nil, or_false] at hu; rcases hu with rfl | rfl <;> rfl
              case b10 => exact HS.size
              intro v10 w10 hown10 hgr10 _
              have HR : Hid (RefB w w10 v10 l (L ++ [(kd, pos + 2, 8 * m - 2)]) (M ++ [⟨kd, A9, c9, d⟩])) := Lib.hid ((HB9.out.step hal).next (y := (kd, pos + 2, 8 * m - 2)) hgr10 (by rw [rowV_snoc, List.length_append, List.length_singleton]; show w10.ownsRow w.heap.size 41 2 v10 (M.length + 1) (rowV M ++ [.int .u8 (kd : Int), .slice A9 d.length c9]); rw [HDL.out]; exact hown10) (by show World.ownsRow _ w.heap.size 5 1 (.slice A9 d.length c9) d.length (row8 d); rw [HDL.out]; exact own_below HO9.out hal) (by rw [← HDD.out, show 8 * m - 2 = k by omega]) h64)
              clear hgr10 hown10 hal
              refine hK.out _ _ (HR.out.below) (fun HS => ?_)
              clear hK
              try simp only [List.getElem_toArray, List.getElem_cons_zero, List.getElem_cons_succ, Act.put, List.setIfInBounds_toArray, List.set_cons_zero, List.set_cons_succ]
              refine wpAnyH_take (i := 11) (v := ?_) rfl (by kernel_rfl) (by kernel_rfl) (by kernel_rfl) (fun _ _ _ h => h) (Or.inl ⟨by go_simp, ?hy⟩) HS ?_
              case hy => intro W hW; go_simp; (try with_reducible rfl)
              try simp only [List.getElem_toArray, List.getElem_cons_zero, List.getElem_cons_succ, Act.put, List.setIfInBounds_toArray, List.set_cons_zero, List.set_cons_succ]
              refine wpAnyH_done (by kernel_rfl) ?_ _
              have HQ := Lib.hid (HBS.out.drop (n := 8 * m) (by rw [HN.out]; exact h3))
              have HV := Lib.hid (HSS.out.next (by rw [HN.out]; exact hlt) HNX.out (by rw [← HML.out]; exact h64))
              have hk1 : (0 : Int) ≤ (k : Int) + 2 ∧ (k : Int) + 2 ≤ ((n - pos : Nat) : Int) := by omega
              clear HS
              by_cases e2 : c2 = k + 2
              · go_wp2_with fail
                go_roundw
                case rel => exact ⟨pos + 8 * m, _, _, some ⟨b, o, none⟩, c2 - 8 * m, by omega, by congr 1 <;> omega, HQ.out _ (.inr ⟨rfl, by omega⟩), HV.out, HR.out⟩
                case measure => simp; omega
              · go_wp2_with fail
                go_roundw
                case rel => exact ⟨pos + 8 * m, _, _, some ⟨b, o + 8 * m, none⟩, c2 - 8 * m, by omega, by rw [show 8 * m = k + 2 by omega]; congr 1; omega, HQ.out _ (.inl rfl), HV.out, HR.out⟩
                case measure => simp; omega
          · have HNX : Hid (nextO l pos = none) := Lib.hid (nextO_far HM.out (by rw [HN.out]; exact h3))
            have t3 : decide (((n - pos : Nat) : Int) < 8 * (m : Int)) = true := by simp; omega
            go_wp2_with fail
            go_ret2
            exact refPost_bad (HSS.out.fail (by rw [HN.out]; exact hlt) (.inl HNX.out)) HBB.out.below
      · have HNX : Hid (nextO l pos = none) := Lib.hid (nextO_short (by rw [HN.out]; exact h2))
        have t2 : decide (((n - pos : Nat) : Int) < 2) = true := by simp; omega
        clear hc
        go_wp2_with fail
        go_ret2
        exact refPost_bad (HSS.out.fail (by rw [HN.out]; exact hlt) (.inl HNX.out)) HBB.out.below
    · have e0 : n - pos = 0 := by omega
      have HD := Lib.hid (HSS.out.done (by rw [HN.out]; exact hle) (by rw [HN.out]; omega))
      have t0 : ¬ 0 < n - pos := by omega
      clear hbs
      go_wp2_with fail
      go_ret2
      exact ⟨HBB.out.below, .inr ⟨L, M, q, cq, HD.out, rfl, HBB.out⟩⟩
end Go.Proofs.YtfolamkjlgpgmaaDoor
