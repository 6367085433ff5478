/- Several texts in one: BackP, Again. No condition beyond those that each part names. -/
import Derived.Test.YtfolamkjlgpgmabDoorPut
import Derived.Test.YtfolamkjlgpgmabDoorGetPQ
import Derived.Test.YtfolamkjlgpgmabDoorAccK
/- What is put is got: in plain words. -/
namespace Go.Proofs.YtfolamkjlgpgmabDoor
set_option linter.unusedVariables false
set_option linter.unusedSimpArgs false
/-- where an option's bytes begin -/
def posO (L : List Opt) (i : Nat) : Nat := (putB (L.take i)).length
theorem posO_zero (L : List Opt) : posO L 0 = 0 := rfl
theorem posO_succ {L : List Opt} {i : Nat} {x : Opt} (h : L[i]? = some x) : posO L (i + 1) = posO L i + 8 * eightsO x.data.length := by
  unfold posO
  rw [putB_succ h, List.length_append, optB_length]
theorem putB_append (L M : List Opt) : putB (L ++ M) = putB L ++ putB M := by simp [putB]
theorem posO_le (L : List Opt) (i : Nat) : posO L i ≤ (putB L).length := by
  unfold posO
  conv => rhs; rw [← List.take_append_drop i L, putB_append]
  simp
theorem posO_mono (L : List Opt) {i j : Nat} (h : i ≤ j) : posO L i ≤ posO L j := by
  unfold posO
  have : L.take j = L.take i ++ (L.take j).drop i := by
    conv => lhs; rw [← List.take_append_drop i (L.take j)]
    rw [List.take_take, Nat.min_eq_left h]
  rw [this, putB_append]; simp
theorem posO_all (L : List Opt) : posO L L.length = (putB L).length := by unfold posO; rw [List.take_length]
theorem posO_eight (L : List Opt) : ∀ i, i ≤ L.length → posO L i % 8 = 0 ∧ 8 * i ≤ posO L i
  | 0, _ => by rw [posO_zero]; omega
  | i + 1, h => by
    obtain ⟨h1, h2⟩ := posO_eight L i (by omega)
    obtain ⟨x, hx⟩ : ∃ x, L[i]? = some x := ⟨L[i], List.getElem?_eq_getElem _⟩
    rw [posO_succ hx]
    have := eights_bd x.data.length
    omega
theorem put_at {L : List Opt} {i : Nat} {x : Opt} (h : L[i]? = some x) : putB L = putB (L.take i) ++ (optB x.kind x.data ++ putB (L.drop (i + 1))) := by
  have h1 : i < L.length := (List.getElem?_eq_some_iff.1 h).1
  have h2 : L[i] = x := (List.getElem?_eq_some_iff.1 h).2
  conv => lhs; rw [← List.take_append_drop i L, putB_append, List.drop_eq_getElem_cons h1, h2]
  rfl
theorem put_get {L : List Opt} {i k : Nat} {x : Opt} (h : L[i]? = some x) (hk : k < 8 * eightsO x.data.length) : (putB L)[posO L i + k]? = (optB x.kind x.data)[k]? := by
  rw [put_at h, List.getElem?_append_right (by unfold posO; omega), show posO L i + k - (putB (L.take i)).length = k by unfold posO; omega, List.getElem?_append_left (by rw [optB_length]; exact hk)]
theorem next_put {L : List Opt} {i : Nat} {x : Opt} (h : L[i]? = some x) {T : List Nat} (hT : ∀ k, k < posO L i + 8 * eightsO x.data.length → T[k]? = (putB L)[k]?) (hl : posO L i + 8 * eightsO x.data.length ≤ T.length) : nextO T (posO L i) = some (x.kind, 8 * eightsO x.data.length) := by
  have hb := eights_bd x.data.length
  have h0 : T[posO L i]? = some x.kind := by
    rw [hT _ (by omega)]
    have := put_get h (k := 0) (by omega)
    rw [Nat.add_zero] at this
    rw [this]; rfl
  have h1 : T[posO L i + 1]? = some (eightsO x.data.length) := by
    rw [hT _ (by omega), put_get h (by omega)]; rfl
  unfold nextO
  rw [List.getD_eq_getElem?_getD, List.getD_eq_getElem?_getD, h0, h1]
  simp only [Option.getD_some]
  rw [if_pos (by omega)]
/-- the options, and where their data stand -/
def resO (L : List Opt) (i : Nat) : List (Nat × Nat × Nat) := (List.range i).map fun j => match L[j]? with
  | some x => (x.kind, posO L j + 2, 8 * eightsO x.data.length - 2)
  | none => (0, 0, 0)
theorem resO_length (L : List Opt) (i : Nat) : (resO L i).length = i := by simp [resO]
theorem resO_succ {L : List Opt} {i : Nat} {x : Opt} (h : L[i]? = some x) : resO L (i + 1) = resO L i ++ [(x.kind, posO L i + 2, 8 * eightsO x.data.length - 2)] := by
  unfold resO
  rw [List.range_succ, List.map_append]
  simp [h]
theorem scn_put {L : List Opt} {T : List Nat} (q : Nat) (hq : q ≤ (putB L).length) (hT : T = (putB L).take q) : ∀ i, i ≤ L.length → i ≤ 64 → posO L i ≤ q → Scn T (posO L i) (resO L i)
  | 0, _, _, _ => Scn.start T
  | i + 1, hi, h64, hp => by
    obtain ⟨x, hx⟩ : ∃ x, L[i]? = some x := ⟨L[i], List.getElem?_eq_getElem _⟩
    have hs := posO_succ hx
    have hb := eights_bd x.data.length
    have hTl : T.length = q := by rw [hT, List.length_take]; omega
    have hn : nextO T (posO L i) = some (x.kind, 8 * eightsO x.data.length) := next_put hx (fun k hk => by rw [hT, List.getElem?_take_of_lt (by omega)]) (by omega)
    have := (scn_put q hq hT i (by omega) (by omega) (by omega)).next (by omega) hn (by rw [resO_length]; omega)
    rw [hs, resO_succ hx]
    exact this
/-- what is put is got -/
theorem back_get {L : List Opt} (h : L.length ≤ 64) : getS (putB L) = some (resO L L.length) := by
  have hs := scn_put (L := L) (T := putB L) (putB L).length (Nat.le_refl _) (List.take_length).symm L.length (Nat.le_refl _) h (by rw [posO_all]; exact Nat.le_refl _)
  exact hs.done (by rw [posO_all]; exact Nat.le_refl _) (by rw [posO_all]; exact Nat.le_refl _)
/-- too many -/
theorem back_many {L : List Opt} (h : 64 < L.length) : getS (putB L) = none := by
  have hs := scn_put (L := L) (T := putB L) (putB L).length (Nat.le_refl _) (List.take_length).symm 64 (by omega) (Nat.le_refl _) (posO_le L 64)
  refine hs.fail ?_ (.inr (resO_length L 64))
  obtain ⟨x, hx⟩ : ∃ x, L[64]? = some x := ⟨L[64], List.getElem?_eq_getElem _⟩
  have h1 := posO_succ hx
  have h2 := posO_le L (64 + 1)
  have hb := eights_bd x.data.length
  omega
/-- cut within the last one -/
theorem back_cut {L : List Opt} {n q : Nat} {x : Opt} (hn : L.length = n + 1) (h64 : n + 1 ≤ 64) (hx : L[n]? = some x) (hq : q < (putB L).length) (hq2 : posO L n < q) : getS ((putB L).take q) = none := by
  have hs := scn_put (L := L) (T := (putB L).take q) q (by omega) rfl n (by omega) (by omega) (by omega)
  have hl : ((putB L).take q).length = q := by rw [List.length_take]; omega
  have h1 := posO_succ hx
  have h2 : posO L (n + 1) = (putB L).length := by rw [← hn, posO_all]
  refine hs.fail (by omega) (.inl ?_)
  have hb := eights_bd x.data.length
  unfold nextO
  by_cases hc : posO L n + 1 < q
  · have e : ((putB L).take q).getD (posO L n + 1) 0 = eightsO x.data.length := by
      rw [List.getD_eq_getElem?_getD, List.getElem?_take_of_lt hc, put_get hx (by omega)]; rfl
    rw [e, if_neg (by omega)]
  · rw [if_neg (by omega)]
theorem put_256 {L : List Opt} (h : ∀ x ∈ L, x.kind < 256 ∧ ∀ y ∈ x.data, y < 256) : ∀ y ∈ putB L, y < 256 := by
  intro y hy
  unfold putB at hy
  obtain ⟨x, hx, hyx⟩ := List.mem_flatMap.1 hy
  have h1 := h x hx
  have hb := eights_bd x.data.length
  unfold optB at hyx
  simp only [List.mem_append, List.mem_cons, List.not_mem_nil, or_false] at hyx
  rcases hyx with ((rfl | rfl) | hyx) | hyx
  · exact h1.1
  · omega
  · exact h1.2 y (List.mem_of_mem_take hyx)
  · rw [List.eq_of_mem_replicate hyx]; decide
/-- an option's data, as they are got -/
theorem back_data {L : List Opt} {i : Nat} {x : Opt} (h : L[i]? = some x) : ((putB L).drop (posO L i + 2)).take (8 * eightsO x.data.length - 2) = x.data.take 2038 ++ List.replicate (8 * eightsO x.data.length - 2 - min x.data.length 2038) 0 := by
  have hb := eights_bd x.data.length
  apply List.ext_getElem?
  intro k
  by_cases hk : k < 8 * eightsO x.data.length - 2
  · rw [List.getElem?_take_of_lt hk, List.getElem?_drop, show posO L i + 2 + k = posO L i + (k + 2) by omega, put_get h (by omega)]
    unfold optB
    simp
  · rw [List.getElem?_eq_none (by rw [List.length_take]; omega), List.getElem?_eq_none (by simp only [List.length_append, List.length_take, List.length_replicate]; omega)]
end Go.Proofs.YtfolamkjlgpgmabDoor

/- An option put and got again: the walk. No condition but that it is short. (Printed by gAgain.py.) -/
namespace Go.Proofs.YtfolamkjlgpgmabDoor
open Go.RowKit
set_option linter.unusedVariables false
set_option linter.unusedSimpArgs false
/-- an option's data, filled up -/
def padL (l : List Nat) : List Nat := l ++ List.replicate (8 * eightsO l.length - 2 - l.length) 0
theorem optB_pad {kd : Nat} {l : List Nat} (hl : l.length ≤ 2038) : optB kd l = [kd, eightsO l.length] ++ padL l := by
  unfold optB padL
  rw [List.take_of_length_le hl, Nat.min_eq_left hl, List.append_assoc]
theorem padL_length {l : List Nat} (hl : l.length ≤ 2038) : (padL l).length = 8 * eightsO l.length - 2 := by
  have := eights_bd l.length
  unfold padL
  rw [List.length_append, List.length_replicate]
  omega
theorem one_put (kd : Nat) (A : Option Addr) (c : Nat) (l : List Nat) : putB [⟨kd, A, c, l⟩] = optB kd l := by simp [putB]
theorem own_bs1 {w : World} {base c m : Nat} {A : Option Addr} {l : List Nat} (h : w.ownsRow base 5 1 (.slice A m c) m (row8 l)) (hm : l.length = m) : Bs w w.heap.size A c l := by
  subst hm
  exact own_bs0 h
theorem bs_of_row {W : World} {g a b : Nat} {z : Nat × Nat} {cur : Array Value} {P q : List Nat} (hg : W.heap[g]? = some (.cells cur 5 z)) (ht : cur.toList.take P.length = row8 P) (hP : P = [a, b] ++ q) (hm : q.length ≤ 1000000000) : Bs W W.heap.size (some ⟨g, 2, none⟩) q.length q := by
  refine ⟨fun _ => ⟨g, 2, rfl, lt_of_blk hg, fun k x hx => ?_⟩, Nat.le_refl _, (fun e => by cases e), by unfold maxLen; omega⟩
  have hx2 : P[2 + k]? = some x := by rw [hP, List.getElem?_append_right (by simp)]; simpa using hx
  have h1 := row8_get hx2
  have hlt : 2 + k < P.length := (List.getElem?_eq_some_iff.1 hx2).1
  rw [← ht, List.getElem?_take_of_lt hlt] at h1
  rw [cell_blk hg]
  simpa using h1
theorem one_get {kd c : Nat} {A : Option Addr} {l : List Nat} : getS (putB [⟨kd, A, c, l⟩]) = some [(kd, 2, 8 * eightsO l.length - 2)] := by
  rw [back_get (by simp)]
  rfl
set_option maxRecDepth 100000 in
set_option maxHeartbeats 2000000 in
theorem again5 {kd c : Nat} {A : Option Addr} {l : List Nat} (w : World) (h : Bs w w.heap.size A c l) (hk : kd < 256) (hl : l.length ≤ 2038) (h256 : ∀ x ∈ l, x < 256) :
    Calls Tryd.prog 5 #[.agg #[.int .u8 (kd : Int), .slice A l.length c]] w fun e w' => ∃ A', e = .returned (.agg #[.int .u8 (kd : Int), .slice A' (padL l).length (padL l).length]) ∧ Bs w' w'.heap.size A' (padL l).length (padL l) ∧ Below w.heap.size w w' := by
  obtain ⟨hb2, h2, h3⟩ := two_new w (.cells #[.int .u8 (kd : Int), .slice A l.length c] 39) (.cells #[.int .u8 0, .slice none 0 0] 39)
  obtain ⟨V, hV⟩ : ∃ V, V = (w.alloc (.cells #[.int .u8 (kd : Int), .slice A l.length c] 39)).alloc (.cells #[.int .u8 0, .slice none 0 0] 39) := ⟨_, rfl⟩
  rw [← hV] at hb2 h2 h3
  have hn4 := heap_alloc_new V (.cells #[.int .u8 (kd : Int), .slice A l.length c] 39)
  have hb4 : Below V.heap.size V (V.alloc (.cells #[.int .u8 (kd : Int), .slice A l.length c] 39)) := (Below.refl _ _).alloc (Nat.le_refl _) _
  obtain ⟨U, hU⟩ : ∃ U, U = V.alloc (.cells #[.int .u8 (kd : Int), .slice A l.length c] 39) := ⟨_, rfl⟩
  rw [← hU] at hn4 hb4
  have hbU := hb2.trans (hb4.mono hb2.size)
  have hOA : OptsAt U U.heap.size (some ⟨V.heap.size, 0, none⟩) [⟨kd, A, c, l⟩] := by
    refine ⟨fun _ => ⟨V.heap.size, 0, rfl, lt_of_blk hn4, fun i x hx => ?_⟩, fun x hx => ?_, by simp⟩
    · have hi : i = 0 := by have := (List.getElem?_eq_some_iff.1 hx).1; simp at this; exact this
      subst hi
      simp only [List.getElem?_cons_zero, Option.some.injEq] at hx
      subst hx
      exact ⟨cell_blk hn4 0, cell_blk hn4 1⟩
    · rw [List.mem_singleton] at hx; subst hx
      exact ⟨(h.below hbU).mono hbU.size, hk, h256, by have := h.max; unfold maxLen at this; omega⟩
  have hT := Lib.hid (put18 (cap := 1) U hOA (by simp [totD]; omega))
  have H3 := Lib.hid ((hb4.block _ (lt_of_blk h3)).trans h3)
  have HBU := Lib.hid hbU
  have hpl := padL_length hl
  have hpb : putB [⟨kd, A, c, l⟩] = [kd, eightsO l.length] ++ padL l := by rw [one_put, optB_pad hl]
  have HPB := Lib.hid hpb; have HPL := Lib.hid hpl; have HK := Lib.hid hk; have H256 := Lib.hid h256
  have hbd := eights_bd l.length
  obtain ⟨P, hP⟩ : ∃ P, P = putB [⟨kd, A, c, l⟩] := ⟨_, rfl⟩
  have HG : Hid (getS P = some [(kd, 2, 8 * eightsO l.length - 2)]) := Lib.hid (by rw [hP]; exact one_get)
  rw [← hP] at hT HPB
  obtain ⟨m, hm⟩ : ∃ m, P.length = m := ⟨_, rfl⟩
  have HM := Lib.hid hm
  have hme : m = 8 * eightsO l.length := by rw [← hm, HPB.out, List.length_append, hpl]; simp; omega
  have HME := Lib.hid hme
  unfold PutPost at hT
  rw [hm] at hT
  obtain ⟨n, hn⟩ : ∃ n, l.length = n := ⟨_, rfl⟩
  have c0 := cell_blk h2 0
  have c1 := cell_blk h2 1
  simp only [List.getElem?_toArray, List.getElem?_cons_zero, List.getElem?_cons_succ] at c0 c1
  rw [hn] at c1 hV hU ⊢
  have HNN := Lib.hid hn
  clear h h2 h3 hn4 hb4 hbU hOA hpl hpb hP hm hn hme hk h256 hb2 hbd
  go_enter Tryd.func5, Tryd.ntmps5
  go_upto_region 1 with (fail)
  rw [← hV]
  clear hV
  go_wp2_with fail
  rw [← hU]
  clear hU c0 c1
  refine (hT.out).mono ?_
  rintro e w3 ⟨Ap, kp, rfl, ho, hb3⟩
  have hbs : Bs w3 w3.heap.size Ap m P := by
    have h1 := own_bs1 ho HM.out
    exact bs_cap h1 (by rw [HM.out]; exact Nat.le_refl _) (by obtain ⟨_, _, e9, h9⟩ := own_slice2 ho; cases e9; exact h9)
  have hP256 : ∀ x ∈ P, x < 256 := fun x hx => by
    rw [HPB.out] at hx
    have h9 := eights_bd l.length
    simp only [List.mem_append, List.mem_cons, List.not_mem_nil, or_false, padL, List.mem_replicate] at hx
    rcases hx with (rfl | rfl) | hx | ⟨_, rfl⟩
    · exact HK.out
    · omega
    · exact H256.out x hx
    · decide
  have hG := get10 (c := m) w3 hbs (by rw [HM.out, HME.out]; have := (eights_bd l.length).2.1; omega) hP256
  rw [HM.out] at hG
  have HGG := Lib.hid hG
  have H33 := Lib.hid ((hb3.block _ (lt_of_blk H3.out)).trans H3.out)
  have HB3 := Lib.hid (HBU.out.trans (hb3.mono HBU.out.size))
  clear hT ho hb3 hbs hP256 hG H3 HBU
  go_wp2_with fail
  refine (HGG.out).mono ?_
  rintro e w4 ⟨hb4, hP4⟩
  rcases hP4 with ⟨hno, rfl⟩ | ⟨L, g, gc, A4, hL, rfl, ⟨k4, ho4⟩, hrow⟩
  · exact absurd (HG.out.symm.trans hno) (by simp)
  · obtain rfl : L = [(kd, 2, 8 * eightsO l.length - 2)] := by have := HG.out.symm.trans hL; simpa using this.symm
    obtain ⟨hg1, cur, hg2, hg3, hg4⟩ := hrow (by rw [HPB.out]; simp)
    obtain ⟨A9, k9, e9, hk9⟩ := own_slice2 ho4
    cases e9
    rcases ho4.2 with ⟨e8, h8⟩ | ⟨g8, cap8, cur8, e8, hb8, hg8, hn8, hm8, hs8, ht8⟩
    · exact absurd h8 (by simp)
    · cases e8
      have hrowc : ∀ j u, (rowO g [(kd, 2, 8 * eightsO l.length - 2)])[j]? = some u → w4.cell? ⟨g8, j, none⟩ = some u := fun j u hj => by
        have hj2 : j < 2 := by have := (List.getElem?_eq_some_iff.1 hj).1; simpa [rowO] using this
        rw [← ht8, List.getElem?_take_of_lt (by simpa using hj2)] at hj
        rw [cell_blk hg8]
        simpa using hj
      have q0 := hrowc 0 _ rfl
      have q1 := hrowc 1 _ rfl
      have HG2 := Lib.hid hg2; have HG4 := Lib.hid hg4
      have H34 := Lib.hid ((hb4.block _ (lt_of_blk H33.out)).trans H33.out)
      have HB4 := Lib.hid (HB3.out.trans (hb4.mono HB3.out.size))
      obtain ⟨z, hz⟩ : ∃ z, 8 * eightsO l.length - 2 = z := ⟨_, rfl⟩
      have HZ : Hid ((padL l).length = z) := Lib.hid (by rw [HPL.out, hz])
      rw [hz] at q1
      simp only at q0 q1
      clear hb4 hL hrow hg1 hg2 hg3 hg4 hk9 hb8 hg8 hn8 hm8 hs8 ht8 hrowc ho4 HGG H33 HB3 hz
      have f0 := frozen_blk H34.out 0
      have f1 := frozen_blk H34.out 1
      have z0 := cell_blk H34.out 0
      have z1 := cell_blk H34.out 1
      simp only [List.getElem?_toArray, List.getElem?_cons_zero, List.getElem?_cons_succ] at z0 z1
      have HT9 := Lib.hid (two_set (v0 := .int .u8 (kd : Int)) (v1 := .slice (some ⟨g, 2, none⟩) z z) H34.out)
      go_wp2_with fail
      have t9 := HT9.out
      have k9 := t9.get (lt_of_blk H34.out)
      have k0 := cell_blk k9 0
      have k1 := cell_blk k9 1
      simp only [List.getElem?_toArray, List.getElem?_cons_zero, List.getElem?_cons_succ] at k0 k1
      have hne : g ≠ w.heap.size + 1 := by
        rintro rfl
        have h1 := HG2.out
        rw [H34.out] at h1
        injection h1 with h1
        injection h1 with _ h2 _
        exact absurd h2 (by decide)
      have HG9 := Lib.hid (t9.keep HG2.out hne)
      have HBF := Lib.hid (HB4.out.trans (t9.below (Nat.le_succ _)))
      clear HG2 HB4 t9 k9 f0 f1 z0 z1
      refine bodyPost_ret (v := .agg #[.int .u8 (kd : Int), .slice (some ⟨g, 2, none⟩) z z]) ?_ rfl ?_
      · simp [results, Tryd.results5, go_sem, k0, k1]
        try rfl
      · refine ⟨some ⟨g, 2, none⟩, by rw [HZ.out], bs_of_row HG9.out HG4.out HPB.out (by rw [HPL.out]; have := (eights_bd l.length).2.1; omega), HBF.out⟩
end Go.Proofs.YtfolamkjlgpgmabDoor
