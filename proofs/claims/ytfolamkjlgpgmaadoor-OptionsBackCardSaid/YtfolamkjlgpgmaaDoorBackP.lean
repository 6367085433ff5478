/- What is put is got: in plain words. -/
import Derived.Test.YtfolamkjlgpgmaaDoorPut
import Derived.Test.YtfolamkjlgpgmaaDoorGetP
namespace Go.Proofs.YtfolamkjlgpgmaaDoor
set_option linter.unusedVariables false
set_option linter.unusedSimpArgs false
/-- where an option's bytes begin -/
def posO (L : List Opt) (i : Nat) : Nat := (putB (L.take i)).length
theorem posO_zero (L : List Opt) : posO L 0 = 0 := rfl
theorem posO_succ {L : List Opt} {i : Nat} {x : Opt} (h : L[i]? = some x) : posO L (i + 1) = posO L i + 8 * eightsO x.data.length := by
  unfold posO
  rw [putB_succ h, List.length_append, optB_length]
theorem putB_append (L M : List Opt) : putB (L ++ M) = putB L ++ putB M := by simp [putB]
theorem posO_le (L : List Opt) (i : Nat) : posO L i ≤ (putB L).length := by
  unfold posO
  conv => rhs; rw [← List.take_append_drop i L, putB_append]
  simp
theorem posO_mono (L : List Opt) {i j : Nat} (h : i ≤ j) : posO L i ≤ posO L j := by
  unfold posO
  have : L.take j = L.take i ++ (L.take j).drop i := by
    conv => lhs; rw [← List.take_append_drop i (L.take j)]
    rw [List.take_take, Nat.min_eq_left h]
  rw [this, putB_append]; simp
theorem posO_all (L : List Opt) : posO L L.length = (putB L).length := by unfold posO; rw [List.take_length]
theorem posO_eight (L : List Opt) : ∀ i, i ≤ L.length → posO L i % 8 = 0 ∧ 8 * i ≤ posO L i
  | 0, _ => by rw [posO_zero]; omega
  | i + 1, h => by
    obtain ⟨h1, h2⟩ := posO_eight L i (by omega)
    obtain ⟨x, hx⟩ : ∃ x, L[i]? = some x := ⟨L[i], List.getElem?_eq_getElem _⟩
    rw [posO_succ hx]
    have := eights_bd x.data.length
    omega
theorem put_at {L : List Opt} {i : Nat} {x : Opt} (h : L[i]? = some x) : putB L = putB (L.take i) ++ (optB x.kind x.data ++ putB (L.drop (i + 1))) := by
  have h1 : i < L.length := (List.getElem?_eq_some_iff.1 h).1
  have h2 : L[i] = x := (List.getElem?_eq_some_iff.1 h).2
  conv => lhs; rw [← List.take_append_drop i L, putB_append, List.drop_eq_getElem_cons h1, h2]
  rfl
theorem put_get {L : List Opt} {i k : Nat} {x : Opt} (h : L[i]? = some x) (hk : k < 8 * eightsO x.data.length) : (putB L)[posO L i + k]? = (optB x.kind x.data)[k]? := by
  rw [put_at h, List.getElem?_append_right (by unfold posO; omega), show posO L i + k - (putB (L.take i)).length = k by unfold posO; omega, List.getElem?_append_left (by rw [optB_length]; exact hk)]
theorem next_put {L : List Opt} {i : Nat} {x : Opt} (h : L[i]? = some x) {T : List Nat} (hT : ∀ k, k < posO L i + 8 * eightsO x.data.length → T[k]? = (putB L)[k]?) (hl : posO L i + 8 * eightsO x.data.length ≤ T.length) : nextO T (posO L i) = some (x.kind, 8 * eightsO x.data.length) := by
  have hb := eights_bd x.data.length
  have h0 : T[posO L i]? = some x.kind := by
    rw [hT _ (by omega)]
    have := put_get h (k := 0) (by omega)
    rw [Nat.add_zero] at this
    rw [this]; rfl
  have h1 : T[posO L i + 1]? = some (eightsO x.data.length) := by
    rw [hT _ (by omega), put_get h (by omega)]; rfl
  unfold nextO
  rw [List.getD_eq_getElem?_getD, List.getD_eq_getElem?_getD, h0, h1]
  simp only [Option.getD_some]
  rw [if_pos (by omega)]
/-- the options, and where their data stand -/
def resO (L : List Opt) (i : Nat) : List (Nat × Nat × Nat) := (List.range i).map fun j => match L[j]? with
  | some x => (x.kind, posO L j + 2, 8 * eightsO x.data.length - 2)
  | none => (0, 0, 0)
theorem resO_length (L : List Opt) (i : Nat) : (resO L i).length = i := by simp [resO]
theorem resO_succ {L : List Opt} {i : Nat} {x : Opt} (h : L[i]? = some x) : resO L (i + 1) = resO L i ++ [(x.kind, posO L i + 2, 8 * eightsO x.data.length - 2)] := by
  unfold resO
  rw [List.range_succ, List.map_append]
  simp [h]
theorem scn_put {L : List Opt} {T : List Nat} (q : Nat) (hq : q ≤ (putB L).length) (hT : T = (putB L).take q) : ∀ i, i ≤ L.length → i ≤ 64 → posO L i ≤ q → Scn T (posO L i) (resO L i)
  | 0, _, _, _ => Scn.start T
  | i + 1, hi, h64, hp => by
    obtain ⟨x, hx⟩ : ∃ x, L[i]? = some x := ⟨L[i], List.getElem?_eq_getElem _⟩
    have hs := posO_succ hx
    have hb := eights_bd x.data.length
    have hTl : T.length = q := by rw [hT, List.length_take]; omega
    have hn : nextO T (posO L i) = some (x.kind, 8 * eightsO x.data.length) := next_put hx (fun k hk => by rw [hT, List.getElem?_take_of_lt (by omega)]) (by omega)
    have := (scn_put q hq hT i (by omega) (by omega) (by omega)).next (by omega) hn (by rw [resO_length]; omega)
    rw [hs, resO_succ hx]
    exact this
/-- what is put is got -/
theorem back_get {L : List Opt} (h : L.length ≤ 64) : getS (putB L) = some (resO L L.length) := by
  have hs := scn_put (L := L) (T := putB L) (putB L).length (Nat.le_refl _) (List.take_length).symm L.length (Nat.le_refl _) h (by rw [posO_all]; exact Nat.le_refl _)
  exact hs.done (by rw [posO_all]; exact Nat.le_refl _) (by rw [posO_all]; exact Nat.le_refl _)
/-- too many -/
theorem back_many {L : List Opt} (h : 64 < L.length) : getS (putB L) = none := by
  have hs := scn_put (L := L) (T := putB L) (putB L).length (Nat.le_refl _) (List.take_length).symm 64 (by omega) (Nat.le_refl _) (posO_le L 64)
  refine hs.fail ?_ (.inr (resO_length L 64))
  obtain ⟨x, hx⟩ : ∃ x, L[64]? = some x := ⟨L[64], List.getElem?_eq_getElem _⟩
  have h1 := posO_succ hx
  have h2 := posO_le L (64 + 1)
  have hb := eights_bd x.data.length
  omega
/-- cut within the last one -/
theorem back_cut {L : List Opt} {n q : Nat} {x : Opt} (hn : L.length = n + 1) (h64 : n + 1 ≤ 64) (hx : L[n]? = some x) (hq : q < (putB L).length) (hq2 : posO L n < q) : getS ((putB L).take q) = none := by
  have hs := scn_put (L := L) (T := (putB L).take q) q (by omega) rfl n (by omega) (by omega) (by omega)
  have hl : ((putB L).take q).length = q := by rw [List.length_take]; omega
  have h1 := posO_succ hx
  have h2 : posO L (n + 1) = (putB L).length := by rw [← hn, posO_all]
  refine hs.fail (by omega) (.inl ?_)
  have hb := eights_bd x.data.length
  unfold nextO
  by_cases hc : posO L n + 1 < q
  · have e : ((putB L).take q).getD (posO L n + 1) 0 = eightsO x.data.length := by
      rw [List.getD_eq_getElem?_getD, List.getElem?_take_of_lt hc, put_get hx (by omega)]; rfl
    rw [e, if_neg (by omega)]
  · rw [if_neg (by omega)]
theorem put_256 {L : List Opt} (h : ∀ x ∈ L, x.kind < 256 ∧ ∀ y ∈ x.data, y < 256) : ∀ y ∈ putB L, y < 256 := by
  intro y hy
  unfold putB at hy
  obtain ⟨x, hx, hyx⟩ := List.mem_flatMap.1 hy
  have h1 := h x hx
  have hb := eights_bd x.data.length
  unfold optB at hyx
  simp only [List.mem_append, List.mem_cons, List.not_mem_nil, or_false] at hyx
  rcases hyx with ((rfl | rfl) | hyx) | hyx
  · exact h1.1
  · omega
  · exact h1.2 y (List.mem_of_mem_take hyx)
  · rw [List.eq_of_mem_replicate hyx]; decide
/-- an option's data, as they are got -/
theorem back_data {L : List Opt} {i : Nat} {x : Opt} (h : L[i]? = some x) : ((putB L).drop (posO L i + 2)).take (8 * eightsO x.data.length - 2) = x.data.take 2038 ++ List.replicate (8 * eightsO x.data.length - 2 - min x.data.length 2038) 0 := by
  have hb := eights_bd x.data.length
  apply List.ext_getElem?
  intro k
  by_cases hk : k < 8 * eightsO x.data.length - 2
  · rw [List.getElem?_take_of_lt hk, List.getElem?_drop, show posO L i + 2 + k = posO L i + (k + 2) by omega, put_get h (by omega)]
    unfold optB
    simp
  · rw [List.getElem?_eq_none (by rw [List.length_take]; omega), List.getElem?_eq_none (by simp only [List.length_append, List.length_take, List.length_replicate]; omega)]
end Go.Proofs.YtfolamkjlgpgmaaDoor
