/- The plain law behind BucketsBound: what is taken in a stretch of times is bounded by the burst and the rate. No condition. -/
import Derived.Test.YtmmligongchopaaRef
namespace Go.Proofs.Ytmmligongchopaa
set_option linter.unusedVariables false

/-- the times at which something was taken (L), and the bucket's numbers -/
structure BInv (L : List Nat) (s : Bk) : Prop where
  d : s.d ≤ s.m
  pot : ∀ k, k < L.length → s.d + 1000 * (L.length - k) ≤ s.m + s.r * (s.a - L.getD k 0) ∧ L.getD k 0 ≤ s.a
  pair : ∀ i k, k ≤ i → i < L.length → 1000 * (i - k + 1) ≤ s.m + s.r * (L.getD i 0 - L.getD k 0) ∧ L.getD k 0 ≤ L.getD i 0

theorem BInv.nil {s : Bk} (h : s.d ≤ s.m) : BInv [] s := ⟨h, fun k hk => by simp at hk, fun i k _ hi => by simp at hi⟩

theorem fill_bd {s : Bk} {n : Nat} (hd : s.d ≤ s.m) (ha : s.a ≤ n) :
    (s.fill n).d ≤ s.d + s.r * (n - s.a) ∧ (s.fill n).a = n ∧ (s.fill n).m = s.m ∧ (s.fill n).r = s.r ∧ (s.fill n).d ≤ s.m := by
  unfold Bk.fill
  split
  · refine ⟨?_, rfl, rfl, rfl, ?_⟩
    · show s.d + room s.r s.d s.m (n - s.a) ≤ _
      unfold room
      rw [Nat.mul_comm s.r]
      omega
    · show s.d + room s.r s.d s.m (n - s.a) ≤ s.m
      unfold room
      omega
  · exact ⟨by omega, by omega, rfl, rfl, hd⟩

theorem BInv.fill {L : List Nat} {s : Bk} (h : BInv L s) {n : Nat} (ha : s.a ≤ n) : BInv L (s.fill n) := by
  obtain ⟨f1, f2, f3, f4, f5⟩ := fill_bd h.d ha
  refine ⟨by rw [f3]; exact f5, fun k hk => ?_, fun i k hik hi => ?_⟩
  · obtain ⟨p1, p2⟩ := h.pot k hk
    rw [f2, f3, f4]
    have e : s.r * (n - L.getD k 0) = s.r * (n - s.a) + s.r * (s.a - L.getD k 0) := by rw [← Nat.mul_add]; congr 1; omega
    exact ⟨by omega, by omega⟩
  · rw [f3, f4]
    exact h.pair i k hik hi

theorem getD_snoc_lt {L : List Nat} {n k : Nat} (h : k < L.length) : (L ++ [n]).getD k 0 = L.getD k 0 := by
  simp only [List.getD_eq_getElem?_getD, List.getElem?_append_left h]
theorem getD_snoc_eq {L : List Nat} {n : Nat} : (L ++ [n]).getD L.length 0 = n := by
  simp only [List.getD_eq_getElem?_getD, List.getElem?_concat_length, Option.getD_some]

theorem BInv.yes {L : List Nat} {s : Bk} (h : BInv L s) {n : Nat} (ha : s.a ≤ n) (hok : s.ok n = true) : BInv (L ++ [n]) (s.take n) := by
  have hf := h.fill ha
  obtain ⟨f1, f2, f3, f4, f5⟩ := fill_bd h.d ha
  rw [Bk.ok_eq, decide_eq_true_eq] at hok
  have td : (s.take n).d = (s.fill n).d - 1000 := by rw [Bk.take_d, if_pos hok]
  have ta : (s.take n).a = n := by rw [Bk.take_a, f2]
  have tm := Bk.take_m s n
  have tr := Bk.take_r s n
  refine ⟨by rw [td, tm]; omega, fun k hk => ?_, fun i k hik hi => ?_⟩
  · rw [List.length_append, List.length_singleton] at hk ⊢
    rw [td, ta, tm, tr]
    rcases Nat.lt_or_ge k L.length with hlt | hge
    · rw [getD_snoc_lt hlt]
      obtain ⟨p1, p2⟩ := hf.pot k hlt
      rw [f2, f3, f4] at p1
      rw [f2] at p2
      exact ⟨by omega, p2⟩
    · obtain rfl : k = L.length := by omega
      rw [getD_snoc_eq]
      exact ⟨by omega, Nat.le_refl _⟩
  · rw [List.length_append, List.length_singleton] at hi
    rw [tm, tr]
    rcases Nat.lt_or_ge i L.length with hlt | hge
    · rw [getD_snoc_lt hlt, getD_snoc_lt (by omega)]
      exact h.pair i k hik hlt
    · obtain rfl : i = L.length := by omega
      rw [getD_snoc_eq]
      rcases Nat.lt_or_ge k L.length with hlt | hge
      · rw [getD_snoc_lt hlt]
        obtain ⟨p1, p2⟩ := hf.pot k hlt
        rw [f2, f3, f4] at p1
        rw [f2] at p2
        exact ⟨by omega, p2⟩
      · obtain rfl : k = L.length := by omega
        rw [getD_snoc_eq]
        exact ⟨by omega, Nat.le_refl _⟩

theorem BInv.no {L : List Nat} {s : Bk} (h : BInv L s) {n : Nat} (ha : s.a ≤ n) (hok : s.ok n = false) : BInv L (s.take n) := by
  have e : s.take n = s.fill n := by unfold Bk.take; rw [if_neg (by rw [hok]; simp)]
  rw [e]
  exact h.fill ha

theorem take_at_eq {s : Bk} {n : Nat} (ha : s.a ≤ n) : (s.take n).a = n := by
  rw [Bk.take_a]; unfold Bk.fill; split
  · rfl
  · omega

/-- at no rate: no more than the burst -/
theorem BInv.rate0 {L : List Nat} {s : Bk} (h : BInv L s) (hr : s.r = 0) {u : Nat} (hm : s.m = u * 1000) : L.length ≤ u := by
  rcases Nat.eq_zero_or_pos L.length with h0 | h0
  · omega
  · obtain ⟨p1, _⟩ := h.pot 0 h0
    rw [hr] at p1
    omega

/-- long enough: the bucket is full -/
theorem full_take {s : Bk} {n : Nat} (hd : s.d ≤ s.m) (hr : 0 < s.r) (hlt : s.a + s.m + 1000 ≤ n) :
    s.ok n = decide (1000 ≤ s.m) ∧ (1000 ≤ s.m → s.take n = ⟨s.r, s.m - 1000, s.m, n⟩) := by
  have hx : (n - s.a) * 1 ≤ (n - s.a) * s.r := Nat.mul_le_mul_left _ hr
  have e : s.fill n = ⟨s.r, s.m, s.m, n⟩ := by
    unfold Bk.fill
    rw [if_pos (by omega)]
    have : s.d + room s.r s.d s.m (n - s.a) = s.m := by unfold room; omega
    rw [this]
  constructor
  · unfold Bk.ok; rw [e]
  · intro h
    unfold Bk.take Bk.ok
    rw [e, if_pos (decide_eq_true h)]

/-- at the same time again: a thousand each -/
theorem same_take {s : Bk} {n : Nat} (ha : s.a = n) : s.ok n = decide (1000 ≤ s.d) ∧ (1000 ≤ s.d → s.take n = ⟨s.r, s.d - 1000, s.m, n⟩) := by
  have e := fill_not (s := s) (now := n) (by omega)
  refine ⟨by unfold Bk.ok; rw [e], fun h => ?_⟩
  unfold Bk.take Bk.ok
  rw [e, if_pos (decide_eq_true h), ← ha]
end Go.Proofs.Ytmmligongchopaa
