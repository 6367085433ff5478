/- Texts that are no address: a strange byte, a group of five digits, eight groups more. In plain words. -/
import Derived.Test.YtepoaapadalnoaaDoorBackQ
namespace Go.Proofs.YtepoaapadalnoaaDoor
set_option linter.unusedVariables false
set_option linter.unusedSimpArgs false
theorem first_of {p : Nat → Prop} : ∀ n, p n → ∃ a, p a ∧ ∀ j, j < a → ¬ p j := by
  intro n
  induction n using Nat.strongRecOn with
  | _ n ih =>
    intro h
    by_cases h1 : ∃ j, j < n ∧ p j
    · obtain ⟨j, hj, hp⟩ := h1; exact ih j hj hp
    · exact ⟨n, h, fun j hj hp => h1 ⟨j, hj, hp⟩⟩
theorem cut_cases (s : List UInt8) : ((∀ j, ¬ CC s j) ∧ Lib.cut s [58, 58] = (s, [], false)) ∨ ∃ a, CC s a ∧ (∀ j, j < a → ¬ CC s j) ∧ Lib.cut s [58, 58] = (s.take a, s.drop (a + 2), true) := by
  by_cases h : ∃ j, CC s j
  · obtain ⟨j, hj⟩ := h
    obtain ⟨a, h1, h2⟩ := first_of j hj
    exact .inr ⟨a, h1, h2, cut_some h1 h2⟩
  · have h1 : ∀ j, ¬ CC s j := fun j hj => h ⟨j, hj⟩
    exact .inl ⟨h1, cut_none h1⟩
theorem cc_split {s : List UInt8} {a : Nat} (h : CC s a) : s = s.take a ++ 58 :: 58 :: s.drop (a + 2) := by
  have h1 : a < s.length := by
    rcases Nat.lt_or_ge a s.length with h1 | h1
    · exact h1
    · have := h.1; rw [List.getElem?_eq_none h1] at this; cases this
  have h2 : a + 1 < s.length := by
    rcases Nat.lt_or_ge (a + 1) s.length with h1 | h1
    · exact h1
    · have := h.2; rw [List.getElem?_eq_none h1] at this; cases this
  have e1 : s[a] = 58 := by have := h.1; rw [List.getElem?_eq_getElem h1] at this; exact Option.some.inj this
  have e2 : s[a + 1] = 58 := by have := h.2; rw [List.getElem?_eq_getElem h2] at this; exact Option.some.inj this
  have d1 := List.drop_eq_getElem_cons h1
  have d2 := List.drop_eq_getElem_cons h2
  rw [e1] at d1; rw [e2] at d2
  calc s = s.take a ++ s.drop a := (List.take_append_drop a s).symm
    _ = s.take a ++ 58 :: 58 :: s.drop (a + 2) := by rw [d1, d2]
theorem getL_no {s : List UInt8} (h1 : (∀ j, ¬ CC s j) → ∀ l, sideL true s = some l → l.length ≠ 8) (h2 : ∀ a, CC s a → (∀ j, j < a → ¬ CC s j) → ∀ l m, sideL false (s.take a) = some l → sideL true (s.drop (a + 2)) = some m → 8 ≤ l.length + m.length) : getL s = none := by
  unfold getL
  rcases cut_cases s with ⟨h, e⟩ | ⟨a, h, hn, e⟩
  · rw [e]
    simp only [Bool.false_eq_true, if_false]
    cases hs : sideL true s with
    | none => rfl
    | some l => simp only [if_neg (h1 h l hs)]
  · rw [e]
    simp only [if_true]
    cases hs : sideL false (s.take a) with
    | none => rfl
    | some l =>
      cases ht : sideL true (s.drop (a + 2)) with
      | none => rfl
      | some m => simp only [if_neg (Nat.not_lt.2 (h2 a h hn l m hs ht))]
theorem decs_no : ∀ (L : List (List UInt8)) (q : List UInt8), q ∈ L → decN q = none → decs L = none
  | [], q, h, _ => by cases h
  | x :: L, q, h, hq => by
    unfold decs
    rcases List.mem_cons.1 h with rfl | h
    · rw [hq]
    · rw [decs_no L q h hq]; cases decN x <;> rfl
theorem decN_no {s : List UInt8} (h : num 10 3 s = none) : decN s = none := by unfold decN; rw [h]
theorem dec4_no {s q : List UInt8} (h : q ∈ spl 46 s) (hq : decN q = none) : dec4 s = none := by
  unfold dec4; rw [decs_no _ q h hq]
theorem dec4_strange {p : List UInt8} {c : UInt8} (hc : c ∈ p) (hd : dig c = none) (h46 : c ≠ 46) : dec4 p = none := by
  rcases spl_byte 46 p c hc with h | ⟨q, h1, h2⟩
  · exact absurd h h46
  · exact dec4_no h1 (decN_no (num_none h2 hd))
theorem sideG_none (last : Bool) : ∀ (L : List (List UInt8)) (p : List UInt8), p ∈ L → num 16 4 p = none → dec4 p = none → sideG last L = none
  | [], p, h, _, _ => by cases h
  | x :: L, p, h, hn, hd => by
    unfold sideG
    rcases List.mem_cons.1 h with rfl | h
    · rw [hn, hd]; simp
    · rw [sideG_none last L p h hn hd]
      cases num 16 4 x with
      | some n => rfl
      | none =>
        cases L with
        | nil => cases h
        | cons y L => simp
theorem sideL_strange (last : Bool) {s : List UInt8} {c : UInt8} (hc : c ∈ s) (hd : dig c = none) (h58 : c ≠ 58) (h46 : c ≠ 46) : sideL last s = none := by
  unfold sideL
  rw [if_neg (by rintro rfl; cases hc)]
  rcases spl_byte 58 s c hc with h | ⟨q, h1, h2⟩
  · exact absurd h h58
  · exact sideG_none last _ q h1 (num_none h2 hd) (dec4_strange h2 hd h46)
/-- a strange byte -/
theorem getL_strange {s : List UInt8} {c : UInt8} (hc : c ∈ s) (hd : dig c = none) (h58 : c ≠ 58) (h46 : c ≠ 46) : getL s = none := by
  refine getL_no (fun _ l h => ?_) (fun a h _ l m hl hm => ?_)
  · rw [sideL_strange true hc hd h58 h46] at h; cases h
  · exfalso
    rw [cc_split h] at hc
    rcases List.mem_append.1 hc with h1 | h1
    · rw [sideL_strange false h1 hd h58 h46] at hl; cases hl
    · rcases List.mem_cons.1 h1 with h1 | h1
      · exact h58 h1
      · rcases List.mem_cons.1 h1 with h1 | h1
        · exact h58 h1
        · rw [sideL_strange true h1 hd h58 h46] at hm; cases hm
theorem sideG_len (last : Bool) : ∀ (L : List (List UInt8)) (r : List Nat), sideG last L = some r → L.length ≤ r.length
  | [], r, h => by simp
  | x :: L, r, h => by
    unfold sideG at h
    split at h
    · cases e : sideG last L with
      | none => rw [e] at h; cases h
      | some t =>
        rw [e] at h
        have := sideG_len last L t e
        cases h
        simp only [List.length_cons]; omega
    · split at h
      · rename_i hl
        simp only [Bool.and_eq_true, List.isEmpty_iff] at hl
        rw [hl.2]
        unfold dec4 at h
        split at h
        · cases h; simp
        · cases h
      · cases h
theorem take_behind {x s : List UInt8} {a : Nat} (h : x.length ≤ a) : (x ++ 58 :: s).take a = x ∨ ∃ t, (x ++ 58 :: s).take a = x ++ 58 :: t := by
  rw [List.take_append, List.take_of_length_le h]
  rcases Nat.eq_zero_or_pos (a - x.length) with h0 | h0
  · left; rw [h0]; simp
  · right
    obtain ⟨k, hk⟩ : ∃ k, a - x.length = k + 1 := ⟨a - x.length - 1, by omega⟩
    rw [hk]
    exact ⟨s.take k, by simp⟩
/-- a first piece that is no group -/
theorem getL_head {x s : List UInt8} (hx : (58 : UInt8) ∉ x) (h0 : x ≠ []) (hn : num 16 4 x = none) : getL (x ++ 58 :: s) = none := by
  have hb : ∀ last r, (last = false ∨ r ≠ []) → sideG last (x :: r) = none := fun last r h => by
    unfold sideG
    rw [hn]
    rcases h with rfl | h
    · rfl
    · cases r with
      | nil => exact absurd rfl h
      | cons y r => simp
  refine getL_no (fun _ l h => ?_) (fun a h _ l m hl hm => ?_)
  · exfalso
    unfold sideL at h
    rw [if_neg (by simp), spl_cut hx, hb true _ (.inr (spl_ne _ _))] at h
    cases h
  · exfalso
    have ha : x.length ≤ a := by
      rcases Nat.lt_or_ge a x.length with h1 | h1
      · exfalso
        have := h.1
        rw [List.getElem?_append_left h1] at this
        exact hx (List.mem_of_getElem? this)
      · exact h1
    unfold sideL at hl
    rcases take_behind (s := s) ha with e | ⟨t, e⟩
    · rw [e, if_neg h0, spl_clean hx, hb false _ (.inl rfl)] at hl; cases hl
    · rw [e, if_neg (by simp), spl_cut hx, hb false _ (.inl rfl)] at hl; cases hl
/-- eight pieces and more -/
theorem getL_many {E : List (List UInt8)} {s : List UInt8} (hE : Pcs E) (h8 : 8 ≤ E.length) : getL (Lib.join E [58] ++ 58 :: s) = none := by
  have hE0 : E ≠ [] := by rintro rfl; simp at h8
  refine getL_no (fun _ l h => ?_) (fun a h _ l m hl hm => ?_)
  · unfold sideL at h
    rw [if_neg (by simp), spl_append, pcs_spl hE hE0] at h
    have h1 := sideG_len true _ _ h
    rw [List.length_append] at h1
    have h2 : 0 < (spl 58 s).length := List.length_pos_iff.2 (spl_ne 58 s)
    omega
  · have ha : (Lib.join E [58]).length ≤ a := by
      rcases Nat.lt_or_ge a (Lib.join E [58]).length with h1 | h1
      · exfalso
        by_cases h2 : a + 1 < (Lib.join E [58]).length
        · exact pcs_nocc hE a ⟨by rw [← append_at h1]; exact h.1, by rw [← append_at h2]; exact h.2⟩
        · exact pcs_last hE a (by omega) (by rw [← append_at h1]; exact h.1)
      · exact h1
    unfold sideL at hl
    rcases take_behind (s := s) ha with e | ⟨t, e⟩
    · rw [e, if_neg (join_ne hE hE0), pcs_spl hE hE0] at hl
      have := sideG_len false _ _ hl
      omega
    · rw [e, if_neg (by simp), spl_append, pcs_spl hE hE0] at hl
      have := sideG_len false _ _ hl
      rw [List.length_append] at this
      omega
theorem wrong_five (s : List UInt8) : getL ([48, 48, 48, 48, 48, 58] ++ s) = none :=
  getL_head (x := [48, 48, 48, 48, 48]) (s := s) (by decide) (by decide) (by decide)
theorem wrong_eight (s : List UInt8) : getL ([49, 58, 50, 58, 51, 58, 52, 58, 53, 58, 54, 58, 55, 58, 56, 58] ++ s) = none := by
  have := getL_many (E := [[49], [50], [51], [52], [53], [54], [55], [56]]) (s := s) (by unfold Pcs; decide) (by decide)
  exact this
theorem wrong_empty : getL [] = none := by decide
/-- the bytes of a rune below 256 -/
theorem strange_rune : ∀ i : Fin 256, ¬ (48 ≤ i.1 ∧ i.1 ≤ 57 ∨ 97 ≤ i.1 ∧ i.1 ≤ 102 ∨ 65 ≤ i.1 ∧ i.1 ≤ 70 ∨ i.1 = 58 ∨ i.1 = 46) → dig (UInt8.ofNat i.1) = none ∧ UInt8.ofNat i.1 ≠ 58 ∧ UInt8.ofNat i.1 ≠ 46 := by decide +kernel
end Go.Proofs.YtepoaapadalnoaaDoor
