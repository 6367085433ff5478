/- The text of an address, read again: in plain words; pieces and what they read as. -/
import Derived.Test.YtepoaapadalnoaaDoorBackP
namespace Go.Proofs.YtepoaapadalnoaaDoor
set_option linter.unusedVariables false
set_option linter.unusedSimpArgs false
/-- pieces of a text: none empty, no colon -/
def Pcs (L : List (List UInt8)) : Prop := ∀ p ∈ L, p ≠ [] ∧ (58 : UInt8) ∉ p
theorem Pcs.tail {x : List UInt8} {L : List (List UInt8)} (h : Pcs (x :: L)) : Pcs L := fun p hp => h p (List.mem_cons_of_mem _ hp)
theorem join_ne {L : List (List UInt8)} (h : Pcs L) (hL : L ≠ []) : Lib.join L [58] ≠ [] := by
  cases L with
  | nil => exact absurd rfl hL
  | cons x r =>
    rw [Lib.join_cons]
    intro e
    exact (h x (by simp)).1 (List.append_eq_nil_iff.1 e).1
theorem pcs_spl {L : List (List UInt8)} (h : Pcs L) (hL : L ≠ []) : spl 58 (Lib.join L [58]) = L := spl_join L hL fun p hp => (h p hp).2
theorem pcs_nocc {L : List (List UInt8)} (h : Pcs L) (j : Nat) : ¬ CC (Lib.join L [58]) j := fun hc => by
  by_cases hL : L = []
  · subst hL; simp [CC, Lib.join_nil] at hc
  · have := cc_nil _ j hc
    rw [pcs_spl h hL] at this
    exact (h [] (List.mem_of_mem_tail this)).1 rfl
theorem pcs_last {L : List (List UInt8)} (h : Pcs L) (j : Nat) (hj : j + 1 = (Lib.join L [58]).length) : (Lib.join L [58])[j]? ≠ some 58 := fun hc => by
  by_cases hL : L = []
  · subst hL; simp [Lib.join_nil] at hj
  · have := last_nil _ j hc hj
    rw [pcs_spl h hL] at this
    exact (h [] (List.mem_of_mem_tail this)).1 rfl
theorem side_pcs {L : List (List UInt8)} (last : Bool) (h : Pcs L) : sideL last (Lib.join L [58]) = sideG last L := by
  unfold sideL
  by_cases hL : L = []
  · subst hL; rfl
  · rw [if_neg (join_ne h hL), pcs_spl h hL]
def eight : Option (List Nat) → Option (List Nat)
  | some l => if l.length = 8 then some l else none
  | none => none
def fewer : Option (List Nat) → Option (List Nat) → Option (List Nat)
  | some l, some m => if l.length + m.length < 8 then some (l ++ List.replicate (8 - (l.length + m.length)) 0 ++ m) else none
  | _, _ => none
theorem getL_plain {L : List (List UInt8)} (h : Pcs L) : getL (Lib.join L [58]) = eight (sideG true L) := by
  unfold getL eight
  rw [cut_none (pcs_nocc h)]
  simp only [Bool.false_eq_true, if_false]
  rw [side_pcs true h]
  rfl
theorem append_at {A B : List UInt8} {j : Nat} (h : j < A.length) : (A ++ B)[j]? = A[j]? := List.getElem?_append_left h
/-- behind pieces two colons are the first two -/
theorem cut_pcs {L : List (List UInt8)} (h : Pcs L) (S : List UInt8) : Lib.cut (Lib.join L [58] ++ 58 :: 58 :: S) [58, 58] = (Lib.join L [58], S, true) := by
  have hc : CC (Lib.join L [58] ++ 58 :: 58 :: S) (Lib.join L [58]).length := by
    refine ⟨?_, ?_⟩
    · rw [List.getElem?_append_right (Nat.le_refl _), Nat.sub_self]; rfl
    · rw [List.getElem?_append_right (by omega), show (Lib.join L [58]).length + 1 - (Lib.join L [58]).length = 1 by omega]; rfl
  rw [cut_some hc]
  · congr 1
    · simp
    · congr 1
      rw [List.drop_append]; simp
  · intro j hj hcc
    by_cases h1 : j + 1 < (Lib.join L [58]).length
    · exact pcs_nocc h j ⟨by rw [← append_at hj]; exact hcc.1, by rw [← append_at h1]; exact hcc.2⟩
    · exact pcs_last h j (by omega) (by rw [← append_at hj]; exact hcc.1)
theorem getL_cut {L M : List (List UInt8)} (h : Pcs L) (hM : Pcs M) : getL (Lib.join L [58] ++ 58 :: 58 :: Lib.join M [58]) = fewer (sideG false L) (sideG true M) := by
  unfold getL fewer
  rw [cut_pcs h]
  simp only [if_true]
  rw [side_pcs false h, side_pcs true hM]
  rfl

theorem hexF : ∀ d : Fin 16, dig (hexD d.1) = some d.1 ∧ hexD d.1 ≠ 58 ∧ (hexD d.1 = 48 → d.1 = 0) ∧ (48 ≤ (hexD d.1).toNat ∧ (hexD d.1).toNat ≤ 57 ∨ 97 ≤ (hexD d.1).toNat ∧ (hexD d.1).toNat ≤ 102) := by decide +kernel
theorem hex_dig {d : Nat} (h : d < 16) : dig (hexD d) = some d := (hexF ⟨d, h⟩).1
theorem hex_mem {n : Nat} (h : n < 65536) : ∀ c ∈ hexS n, ∃ d, d < 16 ∧ c = hexD d := by
  intro c hc
  unfold hexS at hc
  split at hc
  · rename_i h1
    simp only [List.mem_singleton] at hc
    exact ⟨n, h1, hc⟩
  split at hc
  · simp only [List.mem_cons, List.not_mem_nil, or_false] at hc
    rcases hc with rfl | rfl <;> exact ⟨_, by omega, rfl⟩
  split at hc
  · simp only [List.mem_cons, List.not_mem_nil, or_false] at hc
    rcases hc with rfl | rfl | rfl <;> exact ⟨_, by omega, rfl⟩
  · simp only [List.mem_cons, List.not_mem_nil, or_false] at hc
    rcases hc with rfl | rfl | rfl | rfl <;> exact ⟨_, by omega, rfl⟩
theorem hex_len (n : Nat) : 1 ≤ (hexS n).length ∧ (hexS n).length ≤ 4 := by
  unfold hexS
  repeat' split
  all_goals simp
theorem num_hex {n : Nat} (h : n < 65536) : num 16 4 (hexS n) = some n := by
  have e : num 16 4 (hexS n) = numG 16 0 (hexS n) := by
    unfold num
    rw [if_neg]
    have := hex_len n
    rintro (h1 | h1)
    · rw [h1] at this; simp at this
    · omega
  rw [e]
  unfold hexS
  repeat' split
  all_goals
    simp only [numG]
    repeat rw [hex_dig (by omega)]
    simp only []
    repeat rw [if_pos (by omega)]
    congr 1
    omega
theorem hex_ok {n : Nat} (h : n < 65536) : okP (hexS n) := by
  unfold okP hexS
  repeat' split
  all_goals
    intro h1
    simp only [List.head?_cons, Option.some.injEq] at h1
  · rw [h1]
  · have := (hexF ⟨n / 16, by omega⟩).2.2.1 h1; simp only at this; omega
  · have := (hexF ⟨n / 256, by omega⟩).2.2.1 h1; simp only at this; omega
  · have := (hexF ⟨n / 4096, by omega⟩).2.2.1 h1; simp only at this; omega
theorem hex_colon {n : Nat} (h : n < 65536) : (58 : UInt8) ∉ hexS n := fun hc => by
  obtain ⟨d, hd, e⟩ := hex_mem h _ hc
  exact (hexF ⟨d, hd⟩).2.1 e.symm
/-- groups' pieces -/
def pcsG (g : Nat → Nat) (f n : Nat) : List (List UInt8) := (List.range' f n).map fun i => hexS (g i)
theorem pcsG_pcs {g : Nat → Nat} (hg : ∀ i, i < 8 → g i < 65536) {f n : Nat} (h : f + n ≤ 8) : Pcs (pcsG g f n) := fun p hp => by
  obtain ⟨i, hi, rfl⟩ := List.mem_map.1 hp
  have h1 := List.mem_range'_1.1 hi
  have := hex_len (g i)
  refine ⟨fun e => ?_, hex_colon (hg i (by omega))⟩
  rw [e] at this; simp at this
theorem side_map {g : Nat → Nat} (last : Bool) : ∀ (l : List Nat), (∀ i ∈ l, g i < 65536) → sideG last (l.map fun i => hexS (g i)) = some (l.map g)
  | [], _ => rfl
  | i :: l, h => by
    rw [List.map_cons, sideG, num_hex (h i (by simp)), side_map last l (fun j hj => h j (List.mem_cons_of_mem _ hj))]
    rfl
theorem side_pcsG {g : Nat → Nat} (hg : ∀ i, i < 8 → g i < 65536) (last : Bool) {f n : Nat} (h : f + n ≤ 8) : sideG last (pcsG g f n) = some ((List.range' f n).map g) :=
  side_map last _ fun i hi => hg i (by have := List.mem_range'_1.1 hi; omega)
theorem joinG_pcs (g : Nat → Nat) (f t : Nat) : joinG g f t = Lib.join (pcsG g f (t - f)) [58] := rfl
theorem putG_get {g : Nat → Nat} (hg : ∀ i, i < 8 → g i < 65536) : getL (putG g) = some ((List.range' 0 8).map g) := by
  have hl := long_is fun i => g i == 0
  unfold putG
  simp only []
  generalize longP (fun i => g i == 0) = p at hl ⊢
  obtain ⟨a, b⟩ := p
  obtain ⟨h1, h2, h3⟩ := hl
  replace h1 : a ≤ b := h1
  replace h2 : b ≤ 8 := h2
  simp only [] at h3 ⊢
  split
  · rw [joinG_pcs, getL_plain (pcsG_pcs hg (by omega)), side_pcsG hg true (by omega)]
    rfl
  · rename_i hne
    replace hne : a ≠ b := hne
    rw [joinG_pcs, joinG_pcs, List.append_assoc]
    rw [show [58, 58] ++ Lib.join (pcsG g b (8 - b)) [58] = 58 :: 58 :: Lib.join (pcsG g b (8 - b)) [58] from rfl]
    rw [getL_cut (pcsG_pcs hg (by omega)) (pcsG_pcs hg (by omega)), side_pcsG hg false (by omega), side_pcsG hg true (by omega)]
    simp only [fewer, List.length_map, List.length_range']
    rw [if_pos (by omega)]
    congr 1
    have e1 : List.replicate (8 - (a - 0 + (8 - b))) 0 = (List.range' a (b - a)).map g := by
      rw [show 8 - (a - 0 + (8 - b)) = b - a by omega]
      refine (List.eq_replicate_iff.2 ⟨by simp, fun x hx => ?_⟩).symm
      obtain ⟨i, hi, rfl⟩ := List.mem_map.1 hx
      have := List.mem_range'_1.1 hi
      have := h3 i (by omega) (by omega)
      simpa using this
    rw [e1, ← List.map_append, ← List.map_append]
    congr 1
    have r1 : List.range' 0 a ++ List.range' a (b - a) = List.range' 0 b := by
      have := List.range'_append (s := 0) (m := a) (n := b - a) (step := 1)
      rw [Nat.one_mul, Nat.zero_add, show a + (b - a) = b by omega] at this; exact this
    have r2 : List.range' 0 b ++ List.range' b (8 - b) = List.range' 0 8 := by
      have := List.range'_append (s := 0) (m := b) (n := 8 - b) (step := 1)
      rw [Nat.one_mul, Nat.zero_add, show b + (8 - b) = 8 by omega] at this; exact this
    rw [Nat.sub_zero, r1, r2]
theorem adrG_grp {a : Nat → Nat} (ha : ∀ i, i < 16 → a i < 256) : ∀ i, i < 16 → adrG ((List.range' 0 8).map (grp a)) i = a i := fun i hi => by
  have e : ((List.range' 0 8).map (grp a)).getD (i / 2) 0 = grp a (i / 2) := by
    rw [List.getD_eq_getElem?_getD, List.getElem?_map, List.getElem?_range' (by omega)]
    simp
  unfold adrG
  rw [e]
  unfold grp
  split
  · rw [show 2 * (i / 2) = i by omega]
    have := ha (i + 1) (by omega)
    omega
  · rw [show 2 * (i / 2) + 1 = i by omega]
    have := ha i hi
    omega
theorem putL_get {a : Nat → Nat} (ha : ∀ i, i < 16 → a i < 256) : getL (putL a) = some ((List.range' 0 8).map (grp a)) := putG_get (grp_lt ha)
theorem putL_is {a : Nat → Nat} (ha : ∀ i, i < 16 → a i < 256) : isL (putL a) a = true := by
  unfold isL
  rw [putL_get ha]
  exact (adrEq_iff ha (adrG_lt (getL_lt (putL_get ha)).2)).2 fun i hi => (adrG_grp ha i hi).symm
theorem putL_same {a b : Nat → Nat} (ha : ∀ i, i < 16 → a i < 256) (hb : ∀ i, i < 16 → b i < 256) : (putL a = putL b) ↔ adrEq a b = true := by
  rw [adrEq_iff ha hb]
  constructor
  · intro h i hi
    have h1 := putL_get ha
    rw [h, putL_get hb] at h1
    rw [← adrG_grp ha i hi, ← adrG_grp hb i hi, Option.some.inj h1]
  · intro h
    have : ∀ i, i < 8 → grp a i = grp b i := fun i hi => by
      unfold grp; rw [h _ (by omega), h _ (by omega)]
    have h1 := longTo_congr (z := fun i => grp a i == 0) (y := fun i => grp b i == 0) (fun i hi => by simp only [this i hi]) 8 (Nat.le_refl _)
    have hj : ∀ f t, t ≤ 8 → joinG (grp a) f t = joinG (grp b) f t := fun f t ht => by
      unfold joinG
      congr 1
      refine List.map_congr_left fun i hi => ?_
      have := List.mem_range'_1.1 hi
      rw [this |> fun _ => (‹∀ i, i < 8 → grp a i = grp b i› i (by omega))]
    have hl := long_is fun i => grp b i == 0
    unfold putL putG
    rw [show longP (fun i => grp a i == 0) = longP (fun i => grp b i == 0) from h1]
    simp only []
    generalize longP (fun i => grp b i == 0) = p at hl ⊢
    rw [hj 0 8 (by omega), hj 0 p.1 (by omega), hj p.2 8 (by omega)]
end Go.Proofs.YtepoaapadalnoaaDoor
