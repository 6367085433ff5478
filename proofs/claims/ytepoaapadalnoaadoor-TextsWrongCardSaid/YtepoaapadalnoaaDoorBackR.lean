/- The text of an address: its digits, and its length; in plain words. -/
import Derived.Test.YtepoaapadalnoaaDoorBackQ
namespace Go.Proofs.YtepoaapadalnoaaDoor
set_option linter.unusedVariables false
set_option linter.unusedSimpArgs false
/-- no capital digits, and no needless nought ahead of a group's digits -/
def Fine (s : List UInt8) : Prop := ∀ i c, s[i]? = some c → ((48 ≤ c.toNat ∧ c.toNat ≤ 57 ∨ 97 ≤ c.toNat ∧ c.toNat ≤ 102) ∨ c = 58) ∧ (c = 48 → (i = 0 ∨ s[i - 1]? = some 58) → (i + 1 = s.length ∨ s[i + 1]? = some 58))
theorem spl_pcsG {g : Nat → Nat} (hg : ∀ i, i < 8 → g i < 65536) {f n : Nat} (h : f + n ≤ 8) : ∀ p ∈ spl 58 (Lib.join (pcsG g f n) [58]), p = [] ∨ ∃ i, i < 8 ∧ p = hexS (g i) := fun p hp => by
  by_cases h0 : pcsG g f n = []
  · rw [h0, Lib.join_nil] at hp
    simp only [spl, List.mem_singleton] at hp
    exact .inl hp
  · rw [pcs_spl (pcsG_pcs hg h) h0] at hp
    obtain ⟨i, hi, rfl⟩ := List.mem_map.1 hp
    have := List.mem_range'_1.1 hi
    exact .inr ⟨i, by omega, rfl⟩
theorem spl_put {g : Nat → Nat} (hg : ∀ i, i < 8 → g i < 65536) : ∀ p ∈ spl 58 (putG g), p = [] ∨ ∃ i, i < 8 ∧ p = hexS (g i) := fun q hq => by
  have hl := long_is fun i => g i == 0
  unfold putG at hq
  simp only [] at hq
  generalize longP (fun i => g i == 0) = p at hl hq
  obtain ⟨a, b⟩ := p
  obtain ⟨h1, h2, -⟩ := hl
  replace h1 : a ≤ b := h1
  replace h2 : b ≤ 8 := h2
  simp only [] at hq
  split at hq
  · rw [joinG_pcs] at hq
    exact spl_pcsG hg (by omega) q hq
  · rw [joinG_pcs, joinG_pcs, List.append_assoc] at hq
    rw [show [58, 58] ++ Lib.join (pcsG g b (8 - b)) [58] = 58 :: 58 :: Lib.join (pcsG g b (8 - b)) [58] from rfl] at hq
    rw [spl_append, List.mem_append] at hq
    rcases hq with hq | hq
    · exact spl_pcsG hg (by omega) q hq
    · rw [spl, if_pos rfl] at hq
      rcases List.mem_cons.1 hq with rfl | hq
      · exact .inl rfl
      · exact spl_pcsG hg (by omega) q hq
theorem join_len {L : List (List UInt8)} (h : ∀ p ∈ L, 1 ≤ p.length ∧ p.length ≤ 4) : L.length ≤ (Lib.join L [58]).length + (if L.length = 0 then 0 else 0) ∧ (Lib.join L [58]).length + 1 ≤ 5 * L.length + (if L.length = 0 then 1 else 0) := by
  cases L with
  | nil => simp [Lib.join_nil]
  | cons x r =>
    have h1 : ∀ r : List (List UInt8), (∀ p ∈ r, 1 ≤ p.length ∧ p.length ≤ 4) → r.length ≤ Lib.lens r ∧ Lib.lens r ≤ 4 * r.length := by
      intro r hr
      induction r with
      | nil => simp [Lib.lens]
      | cons y t ih =>
        have h2 := ih fun p hp => hr p (List.mem_cons_of_mem _ hp)
        have h3 := hr y (by simp)
        simp only [Lib.lens, List.map_cons, List.sum_cons, List.length_cons] at h2 ⊢
        omega
    have h2 := h1 (x :: r) h
    rw [Lib.join_length]
    simp only [List.length_cons, List.length_nil] at h2 ⊢
    simp only [Nat.add_one_ne_zero, if_false]
    omega
theorem put_len {g : Nat → Nat} (hg : ∀ i, i < 8 → g i < 65536) : 2 ≤ (putG g).length ∧ (putG g).length ≤ 39 := by
  have hl := long_is fun i => g i == 0
  have hp : ∀ f n, ∀ p ∈ pcsG g f n, 1 ≤ p.length ∧ p.length ≤ 4 := fun f n p hp => by
    obtain ⟨i, hi, rfl⟩ := List.mem_map.1 hp
    exact hex_len (g i)
  have hn : ∀ f n, (pcsG g f n).length = n := fun f n => by simp [pcsG]
  unfold putG
  simp only []
  generalize longP (fun i => g i == 0) = p at hl ⊢
  obtain ⟨a, b⟩ := p
  obtain ⟨h1, h2, -⟩ := hl
  replace h1 : a ≤ b := h1
  replace h2 : b ≤ 8 := h2
  simp only []
  split
  · have := join_len (hp 0 8)
    rw [hn] at this
    simp only [joinG_pcs, Nat.sub_zero] at this ⊢
    simp only [Nat.succ_ne_zero, if_false] at this
    omega
  · have h3 := join_len (hp 0 a)
    have h4 := join_len (hp b (8 - b))
    rw [hn] at h3 h4
    simp only [joinG_pcs, Nat.sub_zero, List.length_append, List.length_cons, List.length_nil] at h3 h4 ⊢
    rename_i hne
    replace hne : a ≠ b := hne
    split at h3 <;> split at h4 <;> omega
theorem put_fine {g : Nat → Nat} (hg : ∀ i, i < 8 → g i < 65536) : Fine (putG g) := by
  have hs := spl_put hg
  have hok : ∀ p ∈ spl 58 (putG g), okP p := fun p hp => by
    rcases hs p hp with rfl | ⟨i, hi, rfl⟩
    · intro h; cases h
    · exact hex_ok (hg i hi)
  intro i c hc
  refine ⟨?_, ?_⟩
  · rcases spl_byte 58 _ c (List.mem_of_getElem? hc) with h | ⟨p, hp, hcp⟩
    · exact .inr h
    · rcases hs p hp with rfl | ⟨j, hj, rfl⟩
      · cases hcp
      · obtain ⟨d, hd, rfl⟩ := hex_mem (hg j hj) _ hcp
        exact .inl (hexF ⟨d, hd⟩).2.2.2
  · rintro rfl hb
    cases i with
    | zero =>
      rcases nought_head (fun p hp => hok p (List.mem_of_mem_head? hp)) hc with h | h
      · left; omega
      · right; simpa using h
    | succ i =>
      rcases hb with hb | hb
      · omega
      · rcases nought_tail _ i (fun p hp => hok p (List.mem_of_mem_tail hp)) hc (by simpa using hb) with h | h
        · left; omega
        · right; exact h
theorem putL_len {a : Nat → Nat} (ha : ∀ i, i < 16 → a i < 256) : 2 ≤ (putL a).length ∧ (putL a).length ≤ 39 := put_len (grp_lt ha)
theorem putL_fine {a : Nat → Nat} (ha : ∀ i, i < 16 → a i < 256) : Fine (putL a) := put_fine (grp_lt ha)
end Go.Proofs.YtepoaapadalnoaaDoor
