/- The text of an address, read again: in plain words. -/
import Derived.Test.YtepoaapadalnoaaDoorGetW
namespace Go.Proofs.YtepoaapadalnoaaDoor
set_option linter.unusedVariables false
set_option linter.unusedSimpArgs false
theorem spl_append (c : UInt8) : ∀ A S : List UInt8, spl c (A ++ c :: S) = spl c A ++ spl c S
  | [], S => by simp [spl]
  | x :: A, S => by
    rw [List.cons_append, spl, spl, spl_append c A S]
    split
    · rfl
    · cases h : spl c A with
      | nil => exact absurd h (spl_ne c A)
      | cons p ps => rfl
theorem spl_cons_tail (c x : UInt8) (t : List UInt8) : ∀ p ∈ (spl c t).tail, p ∈ (spl c (x :: t)).tail := by
  intro p hp
  rw [spl]
  split
  · exact List.mem_of_mem_tail hp
  · cases h : spl c t with
    | nil => rw [h] at hp; exact hp
    | cons q qs => rw [h] at hp; exact hp
theorem cc_nil : ∀ (s : List UInt8) (j : Nat), CC s j → [] ∈ (spl 58 s).tail
  | [], j, h => by simp [CC] at h
  | x :: t, 0, h => by
    obtain ⟨h1, h2⟩ := h
    simp only [List.getElem?_cons_zero, Option.some.injEq] at h1
    subst h1
    cases t with
    | nil => simp at h2
    | cons y t =>
      simp only [List.getElem?_cons_succ, List.getElem?_cons_zero, Option.some.injEq, Nat.zero_add] at h2
      subst h2
      simp [spl]
  | x :: t, j + 1, h => spl_cons_tail 58 x t _ (cc_nil t j ⟨by simpa using h.1, by simpa using h.2⟩)
theorem last_nil : ∀ (s : List UInt8) (j : Nat), s[j]? = some 58 → j + 1 = s.length → [] ∈ (spl 58 s).tail
  | [], j, h, _ => by simp at h
  | [x], 0, h, _ => by
    simp only [List.getElem?_cons_zero, Option.some.injEq] at h
    subst h; simp [spl]
  | x :: y :: t, 0, _, hl => by simp at hl
  | x :: t, j + 1, h, hl => spl_cons_tail 58 x t _ (last_nil t j (by simpa using h) (by simpa using hl))
theorem join_cons2 (x y : List UInt8) (r : List (List UInt8)) : Lib.join (x :: y :: r) [58] = x ++ 58 :: Lib.join (y :: r) [58] := by
  rw [Lib.join_cons, Lib.join_cons]; simp [Lib.joinTail]
theorem spl_join : ∀ L : List (List UInt8), L ≠ [] → (∀ p ∈ L, (58 : UInt8) ∉ p) → spl 58 (Lib.join L [58]) = L
  | [], h, _ => absurd rfl h
  | [x], _, h => by rw [Lib.join_one, spl_clean (h x (by simp))]
  | x :: y :: r, _, h => by
    rw [join_cons2, spl_cut (h x (by simp)), spl_join (y :: r) (by simp) (fun p hp => h p (List.mem_cons_of_mem _ hp))]
theorem spl_byte (c : UInt8) : ∀ (s : List UInt8) (x : UInt8), x ∈ s → x = c ∨ ∃ p ∈ spl c s, x ∈ p
  | [], x, h => by cases h
  | y :: t, x, h => by
    by_cases hx : x = c
    · exact .inl hx
    right
    rw [spl]
    rcases List.mem_cons.1 h with rfl | h
    · rw [if_neg hx]
      cases hs : spl c t with
      | nil => exact ⟨[x], by simp, by simp⟩
      | cons p ps => exact ⟨x :: p, by simp, by simp⟩
    · rcases spl_byte c t x h with h1 | ⟨p, h1, h2⟩
      · exact absurd h1 hx
      · split
        · exact ⟨p, by simp [h1], h2⟩
        · cases hs : spl c t with
          | nil => rw [hs] at h1; cases h1
          | cons q qs =>
            rw [hs] at h1
            rcases List.mem_cons.1 h1 with rfl | h1
            · exact ⟨y :: p, by simp, by simp [h2]⟩
            · exact ⟨p, by simp [h1], h2⟩
/-- no needless nought ahead of a piece's digits -/
def okP (p : List UInt8) : Prop := p.head? = some 48 → p = [48]
theorem nought_head {s : List UInt8} (h : ∀ p, (spl 58 s).head? = some p → okP p) (h0 : s[0]? = some 48) : s.length = 1 ∨ s[1]? = some 58 := by
  cases s with
  | nil => simp at h0
  | cons x t =>
    simp only [List.getElem?_cons_zero, Option.some.injEq] at h0
    subst h0
    cases t with
    | nil => left; rfl
    | cons y t =>
      right
      by_cases hy : y = 58
      · subst hy; rfl
      · exfalso
        have h1 : ∃ q qs, spl 58 (48 :: y :: t) = (48 :: y :: q) :: qs := by
          rw [spl, if_neg (by decide), spl, if_neg hy]
          cases hs : spl 58 t with
          | nil => exact ⟨[], [], rfl⟩
          | cons p ps => exact ⟨p, ps, rfl⟩
        obtain ⟨q, qs, e⟩ := h1
        have := h (48 :: y :: q) (by rw [e]; rfl) rfl
        cases this
theorem nought_tail : ∀ (s : List UInt8) (i : Nat), (∀ p ∈ (spl 58 s).tail, okP p) → s[i + 1]? = some 48 → s[i]? = some 58 → i + 2 = s.length ∨ s[i + 2]? = some 58
  | [], i, _, h, _ => by simp at h
  | x :: t, 0, hp, h1, h0 => by
    simp only [List.getElem?_cons_zero, Option.some.injEq] at h0
    subst h0
    have h1' : t[0]? = some 48 := by simpa using h1
    have hh : ∀ p, (spl 58 t).head? = some p → okP p := fun p hq => hp p (by
      rw [spl, if_pos rfl]
      exact List.mem_of_mem_head? hq)
    rcases nought_head hh h1' with h | h
    · left; simp [h]
    · right; simpa using h
  | x :: t, i + 1, hp, h1, h0 => by
    have := nought_tail t i (fun p hq => hp p (spl_cons_tail 58 x t p hq)) (by simpa using h1) (by simpa using h0)
    rcases this with h | h
    · left; simp; omega
    · right; simpa using h
end Go.Proofs.YtepoaapadalnoaaDoor
