/- Several texts in one: GetP, GetQ. No condition beyond those that each part names. -/
/- Bytes read as options, in plain words: the kind of each, where its data stand, how many. No program in sight. -/
namespace Go.Proofs.Ytjldcblklbikaaa
set_option linter.unusedVariables false
/-- the option at a place: its kind, its bytes -/
def nextO (bs : List Nat) (pos : Nat) : Option (Nat × Nat) :=
  if pos + 1 < bs.length ∧ bs.getD (pos + 1) 0 ≠ 0 ∧ pos + 8 * bs.getD (pos + 1) 0 ≤ bs.length then some (bs.getD pos 0, 8 * bs.getD (pos + 1) 0) else none
def scan (bs : List Nat) : Nat → Nat → Nat → Option (List (Nat × Nat × Nat))
  | 0, _, _ => none
  | f + 1, pos, k => if bs.length ≤ pos then some [] else
    match nextO bs pos with
    | none => none
    | some (kd, n) => if k = 64 then none else (scan bs f (pos + n) (k + 1)).map ((kd, pos + 2, n - 2) :: ·)
def getS (bs : List Nat) : Option (List (Nat × Nat × Nat)) := scan bs (bs.length + 1) 0 0
/-- so far -/
def Scn (bs : List Nat) (pos : Nat) (L : List (Nat × Nat × Nat)) : Prop := ∃ f, bs.length < f + pos ∧ getS bs = (scan bs f pos L.length).map (L ++ ·)
theorem Scn.start (bs : List Nat) : Scn bs 0 [] := ⟨bs.length + 1, by omega, by
  unfold getS
  cases scan bs (bs.length + 1) 0 [].length <;> simp_all⟩
theorem nextO_pos {bs : List Nat} {pos kd n : Nat} (h : nextO bs pos = some (kd, n)) : pos + 1 < bs.length ∧ 8 ≤ n ∧ pos + n ≤ bs.length ∧ kd = bs.getD pos 0 ∧ n = 8 * bs.getD (pos + 1) 0 := by
  unfold nextO at h
  split at h
  · rename_i h1
    simp only [Option.some.injEq, Prod.mk.injEq] at h
    omega
  · cases h
theorem Scn.next {bs : List Nat} {pos kd n : Nat} {L : List (Nat × Nat × Nat)} (h : Scn bs pos L) (hp : pos < bs.length) (hn : nextO bs pos = some (kd, n)) (hL : L.length ≠ 64) : Scn bs (pos + n) (L ++ [(kd, pos + 2, n - 2)]) := by
  obtain ⟨f, hf, e⟩ := h
  have h8 := nextO_pos hn
  match f, hf, e with
  | 0, hf, _ => omega
  | f + 1, hf, e =>
    refine ⟨f, by omega, ?_⟩
    rw [e, scan, if_neg (by omega), hn]
    simp only [if_neg hL, List.length_append, List.length_singleton]
    cases scan bs f (pos + n) (L.length + 1) <;> simp
theorem Scn.fail {bs : List Nat} {pos : Nat} {L : List (Nat × Nat × Nat)} (h : Scn bs pos L) (hp : pos < bs.length) (hn : nextO bs pos = none ∨ L.length = 64) : getS bs = none := by
  obtain ⟨f, hf, e⟩ := h
  match f, hf, e with
  | 0, hf, _ => omega
  | f + 1, hf, e =>
    rw [e, scan, if_neg (by omega)]
    cases hx : nextO bs pos with
    | none => rfl
    | some x =>
      obtain ⟨kd, n⟩ := x
      rcases hn with hn | hn
      · rw [hx] at hn; cases hn
      · simp only [if_pos hn]; rfl
theorem Scn.done {bs : List Nat} {pos : Nat} {L : List (Nat × Nat × Nat)} (h : Scn bs pos L) (hq : pos ≤ bs.length) (hp : bs.length ≤ pos) : getS bs = some L := by
  obtain ⟨f, hf, e⟩ := h
  match f, hf, e with
  | 0, hf, _ => omega
  | f + 1, hf, e =>
    rw [e, scan, if_pos hp]
    simp
end Go.Proofs.Ytjldcblklbikaaa

/- What bytes read as options give, in plain words: where the data stand, one behind the other. No program in sight. -/
namespace Go.Proofs.Ytjldcblklbikaaa
set_option linter.unusedVariables false
theorem scan_facts {bs : List Nat} (hb : ∀ x ∈ bs, x < 256) : ∀ f pos k L, scan bs f pos k = some L → k ≤ 64 →
    L.length + k ≤ 64 ∧ (∀ x ∈ L, x.1 < 256 ∧ pos + 2 ≤ x.2.1 ∧ x.2.1 + x.2.2 ≤ bs.length ∧ 6 ≤ x.2.2) ∧ L.Pairwise (fun x y => x.2.1 + x.2.2 ≤ y.2.1) := by
  intro f
  induction f with
  | zero => intro pos k L h; cases h
  | succ f ih =>
    intro pos k L h hk
    rw [scan] at h
    by_cases hp : bs.length ≤ pos
    · rw [if_pos hp] at h
      cases h
      exact ⟨by simpa using hk, by simp, .nil⟩
    · rw [if_neg hp] at h
      cases hx : nextO bs pos with
      | none => rw [hx] at h; cases h
      | some y =>
        obtain ⟨kd, n⟩ := y
        rw [hx] at h
        simp only at h
        have h8 := nextO_pos hx
        by_cases h64 : k = 64
        · rw [if_pos h64] at h; cases h
        · rw [if_neg h64] at h
          cases hs : scan bs f (pos + n) (k + 1) with
          | none => rw [hs] at h; cases h
          | some M =>
            rw [hs] at h
            simp only [Option.map_some, Option.some.injEq] at h
            subst h
            obtain ⟨i1, i2, i3⟩ := ih (pos + n) (k + 1) M hs (by omega)
            refine ⟨by simp only [List.length_cons]; omega, ?_, ?_⟩
            · intro x hm
              rcases List.mem_cons.1 hm with rfl | hm
              · refine ⟨?_, ?_, ?_, ?_⟩
                · show kd < 256
                  rw [h8.2.2.2.1, List.getD_eq_getElem?_getD, List.getElem?_eq_getElem (by omega)]
                  exact hb _ (List.getElem_mem _)
                · show pos + 2 ≤ pos + 2; omega
                · show pos + 2 + (n - 2) ≤ bs.length; omega
                · show 6 ≤ n - 2; omega
              · have := i2 x hm
                refine ⟨this.1, ?_, this.2.2⟩
                omega
            · refine List.pairwise_cons.2 ⟨fun y hy => ?_, i3⟩
              have := (i2 y hy).2.1
              show pos + 2 + (n - 2) ≤ y.2.1
              omega
theorem getS_facts {bs : List Nat} {L : List (Nat × Nat × Nat)} (hb : ∀ x ∈ bs, x < 256) (h : getS bs = some L) :
    L.length ≤ 64 ∧ (∀ x ∈ L, x.1 < 256 ∧ 2 ≤ x.2.1 ∧ x.2.1 + x.2.2 ≤ bs.length ∧ 6 ≤ x.2.2) ∧ L.Pairwise (fun x y => x.2.1 + x.2.2 ≤ y.2.1) := by
  obtain ⟨h1, h2, h3⟩ := scan_facts hb _ _ _ _ h (by omega)
  exact ⟨by omega, fun x hx => by have := h2 x hx; exact ⟨this.1, by omega, this.2.2⟩, h3⟩
end Go.Proofs.Ytjldcblklbikaaa
