/- Bytes read as options, in plain words: the kind of each, where its data stand, how many. No program in sight. -/
namespace Go.Proofs.YtfolamkjlgpgmaaDoor
set_option linter.unusedVariables false
/-- the option at a place: its kind, its bytes -/
def nextO (bs : List Nat) (pos : Nat) : Option (Nat × Nat) :=
  if pos + 1 < bs.length ∧ bs.getD (pos + 1) 0 ≠ 0 ∧ pos + 8 * bs.getD (pos + 1) 0 ≤ bs.length then some (bs.getD pos 0, 8 * bs.getD (pos + 1) 0) else none
def scan (bs : List Nat) : Nat → Nat → Nat → Option (List (Nat × Nat × Nat))
  | 0, _, _ => none
  | f + 1, pos, k => if bs.length ≤ pos then some [] else
    match nextO bs pos with
    | none => none
    | some (kd, n) => if k = 64 then none else (scan bs f (pos + n) (k + 1)).map ((kd, pos + 2, n - 2) :: ·)
def getS (bs : List Nat) : Option (List (Nat × Nat × Nat)) := scan bs (bs.length + 1) 0 0
/-- so far -/
def Scn (bs : List Nat) (pos : Nat) (L : List (Nat × Nat × Nat)) : Prop := ∃ f, bs.length < f + pos ∧ getS bs = (scan bs f pos L.length).map (L ++ ·)
theorem Scn.start (bs : List Nat) : Scn bs 0 [] := ⟨bs.length + 1, by omega, by
  unfold getS
  cases scan bs (bs.length + 1) 0 [].length <;> simp_all⟩
theorem nextO_pos {bs : List Nat} {pos kd n : Nat} (h : nextO bs pos = some (kd, n)) : pos + 1 < bs.length ∧ 8 ≤ n ∧ pos + n ≤ bs.length ∧ kd = bs.getD pos 0 ∧ n = 8 * bs.getD (pos + 1) 0 := by
  unfold nextO at h
  split at h
  · rename_i h1
    simp only [Option.some.injEq, Prod.mk.injEq] at h
    omega
  · cases h
theorem Scn.next {bs : List Nat} {pos kd n : Nat} {L : List (Nat × Nat × Nat)} (h : Scn bs pos L) (hp : pos < bs.length) (hn : nextO bs pos = some (kd, n)) (hL : L.length ≠ 64) : Scn bs (pos + n) (L ++ [(kd, pos + 2, n - 2)]) := by
  obtain ⟨f, hf, e⟩ := h
  have h8 := nextO_pos hn
  match f, hf, e with
  | 0, hf, _ => omega
  | f + 1, hf, e =>
    refine ⟨f, by omega, ?_⟩
    rw [e, scan, if_neg (by omega), hn]
    simp only [if_neg hL, List.length_append, List.length_singleton]
    cases scan bs f (pos + n) (L.length + 1) <;> simp
theorem Scn.fail {bs : List Nat} {pos : Nat} {L : List (Nat × Nat × Nat)} (h : Scn bs pos L) (hp : pos < bs.length) (hn : nextO bs pos = none ∨ L.length = 64) : getS bs = none := by
  obtain ⟨f, hf, e⟩ := h
  match f, hf, e with
  | 0, hf, _ => omega
  | f + 1, hf, e =>
    rw [e, scan, if_neg (by omega)]
    cases hx : nextO bs pos with
    | none => rfl
    | some x =>
      obtain ⟨kd, n⟩ := x
      rcases hn with hn | hn
      · rw [hx] at hn; cases hn
      · simp only [if_pos hn]; rfl
theorem Scn.done {bs : List Nat} {pos : Nat} {L : List (Nat × Nat × Nat)} (h : Scn bs pos L) (hq : pos ≤ bs.length) (hp : bs.length ≤ pos) : getS bs = some L := by
  obtain ⟨f, hf, e⟩ := h
  match f, hf, e with
  | 0, hf, _ => omega
  | f + 1, hf, e =>
    rw [e, scan, if_pos hp]
    simp
end Go.Proofs.YtfolamkjlgpgmaaDoor
