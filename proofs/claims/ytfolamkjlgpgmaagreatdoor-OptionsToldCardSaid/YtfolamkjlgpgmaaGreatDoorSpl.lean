/- A text cut at each such byte, in plain words. No program in sight. -/
import Derived.Lib.CutLaws
import Derived.Lib.Split
import Derived.Lib.SplitLaws
import Derived.Lib.IndexMore
import Derived.Lib.CountLaws
namespace Go.Proofs.YtfolamkjlgpgmaaGreatDoor
set_option linter.unusedVariables false
set_option linter.unusedSimpArgs false
/-- a text, cut at each such byte -/
def spl (c : UInt8) : List UInt8 → List (List UInt8)
  | [] => [[]]
  | x :: s => if x = c then [] :: spl c s else match spl c s with
    | [] => [[x]]
    | p :: ps => (x :: p) :: ps
theorem spl_ne (c : UInt8) : ∀ s, spl c s ≠ []
  | [] => by unfold spl; simp
  | x :: s => by
    unfold spl
    split
    · simp
    · split <;> simp
theorem spl_clean {c : UInt8} : ∀ {s : List UInt8}, c ∉ s → spl c s = [s]
  | [], _ => rfl
  | x :: s, h => by
    unfold spl
    rw [if_neg (fun e => h (by simp [e])), spl_clean (fun e => h (List.mem_cons_of_mem _ e))]
theorem spl_cut {c : UInt8} : ∀ {p s : List UInt8}, c ∉ p → spl c (p ++ c :: s) = p :: spl c s
  | [], s, _ => by
    rw [List.nil_append]
    rw [spl, if_pos rfl]
  | x :: p, s, h => by
    rw [List.cons_append, spl, if_neg (fun e => h (by simp [e])), spl_cut (fun e => h (List.mem_cons_of_mem _ e))]
theorem spl_mem {c : UInt8} : ∀ {s p : List UInt8}, p ∈ spl c s → c ∉ p ∧ ∀ x ∈ p, x ∈ s
  | [], p, h => by
    simp only [spl, List.mem_singleton] at h
    subst h; simp
  | x :: s, p, h => by
    unfold spl at h
    split at h
    · rcases List.mem_cons.1 h with rfl | h
      · simp
      · exact ⟨(spl_mem h).1, fun y hy => List.mem_cons_of_mem _ ((spl_mem h).2 y hy)⟩
    · rename_i hx
      split at h
      · rename_i e; exact absurd e (spl_ne c s)
      · rename_i q qs e
        rcases List.mem_cons.1 h with rfl | h
        · obtain ⟨h1, h2⟩ := spl_mem (p := q) (by rw [e]; exact List.mem_cons_self ..)
          refine ⟨fun h3 => ?_, fun y hy => ?_⟩
          · rcases List.mem_cons.1 h3 with h3 | h3
            · exact hx h3.symm
            · exact h1 h3
          · rcases List.mem_cons.1 hy with rfl | hy
            · exact List.mem_cons_self ..
            · exact List.mem_cons_of_mem _ (h2 y hy)
        · obtain ⟨h1, h2⟩ := spl_mem (p := p) (by rw [e]; exact List.mem_cons_of_mem _ h)
          exact ⟨h1, fun y hy => List.mem_cons_of_mem _ (h2 y hy)⟩
theorem spl_length (c : UInt8) : ∀ s : List UInt8, (spl c s).length ≤ s.length + 1
  | [] => by simp [spl]
  | x :: s => by
    have := spl_length c s
    unfold spl
    split
    · simp only [List.length_cons]; omega
    · split
      · simp
      · rename_i e; rw [e] at this; simp only [List.length_cons] at this ⊢; omega
theorem spl_piece {c : UInt8} : ∀ {s p : List UInt8}, p ∈ spl c s → p.length ≤ s.length
  | [], p, h => by
    simp only [spl, List.mem_singleton] at h
    subst h; simp
  | x :: s, p, h => by
    unfold spl at h
    split at h
    · rcases List.mem_cons.1 h with rfl | h
      · simp
      · have := spl_piece h; simp only [List.length_cons]; omega
    · split at h
      · rename_i e; exact absurd e (spl_ne c s)
      · rename_i q qs e
        rcases List.mem_cons.1 h with rfl | h
        · have := spl_piece (p := q) (by rw [e]; exact List.mem_cons_self ..)
          simp only [List.length_cons]; omega
        · have := spl_piece (p := p) (by rw [e]; exact List.mem_cons_of_mem _ h)
          simp only [List.length_cons]; omega

/-- the first such byte parts a text -/
theorem part_first (c : UInt8) : ∀ s : List UInt8, c ∈ s → ∃ p t, s = p ++ c :: t ∧ c ∉ p
  | [], h => by cases h
  | x :: s, h => by
    by_cases hx : x = c
    · subst hx; exact ⟨[], s, rfl, by simp⟩
    · obtain ⟨p, t, rfl, hp⟩ := part_first c s (by rcases List.mem_cons.1 h with h | h; exact absurd h.symm hx; exact h)
      refine ⟨x :: p, t, rfl, fun h => ?_⟩
      rcases List.mem_cons.1 h with h | h
      · exact hx h.symm
      · exact hp h
theorem index_clean {c : UInt8} {s : List UInt8} (h : c ∉ s) : Lib.index s [c] = -1 := by
  rw [Lib.index_one]
  rcases Int.lt_or_le (Lib.indexByte s c) 0 with h1 | h1
  · have : -1 ≤ Lib.indexByte s c := by rw [← Lib.index_one]; exact Lib.index_ge ..
    omega
  · obtain ⟨o, ho⟩ := Int.eq_ofNat_of_zero_le h1
    exact absurd (List.mem_of_getElem? (Lib.indexByte_some ho).1) h
theorem index_cut {c : UInt8} {p t : List UInt8} (h : c ∉ p) : Lib.index (p ++ c :: t) [c] = p.length := by
  refine Lib.index_first (by simp) (by simp [Lib.occAt]) (fun j hj => ?_)
  cases e : Lib.occAt (p ++ c :: t) [c] j with
  | false => rfl
  | true =>
    have := Lib.occAt_head rfl e
    rw [List.getElem?_append_left hj] at this
    exact absurd (List.mem_of_getElem? this) h
theorem contains_one (c : UInt8) (s : List UInt8) : decide (0 ≤ Lib.indexByte s c) = s.contains c := by
  by_cases h : c ∈ s
  · obtain ⟨p, t, rfl, hp⟩ := part_first c s h
    have := index_cut (t := t) hp
    rw [Lib.index_one] at this
    rw [this]; simp
  · have := index_clean h
    rw [Lib.index_one] at this
    rw [this]; simp [h]
theorem split_spl (c : UInt8) : ∀ (n : Nat) (s : List UInt8), s.length ≤ n → Lib.splitK [c] 0 (Lib.count s [c]) s = spl c s ∧ (spl c s).length = Lib.count s [c] + 1
  | n, s, h => by
    by_cases hc : c ∈ s
    · obtain ⟨p, t, rfl, hp⟩ := part_first c s hc
      have hi : Lib.index (p ++ c :: t) [c] = p.length := index_cut hp
      have hd : (p ++ c :: t).drop (p.length + [c].length) = t := by
        rw [List.length_singleton, List.drop_append]; simp
      have hk : Lib.count (p ++ c :: t) [c] = Lib.count t [c] + 1 := by
        rw [Lib.count_hit (by simp) hi, hd]; omega
      match n, h with
      | 0, h => simp at h
      | n + 1, h =>
        obtain ⟨h1, h2⟩ := split_spl c n t (by simp only [List.length_append, List.length_cons] at h; omega)
        refine ⟨?_, ?_⟩
        · rw [hk]
          unfold Lib.splitK
          rw [hi, if_neg (by simp), spl_cut hp, Int.toNat_natCast, hd, h1]
          simp
        · rw [spl_cut hp, hk, List.length_cons, h2]
    · have hi := index_clean hc
      rw [Lib.count_miss hi, spl_clean hc]
      exact ⟨rfl, rfl⟩
end Go.Proofs.YtfolamkjlgpgmaaGreatDoor
