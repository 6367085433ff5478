/- What a part's coming leaves is one thing only, where the parts that are there do not meet; and that stays so. No program in sight. No condition beyond those named. -/
import Derived.Test.YtjldcblklbikaaaFP
import Derived.Test.YtjldcblklbikaaaPlainR
namespace Go.Proofs.Ytjldcblklbikaaa
set_option linter.unusedVariables false
set_option linter.unusedSimpArgs false
/-- the parts of each datagram stand alone -/
def Good (S : List Ds) : Prop := ∀ d ∈ S, Alone d.id d.L
theorem Good.nil : Good [] := fun _ h => absurd h List.not_mem_nil
theorem judge0 {P : List Pk} {x : Pk} (h : judgeN P x = 0) : (∀ a ∈ P, sameB a x = false ∧ clashB a x = false) ∧ P.length ≠ 32 := by
  unfold judgeN at h
  split at h
  · omega
  · rename_i h1
    split at h
    · omega
    · rename_i h2
      simp only [Bool.or_eq_true, decide_eq_true_eq, not_or, Bool.not_eq_true, List.any_eq_false] at h1 h2
      exact ⟨fun a ha => ⟨by simpa using h1 a ha, by simpa using h2.2 a ha⟩, h2.1⟩
theorem Alone.snoc {i : Nat} {P : List Pk} {x : Pk} (h : Alone i P) (hj : judgeN P x = 0) (hm : mayB x = true) (his : x.is = true) (hid : x.id = i) : Alone i (P ++ [x]) where
  may := fun y hy => by
    rcases List.mem_append.1 hy with hy | hy
    · exact h.may y hy
    · rw [List.mem_singleton] at hy; subst hy; exact hm
  is := fun y hy => by
    rcases List.mem_append.1 hy with hy | hy
    · exact h.is y hy
    · rw [List.mem_singleton] at hy; subst hy; exact ⟨his, hid⟩
  two := by
    rw [List.pairwise_append]
    refine ⟨h.two, List.pairwise_singleton _ _, fun a ha b hb => ?_⟩
    rw [List.mem_singleton] at hb; subst hb
    exact (judge0 hj).1 a ha
theorem Good.set {S : List Ds} {k : Nat} {d : Ds} (h : Good S) (hd : Alone d.id d.L) : Good (S.set k d) := fun e he => by
  rcases List.mem_or_eq_of_mem_set he with h1 | h1
  · exact h e h1
  · rw [h1]; exact hd
theorem PutS.good {x : Pk} {S S' : List Ds} {k : Nat} {d : Ds} {out : Option Pk} {dr : Bool} (hS : Good S) (hk : S[k]? = some d) (hx : Ds.has x d = true) (his : x.is = true) (hm : mayB x = true) (h : PutS x S k d S' out dr) : Good S' := by
  have hd := hS d (List.mem_of_getElem? hk)
  have hid : x.id = d.id := by
    unfold Ds.has at hx
    simp only [Bool.and_eq_true, beq_iff_eq] at hx
    exact hx.2.2.symm
  rcases h with ⟨_, e, _⟩ | ⟨_, e, _⟩ | ⟨hj, _, e, _⟩ | ⟨_, _, e, _⟩
  · rw [e]; exact hS
  · rw [e]; exact hS.set (Alone.nil _)
  · rw [e]; exact hS.set (hd.snoc hj hm his hid)
  · rw [e]; exact fun y hy => hS y (List.mem_of_mem_eraseIdx hy)
theorem fresh_has (now : Nat) (x : Pk) : Ds.has x (freshS now x) = true := by simp [Ds.has, freshS]
theorem Good.fresh {S : List Ds} (h : Good S) (now : Nat) (x : Pk) : Good (S ++ [freshS now x]) := fun d hd => by
  rcases List.mem_append.1 hd with hd | hd
  · exact h d hd
  · rw [List.mem_singleton] at hd; subst hd; exact Alone.nil _
theorem FirstS.has {S : List Ds} {x : Pk} {k : Nat} {d : Ds} (h : FirstS S x (some k)) (hd : S[k]? = some d) : Ds.has x d = true := by
  obtain ⟨e, he, h1, _⟩ := h
  rw [hd] at he; cases he; exact h1
theorem AddS.good {now : Nat} {x : Pk} {S S' : List Ds} {out : Option Pk} {dr : Bool} (hS : Good S) (h : AddS now x S S' out dr) : Good S' := by
  rcases h with ⟨_, e, _⟩ | ⟨_, _, h, _⟩ | ⟨_, _, _, e, _⟩ | ⟨_, _, _, _, e, _⟩ | ⟨his, hm, k, d, hf, hd, _, hp⟩ | ⟨his, hm, hf, _, hp⟩
  · rw [e]; exact hS
  · rcases h with ⟨_, e⟩ | ⟨k, d, _, _, e⟩
    · rw [e]; exact hS
    · rw [e]; exact hS.set (Alone.nil _)
  · rw [e]; exact hS
  · rw [e]; exact hS
  · exact PutS.good hS hd (hf.has hd) his hm hp
  · exact PutS.good (hS.fresh now x) (by simp) (fresh_has now x) his hm hp
theorem FirstS.one_of {S : List Ds} {x : Pk} {r s : Option Nat} (h : FirstS S x r) (k : FirstS S x s) : r = s := by
  cases r with
  | none =>
    cases s with
    | none => rfl
    | some j =>
      obtain ⟨d, hd, h1, _⟩ := k
      have := h d (List.mem_of_getElem? hd)
      rw [h1] at this; cases this
  | some i =>
    obtain ⟨d, hd, h1, h2⟩ := h
    cases s with
    | none =>
      have := k d (List.mem_of_getElem? hd)
      rw [h1] at this; cases this
    | some j =>
      obtain ⟨e, he, k1, k2⟩ := k
      rcases Nat.lt_trichotomy i j with hlt | rfl | hlt
      · have := k2 i d hlt hd; rw [h1] at this; cases this
      · rfl
      · have := h2 j e hlt he; rw [k1] at this; cases this
theorem PutS.fun_ {x : Pk} {S S1 S2 : List Ds} {k : Nat} {d : Ds} {o1 o2 : Option Pk} {r1 r2 : Bool} (ha : Alone d.id d.L) (hm : mayB x = true) (his : x.is = true) (hid : x.id = d.id) (h : PutS x S k d S1 o1 r1) (g : PutS x S k d S2 o2 r2) : S1 = S2 ∧ o1 = o2 ∧ r1 = r2 := by
  rcases h with ⟨h1, h2, h3, h4⟩ | ⟨h1, h2, h3, h4⟩ | ⟨h1, h5, h2, h3, h4⟩ | ⟨h1, h5, h2, ⟨l, l1, l2, l3, l4⟩, h4⟩
  · rcases g with ⟨g1, g2, g3, g4⟩ | ⟨g1, _⟩ | ⟨g1, _⟩ | ⟨g1, _⟩
    · subst h2 h3 h4 g2 g3 g4; exact ⟨rfl, rfl, rfl⟩
    · omega
    · omega
    · omega
  · rcases g with ⟨g1, _⟩ | ⟨g1, g2, g3, g4⟩ | ⟨g1, _⟩ | ⟨g1, _⟩
    · omega
    · subst h2 h3 h4 g2 g3 g4; exact ⟨rfl, rfl, rfl⟩
    · omega
    · omega
  · rcases g with ⟨g1, _⟩ | ⟨g1, _⟩ | ⟨g1, g5, g2, g3, g4⟩ | ⟨g1, g5, _⟩
    · omega
    · omega
    · subst h2 h3 h4 g2 g3 g4; exact ⟨rfl, rfl, rfl⟩
    · exact absurd g5 h5
  · rcases g with ⟨g1, _⟩ | ⟨g1, _⟩ | ⟨g1, g5, _⟩ | ⟨g1, g5, g2, ⟨m, m1, m2, m3, m4⟩, g4⟩
    · omega
    · omega
    · exact absurd h5 g5
    · obtain ⟨s, s1, s2⟩ := sort_parts (ha.snoc h1 hm his hid).stand
      have e1 := sorted_eq s1 s2 l1 l2
      have e2 := sorted_eq s1 s2 m1 m2
      rw [e1] at l3; rw [e2] at m3
      subst h2 h4 g2 g4
      exact ⟨rfl, l3.trans m3.symm, rfl⟩
theorem AddS.fun_ {now : Nat} {x : Pk} {S S1 S2 : List Ds} {o1 o2 : Option Pk} {r1 r2 : Bool} (hS : Good S) (h : AddS now x S S1 o1 r1) (g : AddS now x S S2 o2 r2) : S1 = S2 ∧ o1 = o2 ∧ r1 = r2 := by
  have hid : ∀ {d : Ds}, Ds.has x d = true → x.id = d.id := fun {d} hx => by
    unfold Ds.has at hx
    simp only [Bool.and_eq_true, beq_iff_eq] at hx
    exact hx.2.2.symm
  rcases h with ⟨a, h2, h3, h4⟩ | ⟨a, b, h1, h3, h4⟩ | ⟨a, b, ⟨k, d, hf, hd, hbad⟩, h2, h3, h4⟩ | ⟨a, b, hf, hl, h2, h3, h4⟩ | ⟨a, b, k, d, hf, hd, hbad, hp⟩ | ⟨a, b, hf, hl, hp⟩ <;>
  rcases g with ⟨a', g2, g3, g4⟩ | ⟨a', b', g1, g3, g4⟩ | ⟨a', b', ⟨k', d', hf', hd', hbad'⟩, g2, g3, g4⟩ | ⟨a', b', hf', hl', g2, g3, g4⟩ | ⟨a', b', k', d', hf', hd', hbad', hp'⟩ | ⟨a', b', hf', hl', hp'⟩ <;>
  first
  | (exfalso; rw [a] at a'; cases a'; done)
  | (exfalso; rw [b] at b'; cases b'; done)
  | (subst h2 h3 h4 g2 g3 g4; exact ⟨rfl, rfl, rfl⟩)
  | (exfalso; have e := hf.one_of hf'; cases e; done)
  | (exfalso; have e := hf.one_of hf'; cases e; rw [hd] at hd'; cases hd'; rw [hbad] at hbad'; cases hbad'; done)
  | (exfalso; exact hl hl')
  | (exfalso; exact hl' hl)
  | (have e := hf.one_of hf'; cases e; rw [hd] at hd'; cases hd'; exact PutS.fun_ (hS d (List.mem_of_getElem? hd)) b a (hid (hf.has hd)) hp hp')
  | (exact PutS.fun_ (Alone.nil _) b a rfl hp hp')
  | (subst h3 h4 g3 g4
     rcases h1 with ⟨hf, e⟩ | ⟨k, d, hf, hd, e⟩ <;> rcases g1 with ⟨hf', e'⟩ | ⟨k', d', hf', hd', e'⟩
     · rw [e, e']; exact ⟨rfl, rfl, rfl⟩
     · have := hf.one_of hf'; cases this
     · have := hf.one_of hf'; cases this
     · have := hf.one_of hf'; cases this
       rw [hd] at hd'; cases hd'
       rw [e, e']; exact ⟨rfl, rfl, rfl⟩)
/-! ### the time goes on -/
def tickS (now : Nat) (S : List Ds) : List Ds := S.filter fun d => !(decide (d.over ≤ now))
theorem Good.tick {S : List Ds} (h : Good S) (now : Nat) : Good (tickS now S) := fun d hd => h d (List.mem_filter.1 hd).1
/-- the first one that begins at 0: there is one only -/
theorem first_only {i : Nat} {L : List Pk} (h : Alone i L) : ((L.find? fun e => e.off == 0).map fun e => [e]).getD [] = L.filter fun e => e.off == 0 := by
  have hs := h.stand
  clear h
  induction L with
  | nil => rfl
  | cons x L ih =>
    rw [List.pairwise_cons] at hs
    by_cases h0 : x.off = 0
    · rw [List.find?_cons_of_pos (by simpa using h0), List.filter_cons_of_pos (by simpa using h0)]
      have : L.filter (fun e => e.off == 0) = [] := by
        rw [List.filter_eq_nil_iff]
        intro y hy hy0
        have := (hs.1 y hy).1
        unfold frm at this
        simp at hy0
        omega
      rw [this]; rfl
    · rw [List.find?_cons_of_neg (by simpa using h0), List.filter_cons_of_neg (by simpa using h0)]
      exact ih hs.2
end Go.Proofs.Ytjldcblklbikaaa
