/- Parts of one datagram come to a pool, in whatever order: what the pool is then. No program in sight. No condition. -/
import Derived.Test.YtjldcblklbikaaaFQ
import Derived.Test.YtjldcblklbikaaaPlainP
namespace Go.Proofs.Ytjldcblklbikaaa
set_option linter.unusedVariables false
set_option linter.unusedSimpArgs false
theorem pick_snoc {x y : Pk} {L : List Pk} {ks : List Nat} {j : Nat} (hy : L[j]? = some y) : pick x L (ks ++ [j]) = pick x L ks ++ [y] := by
  unfold pick
  rw [List.map_append, List.map_cons, List.map_nil, List.getD_eq_getElem?_getD, hy]; rfl
theorem nodup_snoc {ks : List Nat} {j : Nat} (nd : ks.Nodup) (hj : j ∉ ks) : (ks ++ [j]).Nodup := by
  rw [List.nodup_append]
  refine ⟨nd, (by simp), fun a ha b hb => ?_⟩
  rw [List.mem_singleton] at hb
  rintro rfl
  exact hj (hb ▸ ha)
theorem FirstS.nil {x : Pk} {r : Option Nat} (h : FirstS [] x r) : r = none := by
  cases r with
  | none => rfl
  | some k => obtain ⟨d, hd, _⟩ := h; simp at hd
theorem FirstS.one {x : Pk} {d : Ds} {r : Option Nat} (h : FirstS [d] x r) (hd : Ds.has x d = true) : r = some 0 := by
  cases r with
  | none => have := h d List.mem_cons_self; rw [hd] at this; cases this
  | some k =>
    obtain ⟨e, he, _⟩ := h
    cases k with
    | zero => rfl
    | succ k => simp at he
/-- one datagram's state, these parts had come -/
def StW (x : Pk) (L : List Pk) (ks : List Nat) (S : List Ds) : Prop := (ks = [] ∧ S = []) ∨ (ks ≠ [] ∧ ∃ o, S = [⟨x.src, x.dst, 5, o, false, pick x L ks⟩])
theorem put_cases {x y : Pk} {at_ : Nat → Nat} {L : List Pk} (h : CutOf x at_ L) (hfz : x.is = false ∧ x.id = 0 ∧ x.off = 0 ∧ x.more = false) {ks : List Nat} (nd : ks.Nodup) (hk : ∀ k ∈ ks, k < L.length) (hlt : ks.length < L.length) {j : Nat} (hy : L[j]? = some y)
    {o : Nat} {S S' : List Ds} {out : Option Pk} {dr : Bool} (hS : S = [⟨x.src, x.dst, 5, o, false, pick x L ks⟩]) (hp : PutS y S 0 ⟨x.src, x.dst, 5, o, false, pick x L ks⟩ S' out dr) :
    dr = false ∧ ((j ∈ ks ∧ S' = S ∧ out = none) ∨ (j ∉ ks ∧ ks.length + 1 < L.length ∧ StW x L (ks ++ [j]) S' ∧ out = none) ∨ (j ∉ ks ∧ ks.length + 1 = L.length ∧ S' = [] ∧ out = some x)) := by
  have hj := judge_pick h nd hk hy
  have hjl : j < L.length := (List.getElem?_eq_some_iff.1 hy).1
  by_cases hm : j ∈ ks
  · rw [if_pos hm] at hj
    rcases hp with ⟨_, h1, h2, h3⟩ | ⟨h0, _⟩ | ⟨h0, _⟩ | ⟨h0, _⟩
    · exact ⟨h3, .inl ⟨hm, h1, h2⟩⟩
    · have h0' : judgeN (pick x L ks) y = 2 := h0
      omega
    · have h0' : judgeN (pick x L ks) y = 0 := h0
      omega
    · have h0' : judgeN (pick x L ks) y = 0 := h0
      omega
  · rw [if_neg hm] at hj
    have nd2 := nodup_snoc nd hm
    have hk2 : ∀ k ∈ ks ++ [j], k < L.length := fun k hk' => by
      rcases List.mem_append.1 hk' with h1 | h1
      · exact hk k h1
      · rw [List.mem_singleton] at h1; omega
    have hw := whole_iff h nd2 hk2
    rw [pick_snoc hy, List.length_append, List.length_singleton] at hw
    rcases hp with ⟨h0, _⟩ | ⟨h0, _⟩ | ⟨_, hno, h1, h2, h3⟩ | ⟨_, hyes, h1, ⟨l, hl1, hl2, hl3, hl4⟩, h3⟩
    · have h0' : judgeN (pick x L ks) y = 1 := h0
      omega
    · have h0' : judgeN (pick x L ks) y = 2 := h0
      omega
    · have hne : ¬ ks.length + 1 = L.length := fun e => hno (hw.2 e)
      refine ⟨h3, .inr (.inl ⟨hm, by omega, .inr ⟨by simp, o, ?_⟩, h2⟩)⟩
      rw [h1, hS, pick_snoc hy]; rfl
    · have he := hw.1 hyes
      have hj2 := join_all (l := l) h hfz nd2 hk2 (by rw [List.length_append, List.length_singleton]; exact he) (by rw [pick_snoc hy]; exact hl1) hl2
      exact ⟨h3, .inr (.inr ⟨hm, he, by rw [h1, hS]; rfl, by rw [hl3, hj2]⟩)⟩
theorem whole_step {x y : Pk} {at_ : Nat → Nat} {L : List Pk} (h : CutOf x at_ L) (hx4 : x.body.length ≤ 4000) (hfz : x.is = false ∧ x.id = 0 ∧ x.off = 0 ∧ x.more = false) {ks : List Nat} (nd : ks.Nodup) (hk : ∀ k ∈ ks, k < L.length) (hlt : ks.length < L.length) {j : Nat} (hy : L[j]? = some y)
    {now : Nat} {S S' : List Ds} {out : Option Pk} {dr : Bool} (hS : StW x L ks S) (ha : AddS now y S S' out dr) :
    dr = false ∧ ((j ∈ ks ∧ S' = S ∧ out = none) ∨ (j ∉ ks ∧ ks.length + 1 < L.length ∧ StW x L (ks ++ [j]) S' ∧ out = none) ∨ (j ∉ ks ∧ ks.length + 1 = L.length ∧ S' = [] ∧ out = some x)) := by
  obtain ⟨_, _, _, _, his, hid, _⟩ := h.at' hy
  have hmay := h.may hx4 hy
  have hpart := h.part j y hy
  have hsrc : y.src = x.src := by rw [hpart]
  have hdst : y.dst = x.dst := by rw [hpart]
  have hhas : ∀ o L', Ds.has y ⟨x.src, x.dst, 5, o, false, L'⟩ = true := fun o L' => by simp [Ds.has, hsrc, hdst, hid]
  rcases hS with ⟨rfl, rfl⟩ | ⟨hne, o, rfl⟩
  · rcases ha with ⟨h0, _⟩ | ⟨_, h0, _⟩ | ⟨_, _, ⟨k, d, hf, _⟩, _⟩ | ⟨_, _, _, h4, _⟩ | ⟨_, _, k, d, hf, _⟩ | ⟨_, _, hf, _, hp⟩
    · rw [his] at h0; cases h0
    · rw [hmay] at h0; cases h0
    · have := hf.nil; cases this
    · simp at h4
    · have := hf.nil; cases this
    · have e : freshS now y = ⟨x.src, x.dst, 5, addU now 60000, false, pick x L []⟩ := by unfold freshS; rw [hsrc, hdst, hid]; rfl
      rw [e] at hp
      have := put_cases h hfz nd hk hlt hy (S := [] ++ [⟨x.src, x.dst, 5, addU now 60000, false, pick x L []⟩]) rfl hp
      refine ⟨this.1, ?_⟩
      rcases this.2 with ⟨h1, _⟩ | h1 | h1
      · cases h1
      · exact .inr (.inl h1)
      · exact .inr (.inr h1)
  · rcases ha with ⟨h0, _⟩ | ⟨_, h0, _⟩ | ⟨_, _, ⟨k, d, hf, hd, hb⟩, _⟩ | ⟨_, _, hf, _⟩ | ⟨_, _, k, d, hf, hd, hb, hp⟩ | ⟨_, _, hf, _⟩
    · rw [his] at h0; cases h0
    · rw [hmay] at h0; cases h0
    · have e := hf.one (hhas o _)
      cases e
      simp at hd
      rw [← hd] at hb; cases hb
    · have e := hf.one (hhas o _)
      cases e
    · have e := hf.one (hhas o _)
      cases e
      simp at hd
      rw [← hd] at hp
      exact put_cases h hfz nd hk hlt hy rfl hp
    · have e := hf.one (hhas o _)
      cases e
end Go.Proofs.Ytjldcblklbikaaa
