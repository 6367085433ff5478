/- The document's list and the map tell the same, whatever is learnt, and as time goes on. Plain. -/
import Derived.Test.YtkhbchgocilclaaPlayP
namespace Go.Proofs.Ytkhbchgocilclaa
open Go.RowKit
set_option linter.unusedVariables false
structure Rel (D : PD) (L : List Ent) : Prop where
  up : Up L
  all : ∀ kl, Maps.has D kl = true → ∃ e ∈ L, kl = .string e.1.1
  old : ∀ e ∈ L, Maps.has D (.string e.1.1) = true ∧ untilAt D e.1.1 = e.2
theorem rel_empty : Rel (.map []) [] := ⟨List.Pairwise.nil, fun kl h => by simp [Maps.has_eq] at h, fun e h => by cases h⟩
theorem Up.inj {L : List Ent} (h : Up L) {a b : Ent} (ha : a ∈ L) (hb : b ∈ L) (e : numK a.1 = numK b.1) : a = b := by
  obtain ⟨i, hi⟩ := List.getElem?_of_mem ha
  obtain ⟨j, hj⟩ := List.getElem?_of_mem hb
  obtain ⟨hi1, hi2⟩ := List.getElem?_eq_some_iff.1 hi
  obtain ⟨hj1, hj2⟩ := List.getElem?_eq_some_iff.1 hj
  have key := List.pairwise_iff_getElem.1 h
  rcases Nat.lt_trichotomy i j with q | q | q
  · have := key i j hi1 hj1 q; rw [hi2, hj2] at this; omega
  · subst q; rw [← hi2, ← hj2]
  · have := key j i hj1 hi1 q; rw [hi2, hj2] at this; omega
theorem Up.keys_nodup {L : List Ent} (h : Up L) : (L.map fun e => (Lit.string e.1.1)).Nodup := by
  rw [List.nodup_iff_pairwise_ne, List.pairwise_map]
  refine h.imp fun {a b} hab e => ?_
  injection e with e
  have : a.1 = b.1 := Subtype.ext e
  rw [this] at hab; omega
theorem Rel.size {D : PD} {L : List Ent} (h : Rel D L) (hT : Maps.Canon D) : Maps.size D = L.length := by
  obtain ⟨es, rfl, hr, hkl⟩ := hT
  have hp := Maps.apart_of_rising hr
  have h1 : (es.map (·.1)).Nodup := by rw [List.nodup_iff_pairwise_ne, List.pairwise_map]; exact hp
  have key : (es.map (·.1)).Perm (L.map fun e => (Lit.string e.1.1)) := by
    refine (List.perm_ext_iff_of_nodup h1 h.up.keys_nodup).2 fun kl => ?_
    constructor
    · intro hm
      obtain ⟨p, hp1, rfl⟩ := List.mem_map.1 hm
      obtain ⟨e, he, e1⟩ := h.all p.1 (by rw [Maps.has_eq]; exact List.any_eq_true.2 ⟨p, hp1, WideAt.sameKey_self (hkl p hp1)⟩)
      exact List.mem_map.2 ⟨e, he, e1.symm⟩
    · intro hm
      obtain ⟨e, he, rfl⟩ := List.mem_map.1 hm
      have := (h.old e he).1
      rw [Maps.has_eq] at this
      obtain ⟨p, hp1, hp2⟩ := List.any_eq_true.1 this
      exact List.mem_map.2 ⟨p, hp1, (WideAt.sameKey_eq hp2)⟩
  have := key.length_eq
  simpa [Maps.size] using this
theorem pk_lit (i : Info) : (.string i.pk.1 : Lit) = i.key := rfl
theorem lit_num {x y : PKey} : (Lit.string x.1 = Lit.string y.1) ↔ numK x = numK y := by
  constructor
  · intro e; injection e with e; rw [show x = y from Subtype.ext e]
  · intro e; rw [numK_inj e]
theorem any_num (L : List Ent) (y : PKey) : (L.any fun e => decide (numK e.1 = numK y)) = true ↔ ∃ e ∈ L, numK e.1 = numK y := by
  simp [List.any_eq_true]
theorem Rel.has_iff {D : PD} {L : List Ent} (h : Rel D L) (y : PKey) : Maps.has D (.string y.1) = L.any fun e => decide (numK e.1 = numK y) := by
  rw [Bool.eq_iff_iff, any_num]
  constructor
  · intro hh
    obtain ⟨e, he, e1⟩ := h.all _ hh
    exact ⟨e, he, (lit_num.1 e1).symm⟩
  · rintro ⟨e, he, e1⟩
    rw [← numK_inj e1]; exact (h.old e he).1
theorem until_put {D : PD} (hm : Maps.IsMap D) {y : PKey} {t : Nat} : untilAt (D.put (.string y.1) (.lit (.int .u64 (t : Int)))) y.1 = t := by
  show timeOf ((D.put _ _).atKey _ .nil) = t
  rw [Maps.atKey_put_same hm (k := .string y.1) trivial]; rfl
theorem until_other {D : PD} {x y : PKey} (h : numK x ≠ numK y) (d : DataW Unit) : untilAt (D.put (.string y.1) d) x.1 = untilAt D x.1 := by
  show timeOf _ = timeOf _
  rw [Maps.atKey_put_other (fun e => h (lit_num.1 e))]
theorem until_del {D : PD} {x y : PKey} (h : numK x ≠ numK y) : untilAt (D.del (.string y.1)) x.1 = untilAt D x.1 := by
  show timeOf _ = timeOf _
  rw [Maps.atKey_del_other (fun e => h (lit_num.1 e))]
theorem rel_learn {D : PD} {L : List Ent} (h : Rel D L) (hD : LOk D) (hC : Maps.Canon D) (i : Info) (now : Nat) : Rel (learnD i now D) (refLearn now i L).1 ∧ learnOk i D = (refLearn now i L).2 := by
  have hsz := h.size hC
  have hhas := h.has_iff i.pk
  rw [pk_lit] at hhas
  unfold learnD learnOk refLearn
  cases ht : tellB i with
  | false => exact ⟨h, rfl⟩
  | true =>
    simp only [if_true, Bool.true_and]
    rw [hsz, hhas]
    unfold refLearnL
    rw [fold_is]
    cases hc : L.any fun e => decide (numK e.1 = numK i.pk) with
    | true =>
      obtain ⟨q, hq, hqy⟩ := (any_num L i.pk).1 hc
      obtain ⟨i1, i2, i3, _⟩ := ins_there i.pk (i.until_ now) (decide (0 < i.v)) L h.up ⟨q, hq, hqy⟩
      simp only [Bool.not_true, Bool.false_and, i1, Bool.not_true, Bool.false_and, Bool.false_eq_true, if_false, Bool.true_or, Bool.true_and, if_true, and_true]
      by_cases hv : i.v = 0
      · rw [if_pos (by simpa using hv)]
        have hp : decide (0 < i.v) = false := by simp; omega
        rw [hp] at i2 i3 ⊢
        refine ⟨i2, fun kl hk => ?_, fun e he => ?_⟩
        · have hne : kl ≠ i.key := fun e => by rw [e, Maps.has_del_same] at hk; cases hk
          rw [Maps.has_del_other hne] at hk
          obtain ⟨e, he, e1⟩ := h.all kl hk
          exact ⟨e, (i3 e).2 (.inl ⟨he, fun q => hne (by rw [e1, ← pk_lit]; exact lit_num.2 q)⟩), e1⟩
        · rcases (i3 e).1 he with ⟨h1, h2⟩ | ⟨h1, _⟩
          · have hne : (Lit.string e.1.1) ≠ i.key := fun q => h2 (by rw [← pk_lit] at q; exact lit_num.1 q)
            refine ⟨by rw [Maps.has_del_other hne]; exact (h.old e h1).1, ?_⟩
            rw [← pk_lit, until_del h2]; exact (h.old e h1).2
          · cases h1
      · rw [if_neg (by simpa using hv)]
        have hp : decide (0 < i.v) = true := by simp; omega
        rw [hp] at i2 i3 ⊢
        refine ⟨i2, fun kl hk => ?_, fun e he => ?_⟩
        · by_cases hne : kl = i.key
          · exact ⟨(i.pk, i.until_ now), (i3 _).2 (.inr ⟨rfl, rfl⟩), hne⟩
          · rw [Maps.has_put_other hne] at hk
            obtain ⟨e, he, e1⟩ := h.all kl hk
            exact ⟨e, (i3 e).2 (.inl ⟨he, fun q => hne (by rw [e1, ← pk_lit]; exact lit_num.2 q)⟩), e1⟩
        · rcases (i3 e).1 he with ⟨h1, h2⟩ | ⟨_, h1⟩
          · have hne : (Lit.string e.1.1) ≠ i.key := fun q => h2 (by rw [← pk_lit] at q; exact lit_num.1 q)
            refine ⟨by rw [Maps.has_put_other hne]; exact (h.old e h1).1, ?_⟩
            rw [← pk_lit, until_other h2]; exact (h.old e h1).2
          · subst h1
            refine ⟨by rw [pk_lit]; exact Maps.has_put_same hD.tidy.isMap (key_isKey _ _) _, ?_⟩
            rw [← pk_lit]; exact until_put hD.tidy.isMap
    | false =>
      have hno : ∀ e ∈ L, numK e.1 ≠ numK i.pk := fun e he q => by
        have := (any_num L i.pk).2 ⟨e, he, q⟩
        rw [hc] at this; cases this
      by_cases hr : (decide (0 < i.v) && decide (L.length < 8)) = true
      · have hp : decide (0 < i.v) = true := by simp at hr ⊢; exact hr.1
        have h8 : decide (L.length < 8) = true := by simp at hr ⊢; exact hr.2
        obtain ⟨i1, i2, _⟩ := ins_new i.pk (i.until_ now) true L h.up hno
        have hv : decide (i.v = 0) = false := by simp at hp ⊢; omega
        rw [hp, h8, hv]
        simp only [Bool.not_false, Bool.and_true, Bool.false_or, Bool.and_false, Bool.false_eq_true, if_false, if_true]
        have e1 : (if (!hit i.pk true false L) = true then (ins i.pk (i.until_ now) true true false L ++ [(i.pk, i.until_ now)], true) else (ins i.pk (i.until_ now) true true false L, hit i.pk true false L)) = (if hit i.pk true false L = true then ins i.pk (i.until_ now) true true false L else ins i.pk (i.until_ now) true true false L ++ [(i.pk, i.until_ now)], true) := by
          cases hit i.pk true false L <;> simp
        rw [e1]
        refine ⟨⟨i1, fun kl hk => ?_, fun e he => ?_⟩, rfl⟩
        · by_cases hne : kl = i.key
          · exact ⟨(i.pk, i.until_ now), (i2 _).2 (.inr rfl), hne⟩
          · rw [Maps.has_put_other hne] at hk
            obtain ⟨e, he, e1⟩ := h.all kl hk
            exact ⟨e, (i2 e).2 (.inl he), e1⟩
        · rcases (i2 e).1 he with h1 | h1
          · have h2 := hno e h1
            have hne : (Lit.string e.1.1) ≠ i.key := fun q => h2 (by rw [← pk_lit] at q; exact lit_num.1 q)
            refine ⟨by rw [Maps.has_put_other hne]; exact (h.old e h1).1, ?_⟩
            rw [← pk_lit, until_other h2]; exact (h.old e h1).2
          · subst h1
            refine ⟨by rw [pk_lit]; exact Maps.has_put_same hD.tidy.isMap (key_isKey _ _) _, ?_⟩
            rw [← pk_lit]; exact until_put hD.tidy.isMap
      · have hrf : (decide (0 < i.v) && decide (L.length < 8)) = false := by simpa using hr
        have hn := ins_none i.pk (i.until_ now) (decide (0 < i.v)) (can := (!false && decide (0 < i.v) && decide (L.length < 8))) (b := false) (by simpa [Bool.and_assoc] using hrf) L hno
        rw [hn.1, hn.2]
        have e2 : (!false && decide (0 < i.v) && decide (L.length < 8)) = false := by simpa [Bool.and_assoc] using hrf
        simp only [e2, Bool.false_eq_true, if_false, Bool.false_and, Bool.false_or, hrf]
        exact ⟨h, trivial⟩
theorem rel_tick {D : PD} {L : List Ent} (h : Rel D L) (hC : Maps.Canon D) (now : Nat) : Rel (tickD now D) (tickL now L) := by
  obtain ⟨es, rfl, hr, hkl⟩ := hC
  have hC : Maps.Canon (.map es : PD) := ⟨es, rfl, hr, hkl⟩
  refine ⟨h.up.filter _, fun kl hk => ?_, fun e he => ?_⟩
  · have hk2 := hk
    rw [tick_has hC, Bool.and_eq_true] at hk2
    obtain ⟨e, he, e1⟩ := h.all kl hk2.1
    refine ⟨e, List.mem_filter.2 ⟨he, ?_⟩, e1⟩
    have h2 := hk2.2
    rw [e1] at h2
    rw [← (h.old e he).2]; exact h2
  · obtain ⟨h1, h2⟩ := List.mem_filter.1 he
    have hh : Maps.has (tickD now (.map es)) (.string e.1.1) = true := by
      rw [tick_has hC, Bool.and_eq_true]
      refine ⟨(h.old e h1).1, ?_⟩
      have := (h.old e h1).2
      unfold untilAt at this
      rw [this]; exact h2
    refine ⟨hh, ?_⟩
    show timeOf ((tickD now (.map es)).atKey _ .nil) = _
    rw [tick_at hC now _ _ hh]; exact (h.old e h1).2
end Go.Proofs.Ytkhbchgocilclaa
