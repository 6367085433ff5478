/- Several texts in one: PlainR, PlainS. No condition beyond those that each part names. -/
import Derived.Test.YtjldcblklbikaaaPlainP
/- The reference's word for 'fits' is ours for 'does not clash'. No program in sight. No condition beyond those named. -/
namespace Go.Proofs.Ytjldcblklbikaaa
set_option linter.unusedVariables false
/-- the first loop of the reference finds nothing -/
def fitL (a b : Pk) : Prop := ∀ i, frm a ≤ i → i < too a → ¬ (frm b ≤ i ∧ i < too b) ∧ (b.more = true ∨ i < too b)
/-- the second -/
def fitR (a b : Pk) : Prop := ∀ i, frm b ≤ i → i < too b → (a.more = true ∨ i < too a)
def fitE (a b : Pk) : Prop := a.more = true ∨ b.more = true ∨ too a = too b
theorem may_pos {a : Pk} (h : mayB a = true) (hm : a.more = true) : frm a < too a := by
  unfold mayB at h
  rw [hm] at h
  simp at h
  unfold too
  omega
theorem fits_clash {a b : Pk} (ha : mayB a = true) (hb : mayB b = true) : (fitL a b ∧ fitR a b ∧ fitE a b) ↔ clashB a b = false := by
  have hta : frm a ≤ too a := Nat.le_add_right _ _
  have htb : frm b ≤ too b := Nat.le_add_right _ _
  have hc : clashB a b = false ↔ (a.more = true ∨ too b ≤ too a) ∧ (b.more = true ∨ too a ≤ too b) ∧ min (too a) (too b) ≤ max (frm a) (frm b) := by
    unfold clashB beyondB
    simp only [Bool.or_eq_false_iff, Bool.and_eq_false_iff, Bool.not_eq_false', decide_eq_false_iff_not, Nat.not_lt, and_assoc]
  rw [hc]
  constructor
  · rintro ⟨hL, hR, hE⟩
    refine ⟨?_, ?_, ?_⟩
    · by_cases hm : a.more = true
      · exact .inl hm
      · right
        refine Nat.le_of_not_lt fun hlt => ?_
        rcases hE with h | h | h
        · exact hm h
        · have hp := may_pos hb h
          rcases hR (too b - 1) (by omega) (by omega) with h | h
          · exact hm h
          · omega
        · omega
    · by_cases hm : b.more = true
      · exact .inl hm
      · right
        refine Nat.le_of_not_lt fun hlt => ?_
        rcases hE with h | h | h
        · have hp := may_pos ha h
          rcases (hL (too a - 1) (by omega) (by omega)).2 with h | h
          · exact hm h
          · omega
        · exact hm h
        · omega
    · refine Nat.le_of_not_lt fun hlt => ?_
      exact (hL (max (frm a) (frm b)) (by omega) (by omega)).1 ⟨by omega, by omega⟩
  · rintro ⟨h1, h2, h3⟩
    refine ⟨fun i hi1 hi2 => ⟨fun h => by omega, ?_⟩, fun i hi1 hi2 => ?_, ?_⟩
    · rcases h2 with h | h
      · exact .inl h
      · exact .inr (by omega)
    · rcases h1 with h | h
      · exact .inl h
      · exact .inr (by omega)
    · unfold fitE
      rcases h1 with h | h
      · exact .inl h
      · rcases h2 with h' | h'
        · exact .inr (.inl h')
        · exact .inr (.inr (by omega))
end Go.Proofs.Ytjldcblklbikaaa

/- Parts that do not meet: when they are whole, read place by place, as the reference does. No program in sight. No condition beyond those named. -/
namespace Go.Proofs.Ytjldcblklbikaaa
set_option linter.unusedVariables false
set_option linter.unusedSimpArgs false
/-- parts of one datagram, none twice, none that clash -/
structure Alone (i : Nat) (L : List Pk) : Prop where
  may : ∀ x ∈ L, mayB x = true
  is : ∀ x ∈ L, x.is = true ∧ x.id = i
  two : L.Pairwise fun a b => sameB a b = false ∧ clashB a b = false
theorem Alone.nil (i : Nat) : Alone i [] := ⟨fun _ h => absurd h List.not_mem_nil, fun _ h => absurd h List.not_mem_nil, List.Pairwise.nil⟩
/-- how two of them stand -/
def Stand (a b : Pk) : Prop := frm a ≠ frm b ∧ (frm a < frm b → too a ≤ frm b) ∧ (frm b < frm a → too b ≤ frm a) ∧ (a.more = true ∨ too b ≤ too a) ∧ (b.more = true ∨ too a ≤ too b)
theorem Stand.symm {a b : Pk} (h : Stand a b) : Stand b a := ⟨fun e => h.1 e.symm, h.2.2.1, h.2.1, h.2.2.2.2, h.2.2.2.1⟩
theorem clash_no {a b : Pk} (h : clashB a b = false) : (a.more = true ∨ too b ≤ too a) ∧ (b.more = true ∨ too a ≤ too b) ∧ min (too a) (too b) ≤ max (frm a) (frm b) := by
  unfold clashB beyondB at h
  simpa only [Bool.or_eq_false_iff, Bool.and_eq_false_iff, Bool.not_eq_false', decide_eq_false_iff_not, Nat.not_lt, and_assoc] using h
theorem stand_of {i : Nat} {a b : Pk} (ma : mayB a = true) (mb : mayB b = true) (ia : a.is = true ∧ a.id = i) (ib : b.is = true ∧ b.id = i) (hs : sameB a b = false) (hc : clashB a b = false) : Stand a b := by
  obtain ⟨h1, h2, h3⟩ := clash_no hc
  have hta : too a = frm a + a.body.length := rfl
  have htb : too b = frm b + b.body.length := rfl
  have pa := fun h => may_pos ma h
  have pb := fun h => may_pos mb h
  have hlast : ∀ {m : Bool}, ¬ m = true → m = false := fun {m} h => by cases m <;> simp_all
  refine ⟨fun e => ?_, fun hlt => ?_, fun hlt => ?_, h1, h2⟩
  · have hz : a.body.length = 0 ∧ b.body.length = 0 := by
      by_cases m1 : a.more = true
      · have := pa m1
        have hb0 : b.more = true := by
          refine Classical.byContradiction fun m2 => ?_
          rcases h2 with h | h
          · exact m2 h
          · omega
        have := pb hb0
        omega
      · by_cases m2 : b.more = true
        · have := pb m2
          rcases h1 with h | h
          · exact absurd h m1
          · omega
        · rcases h1 with h | h
          · exact absurd h m1
          · rcases h2 with h' | h'
            · exact absurd h' m2
            · omega
    have ea : a.more = false := hlast fun m => by have := pa m; omega
    have eb : b.more = false := hlast fun m => by have := pb m; omega
    have eo : a.off = b.off := by unfold frm at e; omega
    have e1 : a.body = [] := List.length_eq_zero_iff.1 hz.1
    have e2 : b.body = [] := List.length_eq_zero_iff.1 hz.2
    unfold sameB at hs
    rw [ia.1, ib.1, ia.2, ib.2, eo, ea, eb, e1, e2] at hs
    simp at hs
  · by_cases m2 : b.more = true
    · have := pb m2; omega
    · rcases h2 with h | h
      · exact absurd h m2
      · omega
  · by_cases m1 : a.more = true
    · have := pa m1; omega
    · rcases h1 with h | h
      · exact absurd h m1
      · omega
theorem Alone.stand {i : Nat} {L : List Pk} (h : Alone i L) : L.Pairwise Stand := by
  have key : ∀ L : List Pk, (∀ x ∈ L, mayB x = true) → (∀ x ∈ L, x.is = true ∧ x.id = i) → (L.Pairwise fun a b => sameB a b = false ∧ clashB a b = false) → L.Pairwise Stand := by
    intro L
    induction L with
    | nil => intro _ _ _; exact List.Pairwise.nil
    | cons x L ih =>
      intro hm hi ht
      rw [List.pairwise_cons] at ht ⊢
      refine ⟨fun y hy => ?_, ih (fun z hz => hm z (List.mem_cons_of_mem _ hz)) (fun z hz => hi z (List.mem_cons_of_mem _ hz)) ht.2⟩
      exact stand_of (hm x List.mem_cons_self) (hm y (List.mem_cons_of_mem _ hy)) (hi x List.mem_cons_self) (hi y (List.mem_cons_of_mem _ hy)) (ht.1 y hy).1 (ht.1 y hy).2
  exact key L h.may h.is h.two
def Up (a b : Pk) : Prop := frm a < frm b ∧ too a ≤ frm b
/-- the parts, put in order -/
theorem sort_parts {L : List Pk} (h : L.Pairwise Stand) : ∃ l : List Pk, l.Perm L ∧ l.Pairwise Up := by
  let le : Pk → Pk → Bool := fun a b => decide (frm a ≤ frm b)
  have hp := List.mergeSort_perm L le
  have hs : (L.mergeSort le).Pairwise (fun a b => le a b = true) := List.pairwise_mergeSort (le := le) (fun a b c h1 h2 => by simp only [le, decide_eq_true_eq] at *; omega) (fun a b => by simp only [le, Bool.or_eq_true, decide_eq_true_eq]; omega) L
  refine ⟨L.mergeSort le, hp, ?_⟩
  have hst : (L.mergeSort le).Pairwise Stand := (hp.pairwise_iff (fun h => h.symm)).2 h
  refine (List.Pairwise.and hs hst).imp ?_
  rintro a b ⟨h1, h2⟩
  simp only [le, decide_eq_true_eq] at h1
  have hlt : frm a < frm b := by have := h2.1; omega
  exact ⟨hlt, h2.2.1 hlt⟩
theorem sorted_eq {L l m : List Pk} (hL : l.Perm L) (hl : l.Pairwise Up) (hm : m.Perm L) (hs : m.Pairwise fun a b => frm a ≤ frm b) : m = l := by
  have hml := hm.trans hL.symm
  have hne : ∀ a ∈ l, ∀ b ∈ l, frm a = frm b → a = b := by
    intro a ha b hb e
    obtain ⟨i, hi⟩ := List.getElem?_of_mem ha
    obtain ⟨j, hj⟩ := List.getElem?_of_mem hb
    obtain ⟨hi', ei⟩ := List.getElem?_eq_some_iff.1 hi
    obtain ⟨hj', ej⟩ := List.getElem?_eq_some_iff.1 hj
    have hp := List.pairwise_iff_getElem.1 hl
    rcases Nat.lt_trichotomy i j with h | h | h
    · have := (hp i j hi' hj' h).1
      rw [ei, ej] at this; omega
    · subst h; rw [← ei, ← ej]
    · have := (hp j i hj' hi' h).1
      rw [ei, ej] at this; omega
  refine List.Perm.eq_of_pairwise (le := fun a b => frm a ≤ frm b) ?_ hs (hl.imp fun h => Nat.le_of_lt h.1) hml
  intro a b ha hb h1 h2
  exact hne a (hml.mem_iff.1 ha) b hb (by omega)
/-- parts that stand apart, from s on, up to e, are no more bytes than there are places -/
theorem sum_apart : ∀ (l : List Pk) (s e : Nat), l.Pairwise Up → (∀ x ∈ l, 0 < x.body.length → s ≤ frm x) → (∀ x ∈ l, too x ≤ e) → s ≤ e → s + hadN l ≤ e
  | [], s, e, _, _, _, h => h
  | x :: l, s, e, hp, hs, he, h => by
    rw [List.pairwise_cons] at hp
    have ht : too x = frm x + x.body.length := rfl
    have hx := he x List.mem_cons_self
    have e1 : hadN (x :: l) = x.body.length + hadN l := by simp [hadN]
    by_cases h0 : 0 < x.body.length
    · have h1 := hs x List.mem_cons_self h0
      have := sum_apart l (too x) e hp.2 (fun y hy _ => (hp.1 y hy).2) (fun y hy => he y (List.mem_cons_of_mem _ hy)) hx
      omega
    · have := sum_apart l s e hp.2 (fun y hy h => hs y (List.mem_cons_of_mem _ hy) h) (fun y hy => he y (List.mem_cons_of_mem _ hy)) h
      omega
/-! ### place by place -/
/-- the parts that begin at a place, and have it -/
def selB (L : List Pk) (s : Nat) : List Nat := L.flatMap fun x => if frm x = s ∧ 0 < x.body.length then x.body else []
/-- b is the first m parts, with no gap -/
structure Cov (l : List Pk) (m : Nat) (b : List Nat) : Prop where
  le : m ≤ l.length
  eq : b = (l.take m).flatMap (·.body)
  at_ : ∀ i x, i < m → l[i]? = some x → frm x = ((l.take i).flatMap (·.body)).length
theorem Cov.nil (l : List Pk) : Cov l 0 [] := ⟨Nat.zero_le _, rfl, fun i x h => by omega⟩
theorem had_app (a b : List Pk) : hadN (a ++ b) = hadN a + hadN b := by simp [hadN]
theorem body_len (l : List Pk) : (l.flatMap (·.body)).length = hadN l := by simp [hadN, List.length_flatMap]
theorem selB_perm {L l : List Pk} (hp : l.Perm L) (hl : l.Pairwise Up) (s : Nat) : selB L s = selB l s := by
  have h1 : ∀ l : List Pk, selB l s = (l.filter fun x => decide (frm x = s ∧ 0 < x.body.length)).flatMap (·.body) := by
    intro l
    induction l with
    | nil => rfl
    | cons x l ih =>
      unfold selB at *
      rw [List.flatMap_cons, List.filter_cons, ih]
      by_cases h : frm x = s ∧ 0 < x.body.length
      · rw [if_pos h, if_pos (by simpa using h), List.flatMap_cons]
      · rw [if_neg h, if_neg (by simpa using h)]; rfl
  rw [h1 L, h1 l]
  have hpf := hp.filter (fun x => decide (frm x = s ∧ 0 < x.body.length))
  have hu := hl.filter (fun x => decide (frm x = s ∧ 0 < x.body.length))
  have hmem : ∀ x ∈ l.filter (fun x => decide (frm x = s ∧ 0 < x.body.length)), frm x = s := fun x hx => by
    have := (List.mem_filter.1 hx).2
    simp at this; exact this.1
  generalize l.filter (fun x => decide (frm x = s ∧ 0 < x.body.length)) = f at hpf hu hmem
  generalize L.filter (fun x => decide (frm x = s ∧ 0 < x.body.length)) = g at hpf
  match f, hu, hmem, hpf with
  | [], _, _, hpf => rw [hpf.nil_eq]
  | [a], _, _, hpf => rw [List.singleton_perm.1 hpf]
  | a :: c :: t, hu, hmem, _ =>
    exfalso
    rw [List.pairwise_cons] at hu
    have := (hu.1 c List.mem_cons_self).1
    rw [hmem a List.mem_cons_self, hmem c (by simp)] at this
    omega
theorem selB_none {l : List Pk} {s : Nat} (h : ∀ x ∈ l, 0 < x.body.length → frm x ≠ s) : selB l s = [] := by
  unfold selB
  rw [List.flatMap_eq_nil_iff]
  intro x hx
  rw [if_neg (fun hc => h x hx hc.2 hc.1)]
theorem get_drop {l : List Pk} {m : Nat} {x : Pk} (h : l[m]? = some x) : l = l.take m ++ x :: l.drop (m + 1) := by
  obtain ⟨hm, e⟩ := List.getElem?_eq_some_iff.1 h
  rw [← e, List.getElem_cons_drop, List.take_append_drop]
theorem Cov.len {l : List Pk} {m : Nat} {b : List Nat} (h : Cov l m b) : b.length = hadN (l.take m) := by rw [h.eq, body_len]
theorem Cov.front {l : List Pk} {m : Nat} {b : List Nat} (h : Cov l m b) : ∀ x ∈ l.take m, too x ≤ b.length := by
  intro x hx
  obtain ⟨i, hi⟩ := List.getElem?_of_mem hx
  have him : i < m := by have := (List.getElem?_eq_some_iff.1 hi).1; simp at this; omega
  rw [List.getElem?_take_of_lt him] at hi
  have h1 := h.at_ i x him hi
  have h2 : too x = ((l.take (i + 1)).flatMap (·.body)).length := by
    rw [List.take_add_one, hi, List.flatMap_append, List.length_append]
    unfold too
    rw [h1]; simp
  rw [h2, h.eq, body_len, body_len]
  have e : l.take m = l.take (i + 1) ++ (l.take m).drop (i + 1) := by
    have := List.take_append_drop (i + 1) (l.take m)
    rw [List.take_take, show min (i + 1) m = i + 1 by omega] at this
    exact this.symm
  rw [e]
  simp only [hadN, List.map_append, List.sum_append]
  omega
theorem Cov.back {l : List Pk} {m : Nat} {b : List Nat} (h : Cov l m b) (hl : l.Pairwise Up) : ∀ x ∈ l.drop m, b.length ≤ frm x := by
  intro x hx
  match m, h, hx with
  | 0, h, hx =>
    have : b = [] := by rw [h.eq]; rfl
    rw [this]; simp
  | n + 1, h, hx =>
    have hlt : n < l.length := h.le
    obtain ⟨y, hy⟩ : ∃ y, l[n]? = some y := ⟨_, List.getElem?_eq_getElem hlt⟩
    have h1 := h.at_ n y (by omega) hy
    have hsplit : l = l.take (n + 1) ++ l.drop (n + 1) := (List.take_append_drop (n + 1) l).symm
    have hmem : y ∈ l.take (n + 1) := List.mem_of_getElem? (i := n) (by rw [List.getElem?_take_of_lt (by omega)]; exact hy)
    rw [hsplit, List.pairwise_append] at hl
    have h2 := (hl.2.2 y hmem x hx).2
    have h3 : too y = b.length := by
      rw [h.eq, List.take_add_one, hy, List.flatMap_append, List.length_append]
      unfold too
      rw [h1]; simp
    omega
/-- one round: either a gap, or a part more -/
theorem cov_step {l : List Pk} {m e : Nat} {b : List Nat} (hl : l.Pairwise Up) (he : ∀ x ∈ l, too x ≤ e) (h : Cov l m b) (hb : b.length < e) : (selB l b.length = [] ∧ hadN l < e) ∨ (selB l b.length ≠ [] ∧ Cov l (m + 1) (b ++ selB l b.length)) := by
  have hfr := h.front
  have hsplit : l = l.take m ++ l.drop m := (List.take_append_drop m l).symm
  have hback : ∀ x ∈ l.drop m, ∀ y ∈ l.take m, too y ≤ frm x := by
    intro x hx y hy
    rw [hsplit, List.pairwise_append] at hl
    exact (hl.2.2 y hy x hx).2
  have hsum : hadN l = hadN (l.take m) + hadN (l.drop m) := by rw [← had_app, List.take_append_drop]
  by_cases hx : ∃ x, l[m]? = some x ∧ frm x = b.length ∧ 0 < x.body.length
  · obtain ⟨x, hx, hxs, hx0⟩ := hx
    right
    have hsel : selB l b.length = x.body := by
      have e := get_drop hx
      have hp := hl
      rw [e, List.pairwise_append, List.pairwise_cons] at hp
      have h1 : selB (l.take m) b.length = [] := selB_none fun y hy h0 hc => by
        have h1 := hfr y hy
        have h2 : too y = frm y + y.body.length := rfl
        omega
      have h2 : selB (l.drop (m + 1)) b.length = [] := selB_none fun y hy h0 hc => by
        have := (hp.2.1.1 y hy).1
        omega
      have h3 : selB l b.length = selB (l.take m) b.length ++ ((if frm x = b.length ∧ 0 < x.body.length then x.body else []) ++ selB (l.drop (m + 1)) b.length) := by
        conv => lhs; rw [e]
        unfold selB
        rw [List.flatMap_append, List.flatMap_cons]
      rw [h3, h1, h2, if_pos ⟨hxs, hx0⟩]; simp
    refine ⟨by rw [hsel]; intro h0; rw [h0] at hx0; simp at hx0, ?_⟩
    have hm := (List.getElem?_eq_some_iff.1 hx).1
    refine ⟨hm, by rw [hsel, List.take_add_one, hx, List.flatMap_append, h.eq]; simp, fun i y hi hy => ?_⟩
    by_cases e1 : i = m
    · subst e1
      rw [hx] at hy
      cases hy
      rw [hxs, h.eq]
    · exact h.at_ i y (by omega) hy
  · left
    have hgap : ∀ x ∈ l.drop m, 0 < x.body.length → b.length + 1 ≤ frm x := by
      intro x hxm h0
      obtain ⟨j, hj⟩ := List.getElem?_of_mem hxm
      rw [List.getElem?_drop] at hj
      have hge : b.length ≤ frm x := h.back hl x hxm
      by_cases hj0 : j = 0
      · subst hj0
        rw [Nat.add_zero] at hj
        have : frm x ≠ b.length := fun e => hx ⟨x, hj, e, h0⟩
        omega
      · have hjl := (List.getElem?_eq_some_iff.1 hj).1
        have hm : m < l.length := by omega
        have hy : l[m]? = some l[m] := List.getElem?_eq_getElem hm
        have hu := List.pairwise_iff_getElem.1 hl m (m + j) hm hjl (by omega)
        rw [(List.getElem?_eq_some_iff.1 hj).2] at hu
        have hymem : l[m] ∈ l.drop m := by
          refine List.mem_of_getElem? (i := 0) ?_
          rw [List.getElem?_drop, Nat.add_zero]; exact hy
        have hyge : b.length ≤ frm l[m] := h.back hl _ hymem
        have hu1 := hu.1
        omega
    refine ⟨?_, ?_⟩
    · refine selB_none fun y hy h0 hc => ?_
      rw [hsplit] at hy
      rcases List.mem_append.1 hy with hy | hy
      · have h1 := hfr y hy
        have h2 : too y = frm y + y.body.length := rfl
        omega
      · have := hgap y hy h0; omega
    · have hd : (l.drop m).Pairwise Up := by
        rw [hsplit, List.pairwise_append] at hl
        exact hl.2.1
      have := sum_apart (l.drop m) (b.length + 1) e hd hgap (fun x hx => he x (List.mem_of_mem_drop hx)) (by omega)
      have := h.len
      omega
theorem end_mem : ∀ (L : List Pk) (e : Int), (L.foldl (fun e x => if x.more then e else (too x : Int)) e) = e ∨ ∃ z ∈ L, z.more = false ∧ (L.foldl (fun e x => if x.more then e else (too x : Int)) e) = (too z : Int)
  | [], e => .inl rfl
  | x :: L, e => by
    rw [List.foldl_cons]
    rcases end_mem L (if x.more then e else (too x : Int)) with h | ⟨z, hz, h1, h2⟩
    · rw [h]
      by_cases hm : x.more = true
      · rw [if_pos hm]; exact .inl rfl
      · rw [if_neg hm]
        exact .inr ⟨x, List.mem_cons_self, by simpa using hm, rfl⟩
    · exact .inr ⟨z, List.mem_cons_of_mem _ hz, h1, h2⟩
/-- where the last part ends, all end -/
theorem end_all {L : List Pk} (h : L.Pairwise Stand) (h0 : 0 ≤ endZ L) : ∀ x ∈ L, (too x : Int) ≤ endZ L := by
  intro x hx
  rcases end_mem L (-1) with e | ⟨z, hz, hm, e⟩
  · exfalso
    have : endZ L = -1 := e
    omega
  · have e' : endZ L = (too z : Int) := e
    rw [e']
    have key : ∀ L : List Pk, L.Pairwise Stand → x ∈ L → z ∈ L → x = z ∨ Stand x z ∨ Stand z x := by
      intro L
      induction L with
      | nil => intro _ h; cases h
      | cons y L ih =>
        intro hp h1 h2
        rw [List.pairwise_cons] at hp
        rcases List.mem_cons.1 h1 with e1 | h1
        · rcases List.mem_cons.1 h2 with e2 | h2
          · exact .inl (e1.trans e2.symm)
          · rw [e1]; exact .inr (.inl (hp.1 z h2))
        · rcases List.mem_cons.1 h2 with e2 | h2
          · rw [e2]; exact .inr (.inr (hp.1 x h1))
          · exact ih hp.2 h1 h2
    rcases key L h hx hz with e | e | e
    · rw [e]; exact Int.le_refl _
    · rcases e.2.2.2.2 with h | h
      · rw [hm] at h; cases h
      · omega
    · rcases e.2.2.2.1 with h | h
      · rw [hm] at h; cases h
      · omega
/-- the end: all is there -/
theorem cov_end {l : List Pk} {m e : Nat} {b : List Nat} (hl : l.Pairwise Up) (he : ∀ x ∈ l, too x ≤ e) (h : Cov l m b) (hb : e ≤ b.length) : hadN l = e ∧ l.flatMap (·.body) = b ∧ (0 < l.length → ∀ x, l[0]? = some x → frm x = 0) := by
  have hlen := h.len
  have hsplit : l = l.take m ++ l.drop m := (List.take_append_drop m l).symm
  have hsum : hadN l = hadN (l.take m) + hadN (l.drop m) := by rw [← had_app, List.take_append_drop]
  have hall := sum_apart l 0 e hl (fun _ _ _ => Nat.zero_le _) he (Nat.zero_le _)
  have h0 : hadN (l.drop m) = 0 := by omega
  have hd : (l.drop m).flatMap (·.body) = [] := List.length_eq_zero_iff.1 (by rw [body_len]; exact h0)
  refine ⟨by omega, ?_, fun hpos x hx => ?_⟩
  · have h2 : l.flatMap (·.body) = (l.take m).flatMap (·.body) ++ (l.drop m).flatMap (·.body) := by
      rw [← List.flatMap_append, List.take_append_drop]
    rw [h2, hd, h.eq, List.append_nil]
  · by_cases hm : 0 < m
    · have := h.at_ 0 x hm hx
      simpa using this
    · have hm0 : m = 0 := by omega
      have hb0 : b = [] := by rw [h.eq, hm0]; rfl
      have he0 : e = 0 := by rw [hb0] at hb; simpa using hb
      have hxm : x ∈ l := List.mem_of_getElem? hx
      have := he x hxm
      have h2 : too x = frm x + x.body.length := rfl
      omega
/-! ### what stands at the beginning -/
/-- the reference's head: the last part that begins at 0 -/
def head0 (L : List Pk) : Option Pk := L.foldl (fun o x => if x.off = 0 then some x else o) none
theorem head0_snoc (L : List Pk) (x : Pk) : head0 (L ++ [x]) = if x.off = 0 then some x else head0 L := by simp [head0]
theorem head0_mem : ∀ (L : List Pk) (o : Option Pk), (∀ x ∈ L, x.off ≠ 0) → L.foldl (fun o x => if x.off = 0 then some x else o) o = o
  | [], o, _ => rfl
  | x :: L, o, h => by
    rw [List.foldl_cons, if_neg (h x List.mem_cons_self)]
    exact head0_mem L o (fun y hy => h y (List.mem_cons_of_mem _ hy))
/-- only one begins there -/
theorem head0_of {L : List Pk} (h : L.Pairwise Stand) {x : Pk} (hx : x ∈ L) (h0 : x.off = 0) : head0 L = some x := by
  have key : ∀ (L : List Pk) (o : Option Pk), L.Pairwise Stand → x ∈ L → L.foldl (fun o x => if x.off = 0 then some x else o) o = some x := by
    intro L
    induction L with
    | nil => intro _ _ h; cases h
    | cons y L ih =>
      intro o hp hm
      rw [List.pairwise_cons] at hp
      rw [List.foldl_cons]
      rcases List.mem_cons.1 hm with e | hm
      · rw [← e, if_pos h0]
        refine head0_mem L _ fun z hz hz0 => ?_
        have := (hp.1 z hz).1
        rw [← e] at this
        unfold frm at this
        omega
      · exact ih _ hp.2 hm
  exact key L none h hx
/-- a part with nothing of a part -/
def bareP (x : Pk) (b : List Nat) : Pk := { x with is := false, id := 0, off := 0, more := false, body := b }
theorem join_bare {l : List Pk} {x : Pk} (h : l[0]? = some x) : joinP l = some (bareP x (l.flatMap (·.body))) := by
  unfold joinP bareP
  rw [List.head?_eq_getElem?, h]; rfl
end Go.Proofs.Ytjldcblklbikaaa
