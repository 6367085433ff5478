/- Two parts of one datagram that clash spoil it, another is put together all the same: what the pool is then. No program in sight. No condition. -/
import Derived.Test.YtjldcblklbikaaaPlainX
namespace Go.Proofs.Ytjldcblklbikaaa
set_option linter.unusedVariables false
set_option linter.unusedSimpArgs false
def six (y : Pk) : Pk := { y with id := 6 }
def five (y : Pk) : Pk := { y with id := 5 }
theorem sameB_six {a b : Pk} (h : a.id = b.id) : sameB (six a) (six b) = sameB a b := by unfold sameB six; simp [h]
theorem clashB_six (a b : Pk) : clashB (six a) (six b) = clashB a b := rfl
theorem any_map_congr {α : Type} {f g : α → Bool} {s : α → α} : ∀ {L : List α}, (∀ a ∈ L, f (s a) = g a) → (L.map s).any f = L.any g
  | [], _ => rfl
  | a :: L, h => by rw [List.map_cons, List.any_cons, List.any_cons, h a List.mem_cons_self, any_map_congr fun b hb => h b (List.mem_cons_of_mem _ hb)]
theorem judge_six {P : List Pk} {y : Pk} (h : ∀ a ∈ P, a.id = y.id) : judgeN (P.map six) (six y) = judgeN P y := by
  unfold judgeN
  rw [any_map_congr (g := (sameB · y)) (fun a ha => sameB_six (h a ha)), any_map_congr (g := (clashB · y)) (fun a _ => clashB_six a y), List.length_map]
theorem had_six (P : List Pk) : hadN (P.map six) = hadN P := by unfold hadN; rw [List.map_map]; rfl
theorem end_six (P : List Pk) : endZ (P.map six) = endZ P := by unfold endZ; rw [List.foldl_map]; rfl
theorem join_five (l : List Pk) : joinP (l.map five) = joinP l := by
  unfold joinP
  cases l with
  | nil => rfl
  | cons a l => simp only [List.map_cons, List.head?_cons, Option.map_some, List.flatMap_cons, List.flatMap_map]; rfl
/-- the spoilt one -/
def ovB (x : Pk) : Ds := ⟨x.src, x.dst, 5, 60010, true, []⟩
theorem add10 : addU 10 60000 = 60010 := by decide
theorem hasY {x y : Pk} {at_ : Nat → Nat} {L : List Pk} (h : CutOf x at_ L) {k : Nat} (hy : L[k]? = some y) : y.src = x.src ∧ y.dst = x.dst ∧ y.id = 5 ∧ y.is = true := by
  have := h.part k y hy
  subst this
  exact ⟨rfl, rfl, rfl, rfl⟩
/-- the part that comes first -/
theorem first_part {x y : Pk} {at_ : Nat → Nat} {L : List Pk} (h : CutOf x at_ L) (hx : x.body.length ≤ 4000) (hn : 1 < L.length) {k : Nat} (hy : L[k]? = some y) {S' : List Ds} {out : Option Pk} {dr : Bool} (ha : AddS 10 y [] S' out dr) :
    out = none ∧ dr = false ∧ S' = [⟨x.src, x.dst, 5, 60010, false, [y]⟩] := by
  obtain ⟨h1, h2, h3, h4⟩ := hasY h hy
  have hmay := h.may hx hy
  rcases ha with ⟨h0, _⟩ | ⟨_, h0, _⟩ | ⟨_, _, ⟨k, d, hf, _⟩, _⟩ | ⟨_, _, _, h0, _⟩ | ⟨_, _, k, d, hf, _⟩ | ⟨_, _, hf, _, hp⟩
  · rw [h4] at h0; cases h0
  · rw [hmay] at h0; cases h0
  · have := hf.nil; cases this
  · simp at h0
  · have := hf.nil; cases this
  · have hj : judgeN [] y = 0 := rfl
    have hw := whole_iff h (ks := [k]) (by simp) (fun j hj => by rw [List.mem_singleton] at hj; subst hj; exact (List.getElem?_eq_some_iff.1 hy).1)
    have hpk : pick x L [k] = [y] := by
      have := pick_snoc (x := x) (ks := []) hy
      exact this
    rw [hpk] at hw
    have hno : ¬ (hadN [y] : Int) = endZ [y] := fun e => by have := hw.1 e; simp at this; omega
    rcases hp with ⟨h0, _⟩ | ⟨h0, _⟩ | ⟨_, _, e1, e2, e3⟩ | ⟨_, e, _⟩
    · have h0' : judgeN [] y = 1 := h0
      omega
    · have h0' : judgeN [] y = 2 := h0
      omega
    · refine ⟨e2, e3, ?_⟩
      rw [e1]
      unfold freshS
      rw [h1, h2, h3, add10]; rfl
    · exact absurd e hno
/-- a part that is not the same, at the same place -/
theorem spoil_part {x y z : Pk} {at_ : Nat → Nat} {L : List Pk} (h : CutOf x at_ L) (hx : x.body.length ≤ 4000) (hn : 1 < L.length) {k : Nat} (hy : L[k]? = some y) {b : List Nat} (hz : z = { y with body := b }) (hb : b.length = y.body.length) (hne : b ≠ y.body) {S' : List Ds} {out : Option Pk} {dr : Bool} (ha : AddS 20 z [⟨x.src, x.dst, 5, 60010, false, [y]⟩] S' out dr) :
    out = none ∧ dr = true ∧ S' = [ovB x] := by
  obtain ⟨h1, h2, h3, h4⟩ := hasY h hy
  have hmay : mayB z = true := by
    have := h.may hx hy
    rw [← this, hz]
    unfold mayB too frm
    simp only [hb]
  have hpos : 0 < y.body.length := by
    obtain ⟨_, _, e, _⟩ := h.at' hy
    have := h.lt (List.getElem?_eq_some_iff.1 hy).1 hn
    omega
  have hhas : Ds.has z ⟨x.src, x.dst, 5, 60010, false, [y]⟩ = true := by rw [hz]; simp [Ds.has, h1, h2, h3]
  have hj : judgeN [y] z = 2 := by
    have e1 : sameB y z = false := by
      have : (y.body == z.body) = false := by rw [hz]; simpa using fun e => hne e.symm
      unfold sameB
      rw [this, Bool.and_false]
    have e2 : clashB y z = true := by
      unfold clashB
      have : decide (max (frm y) (frm z) < min (too y) (too z)) = true := by
        rw [hz]
        unfold too frm
        simp only [hb, Nat.max_self, Nat.min_self, decide_eq_true_eq]; omega
      rw [this, Bool.or_true]
    unfold judgeN
    simp only [List.any_cons, List.any_nil, e1, e2, Bool.or_false, Bool.or_true, if_true]
    rfl
  rcases ha with ⟨h0, _⟩ | ⟨_, h0, _⟩ | ⟨_, _, ⟨k, d, hf, hd, hbd⟩, _⟩ | ⟨_, _, hf, _⟩ | ⟨_, _, k, d, hf, hd, hbd, hp⟩ | ⟨_, _, hf, _⟩
  · rw [hz] at h0; rw [show ({ y with body := b } : Pk).is = y.is from rfl, h4] at h0; cases h0
  · rw [hmay] at h0; cases h0
  · have e := hf.one hhas
    cases e
    simp at hd
    rw [← hd] at hbd; cases hbd
  · have e := hf.one hhas
    cases e
  · have e := hf.one hhas
    cases e
    simp at hd
    subst hd
    rcases hp with ⟨h0, _⟩ | ⟨_, e1, e2, e3⟩ | ⟨h0, _⟩ | ⟨h0, _⟩
    · have h0' : judgeN [y] z = 1 := h0
      omega
    · exact ⟨e2, e3, by rw [e1]; rfl⟩
    · have h0' : judgeN [y] z = 0 := h0
      omega
    · have h0' : judgeN [y] z = 0 := h0
      omega
  · have e := hf.one hhas
    cases e
/-- the pool while the other's parts come -/
def OvSt (x : Pk) (L : List Pk) (i : Nat) (S : List Ds) : Prop := ((i = 0 ∨ i = L.length) ∧ S = [ovB x]) ∨ (0 < i ∧ i < L.length ∧ ∃ o, S = [ovB x, ⟨x.src, x.dst, 6, o, false, (pick x L (List.range i)).map six⟩])
theorem FirstS.head {x : Pk} {d : Ds} {S : List Ds} {r : Option Nat} (h : FirstS (d :: S) x r) (hd : Ds.has x d = true) : r = some 0 := by
  cases r with
  | none => have := h d List.mem_cons_self; rw [hd] at this; cases this
  | some k =>
    obtain ⟨e, he, _, hno⟩ := h
    cases k with
    | zero => rfl
    | succ k => have := hno 0 d (by omega) rfl; rw [hd] at this; cases this
theorem FirstS.skip {x : Pk} {d : Ds} {r : Option Nat} (h : FirstS [d] x r) (hd : Ds.has x d = false) : r = none := by
  cases r with
  | none => rfl
  | some k =>
    obtain ⟨e, he, ht, _⟩ := h
    cases k with
    | zero => simp at he; subst he; rw [hd] at ht; cases ht
    | succ k => simp at he
theorem FirstS.snd {x : Pk} {d e : Ds} {r : Option Nat} (h : FirstS [d, e] x r) (hd : Ds.has x d = false) (he : Ds.has x e = true) : r = some 1 := by
  cases r with
  | none => have := h e (by simp); rw [he] at this; cases this
  | some k =>
    obtain ⟨f, hf, ht, hno⟩ := h
    match k, hf with
    | 0, hf => simp at hf; subst hf; rw [hd] at ht; cases ht
    | 1, hf => rfl
    | k + 2, hf => simp at hf
/-- a part of the spoilt one -/
theorem bad_part {x y : Pk} {at_ : Nat → Nat} {L : List Pk} (h : CutOf x at_ L) (hx : x.body.length ≤ 4000) {k : Nat} (hy : L[k]? = some y) {i now : Nat} {S S' : List Ds} (hS : OvSt x L i S) {out : Option Pk} {dr : Bool} (ha : AddS now y S S' out dr) :
    out = none ∧ dr = true ∧ S' = S := by
  obtain ⟨h1, h2, h3, h4⟩ := hasY h hy
  have hmay := h.may hx hy
  have hhas : Ds.has y (ovB x) = true := by simp [Ds.has, ovB, h1, h2, h3]
  obtain ⟨T, rfl⟩ : ∃ T, S = ovB x :: T := by
    rcases hS with ⟨_, rfl⟩ | ⟨_, _, o, rfl⟩
    · exact ⟨_, rfl⟩
    · exact ⟨_, rfl⟩
  rcases ha with ⟨h0, _⟩ | ⟨_, h0, _⟩ | ⟨_, _, _, e1, e2, e3⟩ | ⟨_, _, hf, _⟩ | ⟨_, _, k, d, hf, hd, hbd, hp⟩ | ⟨_, _, hf, _⟩
  · rw [h4] at h0; cases h0
  · rw [hmay] at h0; cases h0
  · exact ⟨e2, e3, e1⟩
  · have e := hf.head hhas
    cases e
  · have e := hf.head hhas
    cases e
    simp at hd
    subst hd
    cases hbd
  · have e := hf.head hhas
    cases e
theorem pick_ids {x : Pk} {at_ : Nat → Nat} {L : List Pk} (h : CutOf x at_ L) {ks : List Nat} (hk : ∀ k ∈ ks, k < L.length) : ∀ a ∈ pick x L ks, a.id = 5 := by
  intro a ha
  obtain ⟨k, hks, rfl⟩ := List.mem_map.1 ha
  exact (hasY h (pick_get (x := x) (hk k hks))).2.2.1
theorem five_six {P : List Pk} (h : ∀ a ∈ P, a.id = 5) : (P.map six).map five = P := by
  rw [List.map_map]
  have : ∀ a ∈ P, (five ∘ six) a = a := fun a ha => by
    have := h a ha
    cases a
    simp only at this
    subst this
    rfl
  exact (List.map_congr_left this).trans (List.map_id P)
/-- what the other's datagram becomes by its part at i -/
theorem six_put {x y : Pk} {at_ : Nat → Nat} {L : List Pk} (h : CutOf x at_ L) (hfz : x.is = false ∧ x.id = 0 ∧ x.off = 0 ∧ x.more = false) (hn : 1 < L.length) {i : Nat} (hy : L[i]? = some y) {o : Nat} {S' : List Ds} {out : Option Pk} {dr : Bool} {d : Ds} (hd : d = ⟨x.src, x.dst, 6, o, false, (pick x L (List.range i)).map six⟩) (hp : PutS (six y) [ovB x, d] 1 d S' out dr) :
    dr = false ∧ OvSt x L (i + 1) S' ∧ ((i + 1 < L.length ∧ out = none) ∨ (i + 1 = L.length ∧ out = some x)) := by
  have hil := (List.getElem?_eq_some_iff.1 hy).1
  have hr : ∀ k ∈ List.range i, k < L.length := fun k hk => by rw [List.mem_range] at hk; omega
  have hr1 : ∀ k ∈ List.range (i + 1), k < L.length := fun k hk => by rw [List.mem_range] at hk; omega
  have hid := pick_ids h hr
  have hj := judge_pick h List.nodup_range hr hy
  rw [if_neg (by simp), ← judge_six (fun a ha => (hid a ha).trans (hasY h hy).2.2.1.symm)] at hj
  have e0 : pick x L (List.range (i + 1)) = pick x L (List.range i) ++ [y] := by rw [List.range_succ]; exact pick_snoc hy
  have e1 : (pick x L (List.range i)).map six ++ [six y] = (pick x L (List.range (i + 1))).map six := by rw [e0, List.map_append]; rfl
  have hw := whole_iff h List.nodup_range hr1
  rw [List.length_range, ← had_six, ← end_six] at hw
  have hdL : d.L = (pick x L (List.range i)).map six := by rw [hd]
  rcases hp with ⟨h0, _⟩ | ⟨h0, _⟩ | ⟨_, hno, h1, h2, h3⟩ | ⟨_, hyes, h1, ⟨l, hl1, hl2, hl3, hl4⟩, h3⟩
  · rw [hdL, hj] at h0; cases h0
  · rw [hdL, hj] at h0; cases h0
  · rw [hdL, e1] at hno
    have hne : ¬ i + 1 = L.length := fun e => hno (hw.2 e)
    refine ⟨h3, .inr ⟨by omega, by omega, o, ?_⟩, .inl ⟨by omega, h2⟩⟩
    rw [h1, hdL, e1, hd]; rfl
  · rw [hdL, e1] at hyes
    have he := hw.1 hyes
    rw [hdL, e1] at hl1
    have hp2 : (l.map five).Perm (pick x L (List.range (i + 1))) := by
      have := hl1.map five
      rw [five_six (pick_ids h hr1)] at this
      exact this
    have hj2 := join_all (l := l.map five) h hfz List.nodup_range hr1 (by rw [List.length_range]; exact he) hp2 (by
      rw [List.pairwise_map]
      exact hl2)
    rw [join_five] at hj2
    exact ⟨h3, .inl ⟨.inr he, by rw [h1]; rfl⟩, .inr ⟨he, by rw [hl3, hj2]⟩⟩
theorem six_step {x y : Pk} {at_ : Nat → Nat} {L : List Pk} (h : CutOf x at_ L) (hx : x.body.length ≤ 4000) (hfz : x.is = false ∧ x.id = 0 ∧ x.off = 0 ∧ x.more = false) (hn : 1 < L.length) {i : Nat} (hy : L[i]? = some y) {now : Nat} {S S' : List Ds} (hS : OvSt x L i S) {out : Option Pk} {dr : Bool} (ha : AddS now (six y) S S' out dr) :
    dr = false ∧ OvSt x L (i + 1) S' ∧ ((i + 1 < L.length ∧ out = none) ∨ (i + 1 = L.length ∧ out = some x)) := by
  obtain ⟨h1, h2, h3, h4⟩ := hasY h hy
  have hmay : mayB (six y) = true := by have := h.may hx hy; exact this
  have his : (six y).is = true := h4
  have hil := (List.getElem?_eq_some_iff.1 hy).1
  have hnot : Ds.has (six y) (ovB x) = false := by simp [Ds.has, ovB, six]
  have hhas : ∀ o P, Ds.has (six y) ⟨x.src, x.dst, 6, o, false, P⟩ = true := fun o P => by simp [Ds.has, six, h1, h2]
  rcases hS with ⟨hi, rfl⟩ | ⟨hi0, hi1, o, rfl⟩
  · have hi0 : i = 0 := by omega
    subst hi0
    rcases ha with ⟨h0, _⟩ | ⟨_, h0, _⟩ | ⟨_, _, ⟨k, d, hf, _⟩, _⟩ | ⟨_, _, _, h0, _⟩ | ⟨_, _, k, d, hf, _⟩ | ⟨_, _, hf, _, hp⟩
    · rw [his] at h0; cases h0
    · rw [hmay] at h0; cases h0
    · have := hf.skip hnot; cases this
    · simp at h0
    · have := hf.skip hnot; cases this
    · have e : freshS now (six y) = ⟨x.src, x.dst, 6, addU now 60000, false, (pick x L (List.range 0)).map six⟩ := by unfold freshS; rw [← h1, ← h2]; rfl
      exact six_put h hfz hn hy e hp
  · rcases ha with ⟨h0, _⟩ | ⟨_, h0, _⟩ | ⟨_, _, ⟨k, d, hf, hd, hb⟩, _⟩ | ⟨_, _, hf, _⟩ | ⟨_, _, k, d, hf, hd, hb, hp⟩ | ⟨_, _, hf, _⟩
    · rw [his] at h0; cases h0
    · rw [hmay] at h0; cases h0
    · have e := hf.snd hnot (hhas o _)
      cases e
      simp at hd
      rw [← hd] at hb; cases hb
    · have e := hf.snd hnot (hhas o _)
      cases e
    · have e := hf.snd hnot (hhas o _)
      cases e
      simp at hd
      subst hd
      exact six_put h hfz hn hy rfl hp
    · have e := hf.snd hnot (hhas o _)
      cases e
end Go.Proofs.Ytjldcblklbikaaa
