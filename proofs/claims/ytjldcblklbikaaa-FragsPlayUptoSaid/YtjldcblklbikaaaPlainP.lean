/- Several texts in one: PlainP, PlainW, PlainC. No condition beyond those that each part names. -/
import Derived.Lib.Hide
/- Parts of datagrams, put together: what the chapter's calls compute, in plain words. No program in sight. No condition. -/
namespace Go.Proofs.Ytjldcblklbikaaa
set_option linter.unusedVariables false
set_option linter.unusedSimpArgs false
/-- a packet, as far as it is data -/
structure Pk where
  src : List Nat
  dst : List Nat
  hops : Nat
  alert : Bool
  is : Bool
  id : Nat
  off : Nat
  more : Bool
  next : Nat
  body : List Nat
def frm (x : Pk) : Nat := x.off * 8
def too (x : Pk) : Nat := frm x + x.body.length
def mayB (x : Pk) : Bool := decide (too x ≤ 16384) && (!x.more || (decide (0 < x.body.length) && decide (x.body.length % 8 = 0)))
def sameB (a b : Pk) : Bool := (a.is == b.is && a.id == b.id && a.off == b.off && a.more == b.more) && a.body == b.body
def beyondB (a b : Pk) : Bool := (!a.more && decide (too a < too b)) || (!b.more && decide (too b < too a))
def clashB (a b : Pk) : Bool := beyondB a b || decide (max (frm a) (frm b) < min (too a) (too b))
/-- what becomes of a part: it fits, it is there, it spoils -/
def judgeN (P : List Pk) (x : Pk) : Nat := if P.any (sameB · x) then 1 else if decide (P.length = 32) || P.any (clashB · x) then 2 else 0
def hadN (P : List Pk) : Nat := (P.map (·.body.length)).sum
/-- where the last part ends; below nought: it did not come -/
def endZ (P : List Pk) : Int := P.foldl (fun e x => if x.more then e else (too x : Int)) (-1)
theorem hadN_snoc (P : List Pk) (x : Pk) : hadN (P ++ [x]) = hadN P + x.body.length := by simp [hadN]
theorem endZ_snoc (P : List Pk) (x : Pk) : endZ (P ++ [x]) = if x.more then endZ P else (too x : Int) := by simp [endZ]
/-! ### a datagram cut into parts -/
/-- L is x, cut at the places 'at_' -/
structure CutOf (x : Pk) (at_ : Nat → Nat) (L : List Pk) : Prop where
  pos : 0 < L.length
  most : L.length ≤ 32
  zero : at_ 0 = 0
  last : at_ L.length = x.body.length
  step : ∀ k, k + 1 < L.length → at_ k < at_ (k + 1)
  tail : 1 < L.length → at_ (L.length - 1) < at_ L.length
  le : at_ (L.length - 1) ≤ at_ L.length
  eight : ∀ k, k < L.length → at_ k % 8 = 0
  part : ∀ k y, L[k]? = some y → y = { x with is := true, id := 5, off := at_ k / 8, more := decide (k + 1 < L.length), body := (x.body.drop (at_ k)).take (at_ (k + 1) - at_ k) }
theorem CutOf.lt {x : Pk} {at_ : Nat → Nat} {L : List Pk} (h : CutOf x at_ L) : ∀ {k : Nat}, k < L.length → 1 < L.length → at_ k < at_ (k + 1) := fun {k} hk h1 => by
  by_cases hl : k + 1 < L.length
  · exact h.step k hl
  · have := h.tail h1
    have e : k = L.length - 1 := by omega
    rw [e, show L.length - 1 + 1 = L.length by omega]; exact this
theorem CutOf.le_step {x : Pk} {at_ : Nat → Nat} {L : List Pk} (h : CutOf x at_ L) {k : Nat} (hk : k < L.length) : at_ k ≤ at_ (k + 1) := by
  by_cases h1 : 1 < L.length
  · exact Nat.le_of_lt (h.lt hk h1)
  · have e1 : L.length = 1 := by have := h.pos; omega
    have e : k = 0 := by omega
    have := h.le
    rw [e1] at this
    rw [e]; exact this
theorem CutOf.mono {x : Pk} {at_ : Nat → Nat} {L : List Pk} (h : CutOf x at_ L) : ∀ (d : Nat) {j : Nat}, j + d ≤ L.length → at_ j ≤ at_ (j + d)
  | 0, _, _ => Nat.le_refl _
  | d + 1, j, hd => Nat.le_trans (h.mono d (j := j) (by omega)) (h.le_step (k := j + d) (by omega))
theorem CutOf.smono {x : Pk} {at_ : Nat → Nat} {L : List Pk} (h : CutOf x at_ L) {i j : Nat} (hij : i < j) (hj : j < L.length) : at_ (i + 1) ≤ at_ j ∧ at_ i < at_ j := by
  have h1 := h.lt (k := i) (by omega) (by omega)
  have h2 := h.mono (j - (i + 1)) (j := i + 1) (by omega)
  rw [show i + 1 + (j - (i + 1)) = j by omega] at h2
  exact ⟨h2, by omega⟩
theorem CutOf.atle {x : Pk} {at_ : Nat → Nat} {L : List Pk} (h : CutOf x at_ L) {k : Nat} (hk : k ≤ L.length) : at_ k ≤ x.body.length := by
  have := h.mono (L.length - k) (j := k) (by omega)
  rw [show k + (L.length - k) = L.length by omega, h.last] at this
  exact this
/-- of a part: where it is, what it has -/
theorem CutOf.at' {x : Pk} {at_ : Nat → Nat} {L : List Pk} (h : CutOf x at_ L) {k : Nat} {y : Pk} (hy : L[k]? = some y) : frm y = at_ k ∧ too y = at_ (k + 1) ∧ y.body.length = at_ (k + 1) - at_ k ∧ y.more = decide (k + 1 < L.length) ∧ y.is = true ∧ y.id = 5 ∧ y.off = at_ k / 8 := by
  have hk : k < L.length := (List.getElem?_eq_some_iff.1 hy).1
  have e := h.part k y hy
  have h8 := h.eight k hk
  have hle := h.le_step hk
  have hb := h.atle (k := k + 1) (by omega)
  have h1 : y.off = at_ k / 8 := by rw [e]
  have h2 : y.body.length = at_ (k + 1) - at_ k := by rw [e]; simp; omega
  have h3 : frm y = at_ k := by unfold frm; rw [h1]; omega
  refine ⟨h3, ?_, h2, by rw [e], by rw [e], by rw [e], h1⟩
  unfold too; rw [h3, h2]; omega
theorem CutOf.may {x : Pk} {at_ : Nat → Nat} {L : List Pk} (h : CutOf x at_ L) (hx : x.body.length ≤ 4000) {k : Nat} {y : Pk} (hy : L[k]? = some y) : mayB y = true := by
  have hk : k < L.length := (List.getElem?_eq_some_iff.1 hy).1
  obtain ⟨h1, h2, h3, h4, _⟩ := h.at' hy
  have hb := h.atle (k := k + 1) (by omega)
  unfold mayB
  rw [decide_eq_true (by omega : too y ≤ 16384), Bool.true_and, h4]
  by_cases hm : k + 1 < L.length
  · have e8 := h.eight (k + 1) hm
    have e9 := h.eight k hk
    have := h.step k hm
    rw [decide_eq_true hm, decide_eq_true (by omega : 0 < y.body.length), decide_eq_true (by omega : y.body.length % 8 = 0)]; rfl
  · rw [decide_eq_false hm]; rfl
theorem CutOf.same {x : Pk} {at_ : Nat → Nat} {L : List Pk} (h : CutOf x at_ L) {j k : Nat} {y z : Pk} (hy : L[j]? = some y) (hz : L[k]? = some z) : sameB y z = decide (j = k) := by
  by_cases e : j = k
  · subst e
    rw [hy] at hz; cases hz
    simp [sameB]
  · rw [decide_eq_false e]
    obtain ⟨h1, _, _, _, _, _, h7⟩ := h.at' hy
    obtain ⟨k1, _, _, _, _, _, k7⟩ := h.at' hz
    have hj : j < L.length := (List.getElem?_eq_some_iff.1 hy).1
    have hk : k < L.length := (List.getElem?_eq_some_iff.1 hz).1
    have hne : y.off ≠ z.off := by
      intro e2
      have : frm y = frm z := by unfold frm; rw [e2]
      rw [h1, k1] at this
      rcases Nat.lt_or_gt_of_ne e with hlt | hlt
      · have := (h.smono hlt hk).2; omega
      · have := (h.smono hlt hj).2; omega
    unfold sameB
    rw [show (y.off == z.off) = false by simpa using hne]
    simp
theorem CutOf.clash {x : Pk} {at_ : Nat → Nat} {L : List Pk} (h : CutOf x at_ L) {j k : Nat} {y z : Pk} (hy : L[j]? = some y) (hz : L[k]? = some z) (e : j ≠ k) : clashB y z = false := by
  obtain ⟨h1, h2, _, h4, _⟩ := h.at' hy
  obtain ⟨k1, k2, _, k4, _⟩ := h.at' hz
  have hj : j < L.length := (List.getElem?_eq_some_iff.1 hy).1
  have hk : k < L.length := (List.getElem?_eq_some_iff.1 hz).1
  have hb1 : beyondB y z = false := by
    unfold beyondB
    rw [h2, k2, h4, k4]
    have a1 := h.mono (L.length - (j + 1)) (j := j + 1) (by omega)
    have a2 := h.mono (L.length - (k + 1)) (j := k + 1) (by omega)
    rw [show j + 1 + (L.length - (j + 1)) = L.length by omega] at a1
    rw [show k + 1 + (L.length - (k + 1)) = L.length by omega] at a2
    simp only [Bool.or_eq_false_iff, Bool.and_eq_false_iff, Bool.not_eq_false', decide_eq_true_eq, decide_eq_false_iff_not]
    refine ⟨?_, ?_⟩
    · by_cases hm : j + 1 < L.length
      · exact .inl hm
      · right; rw [show j + 1 = L.length by omega]; omega
    · by_cases hm : k + 1 < L.length
      · exact .inl hm
      · right; rw [show k + 1 = L.length by omega]; omega
  unfold clashB
  rw [hb1, Bool.false_or, decide_eq_false_iff_not, h1, h2, k1, k2]
  rcases Nat.lt_or_gt_of_ne e with hlt | hlt
  · have := (h.smono hlt hk).1; omega
  · have := (h.smono hlt hj).1; omega
end Go.Proofs.Ytjldcblklbikaaa

/- A datagram cut into parts, the parts in whatever order: when it is whole, and what it is then. No program in sight. No condition. -/
namespace Go.Proofs.Ytjldcblklbikaaa
set_option linter.unusedVariables false
set_option linter.unusedSimpArgs false
def sumF (f : Nat → Nat) (ks : List Nat) : Nat := (ks.map f).sum
theorem sumF_append (f : Nat → Nat) (a b : List Nat) : sumF f (a ++ b) = sumF f a + sumF f b := by simp [sumF]
theorem sumF_perm (f : Nat → Nat) {a b : List Nat} (h : a.Perm b) : sumF f a = sumF f b := (h.map f).sum_nat
theorem fill_range : ∀ (n : Nat) (ks : List Nat), ks.Nodup → (∀ k ∈ ks, k < n) → ∃ T, (ks ++ T).Perm (List.range n)
  | 0, ks, _, h => by
    have : ks = [] := List.eq_nil_iff_forall_not_mem.2 fun k hk => by have := h k hk; omega
    exact ⟨[], by subst this; simp⟩
  | n + 1, ks, nd, h => by
    by_cases hn : n ∈ ks
    · have p := List.perm_cons_erase hn
      obtain ⟨T, hT⟩ := fill_range n (ks.erase n) (nd.erase n) (fun k hk => by
        have h1 := h k (List.mem_of_mem_erase hk)
        have : k ≠ n := fun e => by subst e; exact nd.not_mem_erase hk
        omega)
      refine ⟨T, ?_⟩
      rw [List.range_succ]
      exact (p.append_right T).trans ((List.Perm.cons n hT).trans (List.perm_append_comm (l₁ := [n])))
    · obtain ⟨T, hT⟩ := fill_range n ks nd (fun k hk => by have h1 := h k hk; have : k ≠ n := fun e => hn (e ▸ hk); omega)
      refine ⟨T ++ [n], ?_⟩
      rw [List.range_succ, ← List.append_assoc]
      exact hT.append_right [n]
theorem nodup_len {n : Nat} {ks : List Nat} (nd : ks.Nodup) (h : ∀ k ∈ ks, k < n) : ks.length ≤ n := by
  obtain ⟨T, hT⟩ := fill_range n ks nd h
  have := hT.length_eq
  simp at this; omega
theorem nodup_all {n : Nat} {ks : List Nat} (nd : ks.Nodup) (h : ∀ k ∈ ks, k < n) (e : ks.length = n) : ks.Perm (List.range n) := by
  obtain ⟨T, hT⟩ := fill_range n ks nd h
  have := hT.length_eq
  simp at this
  have hT0 : T = [] := List.length_eq_zero_iff.1 (by omega)
  subst hT0
  simpa using hT
/-- the parts by their numbers -/
def pick (x : Pk) (L : List Pk) (ks : List Nat) : List Pk := ks.map fun k => L.getD k x
theorem pick_range (x : Pk) (L : List Pk) : pick x L (List.range L.length) = L := by
  refine List.ext_getElem? fun i => ?_
  unfold pick
  rw [List.getElem?_map]
  by_cases h : i < L.length
  · rw [List.getElem?_range h, Option.map_some, List.getD_eq_getElem?_getD, List.getElem?_eq_getElem h]; rfl
  · rw [List.getElem?_eq_none (by simp; omega), List.getElem?_eq_none (by omega)]; rfl
theorem pick_get {x : Pk} {L : List Pk} {k : Nat} (h : k < L.length) : L[k]? = some (L.getD k x) := by
  rw [List.getD_eq_getElem?_getD, List.getElem?_eq_getElem h]; rfl
theorem had_pick {x : Pk} {at_ : Nat → Nat} {L : List Pk} (h : CutOf x at_ L) : ∀ {ks : List Nat}, (∀ k ∈ ks, k < L.length) → hadN (pick x L ks) = sumF (fun k => at_ (k + 1) - at_ k) ks
  | [], _ => rfl
  | k :: ks, hk => by
    have h1 := (h.at' (pick_get (x := x) (hk k List.mem_cons_self))).2.2.1
    have h2 := had_pick h (ks := ks) (fun j hj => hk j (List.mem_cons_of_mem _ hj))
    unfold hadN pick sumF at *
    simp only [List.map_cons, List.sum_cons]
    rw [h1, h2]
theorem sum_range {x : Pk} {at_ : Nat → Nat} {L : List Pk} (h : CutOf x at_ L) : ∀ {m : Nat}, m ≤ L.length → sumF (fun k => at_ (k + 1) - at_ k) (List.range m) = at_ m
  | 0, _ => by rw [h.zero]; rfl
  | m + 1, hm => by
    rw [List.range_succ, sumF_append, sum_range h (by omega)]
    have := h.le_step (k := m) (by omega)
    simp [sumF]; omega
theorem end_pick {x : Pk} {at_ : Nat → Nat} {L : List Pk} (h : CutOf x at_ L) (ks : List Nat) (hk : ∀ k ∈ ks, k < L.length) : endZ (pick x L ks) = if L.length - 1 ∈ ks then (x.body.length : Int) else -1 := by
  have key : ∀ r : List Nat, (∀ k ∈ r, k < L.length) → endZ (pick x L r.reverse) = if L.length - 1 ∈ r then (x.body.length : Int) else -1 := by
    intro r
    induction r with
    | nil => intro _; rfl
    | cons k r ih =>
      intro hr
      have hk := hr k List.mem_cons_self
      have ih := ih (fun j hj => hr j (List.mem_cons_of_mem _ hj))
      obtain ⟨_, h2, _, h4, _⟩ := h.at' (pick_get (x := x) hk)
      have e : pick x L (k :: r).reverse = pick x L r.reverse ++ [L.getD k x] := by simp [pick]
      rw [e, endZ_snoc, h4, ih]
      by_cases hm : k + 1 < L.length
      · have hne : L.length - 1 ≠ k := by omega
        rw [decide_eq_true hm, if_pos rfl]
        simp [hne]
      · have he : L.length - 1 = k := by omega
        rw [decide_eq_false hm, if_neg (by simp), h2, if_pos (by rw [he]; exact List.mem_cons_self)]
        rw [show k + 1 = L.length by omega, h.last]
  have := key ks.reverse (fun k hk' => hk k (List.mem_reverse.1 hk'))
  rw [List.reverse_reverse] at this
  rw [this]; simp
theorem whole_iff {x : Pk} {at_ : Nat → Nat} {L : List Pk} (h : CutOf x at_ L) {ks : List Nat} (nd : ks.Nodup) (hk : ∀ k ∈ ks, k < L.length) : ((hadN (pick x L ks) : Int) = endZ (pick x L ks)) ↔ ks.length = L.length := by
  obtain ⟨T, hT⟩ := fill_range L.length ks nd hk
  have hs := sumF_perm (fun k => at_ (k + 1) - at_ k) hT
  rw [sumF_append, sum_range h (Nat.le_refl _), h.last] at hs
  have hl := hT.length_eq
  rw [List.length_append, List.length_range] at hl
  rw [had_pick h hk, end_pick h ks hk]
  have hpos := h.pos
  constructor
  · intro e
    refine Classical.byContradiction fun hne => ?_
    have hT0 : T ≠ [] := fun e0 => by subst e0; simp at hl; omega
    obtain ⟨t, T', rfl⟩ := List.exists_cons_of_ne_nil hT0
    by_cases hm : L.length - 1 ∈ ks
    · rw [if_pos hm] at e
      have h1 : 0 < ks.length := List.length_pos_of_mem hm
      have ht : t < L.length := by
        have := hT.mem_iff (a := t)
        simp at this; exact this
      have hlt := h.lt ht (by simp at hl; omega)
      simp only [sumF, List.map_cons, List.sum_cons] at hs e
      omega
    · rw [if_neg hm] at e; omega
  · intro e
    have hT0 : T = [] := List.length_eq_zero_iff.1 (by omega)
    subst hT0
    have hm : L.length - 1 ∈ ks := by
      have := hT.mem_iff (a := L.length - 1)
      simp at this; exact this.2 (by omega)
    rw [if_pos hm]
    simp [sumF] at hs ⊢; omega
theorem judge_pick {x y : Pk} {at_ : Nat → Nat} {L : List Pk} (h : CutOf x at_ L) {ks : List Nat} (nd : ks.Nodup) (hk : ∀ k ∈ ks, k < L.length) {j : Nat} (hy : L[j]? = some y) : judgeN (pick x L ks) y = if j ∈ ks then 1 else 0 := by
  have e1 : (pick x L ks).any (sameB · y) = decide (j ∈ ks) := by
    rw [Bool.eq_iff_iff, List.any_eq_true, decide_eq_true_eq]
    constructor
    · rintro ⟨z, hz, hs⟩
      obtain ⟨k, hks, rfl⟩ := List.mem_map.1 hz
      rw [h.same (pick_get (hk k hks)) hy, decide_eq_true_eq] at hs
      rw [← hs]; exact hks
    · intro hj
      exact ⟨L.getD j x, List.mem_map.2 ⟨j, hj, rfl⟩, by rw [h.same (pick_get (hk j hj)) hy]; simp⟩
  unfold judgeN
  rw [e1]
  by_cases hj : j ∈ ks
  · rw [decide_eq_true hj, if_pos rfl, if_pos hj]
  · rw [decide_eq_false hj, if_neg (by simp), if_neg hj]
    have hjl : j < L.length := (List.getElem?_eq_some_iff.1 hy).1
    have hlen : ks.length ≠ 32 := by
      have h1 : (j :: ks).Nodup := List.nodup_cons.2 ⟨hj, nd⟩
      have := nodup_len (n := L.length) h1 (fun k hk' => by
        rcases List.mem_cons.1 hk' with e | hk'
        · rw [e]; exact hjl
        · exact hk k hk')
      have := h.most
      simp at *; omega
    have e2 : (pick x L ks).any (clashB · y) = false := by
      rw [List.any_eq_false]
      intro z hz
      obtain ⟨k, hks, rfl⟩ := List.mem_map.1 hz
      rw [h.clash (pick_get (hk k hks)) hy (fun e => hj (e ▸ hks))]
      simp
    rw [e2]
    have e3 : (pick x L ks).length = ks.length := by simp [pick]
    rw [e3, decide_eq_false hlen]; rfl
/-- what sorted parts make -/
def joinP (l : List Pk) : Option Pk := l.head?.map fun x => { x with is := false, id := 0, off := 0, more := false, body := l.flatMap (·.body) }
theorem cut_up {x : Pk} {at_ : Nat → Nat} {L : List Pk} (h : CutOf x at_ L) : L.Pairwise fun a b => frm a < frm b := by
  rw [List.pairwise_iff_getElem]
  intro i j hi hj hij
  have h1 := (h.at' (List.getElem?_eq_getElem hi)).1
  have h2 := (h.at' (List.getElem?_eq_getElem hj)).1
  rw [h1, h2]
  exact (h.smono hij hj).2
theorem drop_take_body {l : List Nat} {a b c : Nat} (h1 : a ≤ b) (h2 : b ≤ c) : (l.drop a).take (b - a) ++ (l.drop b).take (c - b) = (l.drop a).take (c - a) := by
  have : c - a = (b - a) + (c - b) := by omega
  rw [this, List.take_add, List.drop_drop, show a + (b - a) = b by omega]
theorem cut_bodies {x : Pk} {at_ : Nat → Nat} {L : List Pk} (h : CutOf x at_ L) : ∀ (m : Nat), m ≤ L.length → (L.take m).flatMap (·.body) = x.body.take (at_ m)
  | 0, _ => by rw [h.zero]; simp
  | m + 1, hm => by
    have hg : L[m]? = some (L.getD m x) := pick_get (by omega)
    have e : L.take (m + 1) = L.take m ++ [L.getD m x] := by rw [List.take_add_one, hg]; rfl
    have hb : (L.getD m x).body = (x.body.drop (at_ m)).take (at_ (m + 1) - at_ m) := by rw [h.part m _ hg]
    have hle := h.le_step (k := m) (by omega)
    have := drop_take_body (l := x.body) (Nat.zero_le (at_ m)) hle
    rw [e, List.flatMap_append, cut_bodies h m (by omega)]
    simp only [List.flatMap_cons, List.flatMap_nil, List.append_nil]
    rw [hb]; simpa using this
/-- all parts, sorted, are the datagram -/
theorem join_all {x : Pk} {at_ : Nat → Nat} {L l : List Pk} (h : CutOf x at_ L) (hx : x.is = false ∧ x.id = 0 ∧ x.off = 0 ∧ x.more = false) {ks : List Nat} (nd : ks.Nodup) (hk : ∀ k ∈ ks, k < L.length) (e : ks.length = L.length) (hp : l.Perm (pick x L ks)) (hs : l.Pairwise fun a b => frm a ≤ frm b) : joinP l = some x := by
  have p1 : (pick x L ks).Perm L := by
    have := (nodup_all nd hk e).map fun k => L.getD k x
    rw [show (List.range L.length).map (fun k => L.getD k x) = L from pick_range x L] at this
    exact this
  have up := cut_up h
  have hl : l = L := by
    refine List.Perm.eq_of_pairwise (le := fun a b => frm a ≤ frm b) ?_ hs (up.imp fun h => Nat.le_of_lt h) (hp.trans p1)
    intro a b ha hb h1 h2
    have hb' : b ∈ L := hb
    have ha' : a ∈ L := (hp.trans p1).mem_iff.1 ha
    obtain ⟨i, hi⟩ := List.getElem?_of_mem ha'
    obtain ⟨j, hj⟩ := List.getElem?_of_mem hb'
    have e1 := (h.at' hi).1
    have e2 := (h.at' hj).1
    have hi' := (List.getElem?_eq_some_iff.1 hi).1
    have hj' := (List.getElem?_eq_some_iff.1 hj).1
    rcases Nat.lt_trichotomy i j with hlt | rfl | hlt
    · have := (h.smono hlt hj').2; omega
    · rw [hi] at hj; exact Option.some.inj hj
    · have := (h.smono hlt hi').2; omega
  subst hl
  have hpos := h.pos
  have h0 : l[0]? = some (l.getD 0 x) := pick_get hpos
  have hb := cut_bodies h l.length (Nat.le_refl _)
  rw [List.take_length, h.last, List.take_length] at hb
  unfold joinP
  rw [← List.head?_eq_getElem?] at h0
  rw [h0, Option.map_some, hb]
  have hg : l[0]? = some (l.getD 0 x) := pick_get hpos
  rw [h.part 0 _ hg]
  obtain ⟨a, b, c, d⟩ := hx
  cases x
  simp only at a b c d
  subst a b c d
  rfl
end Go.Proofs.Ytjldcblklbikaaa

/- Cutting a datagram into parts, part by part. No program in sight. No condition. -/
namespace Go.Proofs.Ytjldcblklbikaaa
set_option linter.unusedVariables false
set_option linter.unusedSimpArgs false
/-- where part j begins, C being the ends of the parts -/
def atF (C : List Nat) (len j : Nat) : Nat := if j = 0 then 0 else C.getD (j - 1) len
theorem atF_app {C D : List Nat} {len j : Nat} (h : j ≤ C.length) : atF (C ++ D) len j = atF C len j := by
  unfold atF
  by_cases h0 : j = 0
  · rw [if_pos h0, if_pos h0]
  · rw [if_neg h0, if_neg h0, List.getD_eq_getElem?_getD, List.getD_eq_getElem?_getD, List.getElem?_append_left (by omega)]
theorem atF_new {C : List Nat} {z len : Nat} : atF (C ++ [z]) len (C.length + 1) = z := by
  unfold atF
  rw [if_neg (by omega), List.getD_eq_getElem?_getD, List.getElem?_append_right (by omega)]
  simp
theorem atF_last {C : List Nat} {len : Nat} : atF C len (C.length + 1) = len := by
  unfold atF
  rw [if_neg (by omega), List.getD_eq_getElem?_getD, List.getElem?_eq_none (by omega)]; rfl
def partP (x : Pk) (a b : Nat) (mo : Bool) : Pk := { x with is := true, id := 5, off := a / 8, more := mo, body := (x.body.drop a).take (b - a) }
/-- parts so far, all with others behind -/
structure CutPre (x : Pk) (C : List Nat) (L : List Pk) (z : Nat) : Prop where
  len : C.length = L.length
  most : L.length ≤ 31
  cur : atF C x.body.length L.length = z
  step : ∀ j, j < L.length → atF C x.body.length j < atF C x.body.length (j + 1)
  eight : ∀ j, j ≤ L.length → atF C x.body.length j % 8 = 0
  low : 0 < L.length → z < x.body.length
  part : ∀ k y, L[k]? = some y → y = partP x (atF C x.body.length k) (atF C x.body.length (k + 1)) true
theorem CutPre.nil (x : Pk) : CutPre x [] [] 0 := ⟨rfl, by simp, rfl, fun j hj => by simp at hj, fun j hj => (by
  have : j = 0 := by simpa using hj
  subst this; rfl), fun h => by simp at h, fun k y h => by simp at h⟩
theorem CutPre.le {x : Pk} {C : List Nat} {L : List Pk} {z : Nat} (h : CutPre x C L z) : z ≤ x.body.length := by
  by_cases h0 : 0 < L.length
  · exact Nat.le_of_lt (h.low h0)
  · have e : L.length = 0 := by omega
    have := h.cur
    rw [e] at this
    have h2 : atF C x.body.length 0 = 0 := rfl
    omega
theorem CutPre.z8 {x : Pk} {C : List Nat} {L : List Pk} {z : Nat} (h : CutPre x C L z) : z % 8 = 0 := by
  have := h.eight L.length (Nat.le_refl _)
  rw [h.cur] at this; exact this
theorem CutPre.snoc {x : Pk} {C : List Nat} {L : List Pk} {z n : Nat} (h : CutPre x C L z) (hn : 0 < n) (h8 : n % 8 = 0) (hlt : z + n < x.body.length) (hm : L.length < 31) : CutPre x (C ++ [z + n]) (L ++ [partP x z (z + n) true]) (z + n) := by
  have hl := h.len
  have e1 : ∀ j, j ≤ L.length → atF (C ++ [z + n]) x.body.length j = atF C x.body.length j := fun j hj => atF_app (by omega)
  have e2 : atF (C ++ [z + n]) x.body.length (L.length + 1) = z + n := by rw [← hl]; exact atF_new
  refine ⟨by simp [hl], by rw [List.length_append, List.length_singleton]; omega, by rw [List.length_append, List.length_singleton]; exact e2, fun j hj => ?_, fun j hj => ?_, fun _ => hlt, fun k y hy => ?_⟩
  · rw [List.length_append, List.length_singleton] at hj
    by_cases e : j = L.length
    · subst e
      rw [e1 _ (Nat.le_refl _), e2, h.cur]; omega
    · rw [e1 j (by omega), e1 (j + 1) (by omega)]
      exact h.step j (by omega)
  · rw [List.length_append, List.length_singleton] at hj
    by_cases e : j = L.length + 1
    · subst e
      rw [e2]
      have := h.z8
      omega
    · rw [e1 j (by omega)]
      exact h.eight j (by omega)
  · by_cases e : k = L.length
    · subst e
      rw [List.getElem?_append_right (Nat.le_refl _)] at hy
      simp at hy
      rw [e1 _ (Nat.le_refl _), e2, h.cur, hy]
    · have hk : k < L.length := by
        have := (List.getElem?_eq_some_iff.1 hy).1
        simp at this; omega
      rw [List.getElem?_append_left hk] at hy
      rw [e1 k (by omega), e1 (k + 1) (by omega)]
      exact h.part k y hy
theorem CutPre.done {x : Pk} {C : List Nat} {L : List Pk} {z : Nat} (h : CutPre x C L z) : CutOf x (atF C x.body.length) (L ++ [partP x z x.body.length false]) := by
  have hl := h.len
  have e2 : atF C x.body.length (L.length + 1) = x.body.length := by rw [← hl]; exact atF_last
  have hlen : (L ++ [partP x z x.body.length false]).length = L.length + 1 := by simp
  refine ⟨by rw [hlen]; omega, by rw [hlen]; have := h.most; omega, rfl, by rw [hlen]; exact e2, fun k hk => ?_, fun hk => ?_, ?_, fun k hk => ?_, fun k y hy => ?_⟩
  · rw [hlen] at hk
    exact h.step k (by omega)
  · rw [hlen] at hk ⊢
    rw [Nat.add_sub_cancel, e2, h.cur]
    exact h.low (by omega)
  · rw [hlen, Nat.add_sub_cancel, e2, h.cur]
    exact h.le
  · rw [hlen] at hk
    exact h.eight k (by omega)
  · rw [hlen]
    by_cases e : k = L.length
    · subst e
      rw [List.getElem?_append_right (Nat.le_refl _)] at hy
      simp at hy
      rw [e2, h.cur, ← hy, decide_eq_false (by omega)]
      rfl
    · have hk : k < L.length := by
        have := (List.getElem?_eq_some_iff.1 hy).1
        simp at this; omega
      rw [List.getElem?_append_left hk] at hy
      rw [decide_eq_true (by omega)]
      exact h.part k y hy
end Go.Proofs.Ytjldcblklbikaaa
