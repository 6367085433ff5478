/- Calls that were reckoned ahead: what is told of them is so. No condition. -/
import Derived.Test.YtfmhjggpcapfoaaGreatZevC
namespace Go.Proofs.YtfmhjggpcapfoaaGreatZev
open Go.RowKit
set_option linter.unusedVariables false
set_option linter.unusedSectionVars false
variable [Sym] [Kin] [Glob]

theorem getD_some {α : Type} {l : List (Option α)} {i : Nat} (h : i < l.length) : l[i]? = some (l.getD i none) := by
  rw [List.getD_eq_getElem?_getD, List.getElem?_eq_getElem h]; rfl
theorem getD_is {α : Type} {l : List (Option α)} {i : Nat} {x : Option α} (h : l[i]? = some x) : l.getD i none = x := by
  rw [List.getD_eq_getElem?_getD, h]; rfl
theorem findIdx_at {s : List Nat} {l i : Nat} (d : Nat) (h : s.findIdx? (· == l) = some i) : i < s.length ∧ s.getD i d = l := by
  obtain ⟨h1, h2, _⟩ := List.findIdx?_eq_some_iff_getElem.1 h
  exact ⟨h1, by rw [List.getD_eq_getElem?_getD, List.getElem?_eq_getElem h1]; exact eq_of_beq h2⟩

/-- what fits, place by place -/
structure Fits (NG : Nat) (e : Memo) (ro : Nat → Bool) (args : List Value) (H : Heap) (s : List Nat) : Prop where
  len : s.length = e.H.length
  rlen : e.ro.length = e.H.length
  le : e.H.length ≤ e.H'.length
  ng : NG ≤ e.H.length
  args : likeVs (fun i => s.getD i H.length) e.args args = true
  lt : ∀ i, i < e.H.length → s.getD i H.length < H.length
  glob : ∀ i, i < e.H.length → i < NG → s.getD i H.length = i
  back : ∀ i, i < e.H.length → s.findIdx? (· == s.getD i H.length) = some i
  roq : ∀ i, i < e.H.length → e.ro.getD i false = ro (s.getD i H.length)
  free : ∀ i, i < e.H.length → freeOf (H.getD (s.getD i H.length) none) = true
  like : ∀ i, i < e.H.length → likeO (fun i => s.getD i H.length) (e.H.getD i none) (H.getD (s.getD i H.length) none) = true
  alive : ∀ i, i < e.H.length → ro (s.getD i H.length) = true → (e.H'.getD i none).isSome = true
theorem Fits.of {NG : Nat} {e : Memo} {ro : Nat → Bool} {args : List Value} {H : Heap} {n : Nat} {s : List Nat} (h : e.fits NG ro args H n s = true) : Fits NG e ro args H s := by
  unfold Memo.fits at h
  simp only [Bool.and_eq_true, beq_iff_eq, decide_eq_true_eq] at h
  obtain ⟨⟨⟨⟨⟨⟨_, h1⟩, h2⟩, h3⟩, h4⟩, h5⟩, h6⟩ := h
  have k : ∀ i, i < e.H.length → _ := fun i hi => List.all_eq_true.1 h6 i (List.mem_range.2 hi)
  simp only [Bool.and_eq_true, Bool.or_eq_true, beq_iff_eq, decide_eq_true_eq, Bool.not_eq_true'] at k
  refine ⟨h1, h2, h3, h4, h5, fun i hi => (k i hi).1.1.1.1.1.1, fun i hi hn => ?_, fun i hi => (k i hi).1.1.1.1.2, fun i hi => (k i hi).1.1.1.2, fun i hi => (k i hi).1.1.2, fun i hi => (k i hi).1.2, fun i hi hr => ?_⟩
  · rcases (k i hi).1.1.1.1.1.2 with h | h
    · omega
    · exact h
  · rcases (k i hi).2 with h | h
    · rw [hr] at h; cases h
    · exact h

section
variable {NG : Nat} {e : Memo} {ro : Nat → Bool} {args : List Value} {H : Heap} {s : List Nat}
theorem Memo.heap_lo (l : Nat) (h : l < H.length) : (e.heap ro H s)[l]? = some (e.old ro H s l) := by
  unfold Memo.heap
  rw [List.getElem?_append_left (by simpa using h), List.getElem?_map, List.getElem?_range h]
  rfl
theorem Memo.heap_hi (l : Nat) (h : H.length ≤ l) : (e.heap ro H s)[l]? = (e.H'[s.length + (l - H.length)]?).map (mapO (forthE s H.length)) := by
  unfold Memo.heap
  rw [List.getElem?_append_right (by simpa using h), List.getElem?_map, List.getElem?_drop]
  simp
/-- the labels' spots behind the call -/
def spotsB (s : List Nat) (β βc' : Env) (l : Nat) : Option Spot :=
  match s.findIdx? (· == l) with
  | some i => βc'.getD i none
  | none => β.getD l none
def spotsE (s : List Nat) (β βc' : Env) : Env := (List.range β.length).map (spotsB s β βc') ++ βc'.drop s.length
theorem spots_lo {β βc' : Env} (l : Nat) (h : l < β.length) : (spotsE s β βc')[l]? = some (spotsB s β βc' l) := by
  unfold spotsE
  rw [List.getElem?_append_left (by simpa using h), List.getElem?_map, List.getElem?_range h]
  rfl
theorem spots_hi {β βc' : Env} (l : Nat) (h : β.length ≤ l) : (spotsE s β βc')[l]? = βc'[s.length + (l - β.length)]? := by
  unfold spotsE
  rw [List.getElem?_append_right (by simpa using h), List.getElem?_drop]
  simp

theorem Memo.call_ok {P : Program} (he : MemoOk P e) (hG : ∀ g l, Glob.lab g = some l → l < NG) {f : FuncId} {n : Nat} {v : Value} {H' : Heap} {obs : List Ob} (h : e.call NG ro f args H n s = some (v, H', obs)) (hobs : ∀ p ∈ obs, p.Holds P)
    {w0 : World} {K : Nat → Prop} {β : Env} {w : World} (hM : M w0 K ro β H w) {args' : Array Value} (ha : LsR β args args'.toList) : Calls P e.f args' w (CallR w0 K ro β H' v) := by
  unfold Memo.call at h
  split at h
  case isFalse => cases h
  rename_i hfit
  have F := Fits.of hfit
  clear hfit
  split at h
  case isFalse => cases h
  rename_i hback
  simp only [Option.some.injEq, Prod.mk.injEq] at h
  obtain ⟨rfl, rfl, rfl⟩ := h
  unfold Memo.back at hback
  simp only [Bool.and_eq_true] at hback
  obtain ⟨hbv, hbo⟩ := hback
  have hbl := hM.len
  generalize hβc : s.map (fun l => β.getD l none) = βc
  have bc_at : ∀ i, i < e.H.length → βc[i]? = β[s.getD i H.length]? := fun i hi => by
    have h1 : s[i]? = some (s.getD i H.length) := by
      have hi' : i < s.length := by rw [F.len]; exact hi
      rw [List.getD_eq_getElem?_getD, List.getElem?_eq_getElem hi']; rfl
    rw [← hβc, List.getElem?_map, h1, getD_some (by rw [hbl]; exact F.lt i hi)]
    rfl
  have bc_len : βc.length = e.H.length := by rw [← hβc, List.length_map, F.len]
  generalize hK' : (fun k => ∃ i p, i < e.H.length ∧ βc[i]? = some (some p) ∧ p.b = k ∧ e.ro.getD i false = false) = K'
  have kk : ∀ {k}, K' k → ∃ i p, i < e.H.length ∧ β[s.getD i H.length]? = some (some p) ∧ p.b = k ∧ ro (s.getD i H.length) = false := by
    intro k hk
    rw [← hK'] at hk
    obtain ⟨i, p, a, b, c, d⟩ := hk
    exact ⟨i, p, a, by rw [← bc_at i a]; exact b, c, by rw [← F.roq i a]; exact d⟩
  have hN : NamedBy (fun i => s.getD i H.length) β βc := fun l y hy => by
    rcases Nat.lt_or_ge l e.H.length with hl | hl
    · rw [bc_at l hl]; exact hy
    · have : s.getD l H.length = H.length := by rw [List.getD_eq_getElem?_getD, List.getElem?_eq_none (by rw [F.len]; exact hl)]; rfl
      have hy : β[s.getD l H.length]? = some y := hy
      rw [this, ← hbl, List.getElem?_eq_none (Nat.le_refl _)] at hy
      cases hy
  have inj : ∀ {i l : Nat} {p q : Spot}, i < e.H.length → β[s.getD i H.length]? = some (some q) → β[l]? = some (some p) → q.b = p.b → s.findIdx? (· == l) = some i := fun {i l p q} hi h1 h2 h3 => by
    have := hM.inj _ _ _ _ h1 h2 h3
    rw [← this]; exact F.back i hi
  have hMc : M w K' (fun l => e.ro.getD l false) βc e.H w := by
    refine ⟨bc_len, fun i o ho => ?_, fun i p hp => ?_, fun i j p q hp hq hb => ?_, fun i p hp => ?_, rfl, rfl, rfl, Nat.le_refl _, fun _ _ _ => rfl, fun g l hg => ?_⟩
    · have hi := (List.getElem?_eq_some_iff.1 ho).1
      have hl := F.like i hi
      rw [getD_is ho] at hl
      obtain ⟨u, hu, hor⟩ := likeO_named hN hl
      obtain ⟨p, o', a, b, c⟩ := hM.obj (s.getD i H.length) u (by rw [getD_some (F.lt i hi), hu])
      exact ⟨p, o', by rw [bc_at i hi]; exact a, b, hor _ _ c⟩
    · have hi : i < e.H.length := by rw [← bc_len]; exact (List.getElem?_eq_some_iff.1 hp).1
      exact hM.lt _ _ (by rw [← bc_at i hi]; exact hp)
    · have hi : i < e.H.length := by rw [← bc_len]; exact (List.getElem?_eq_some_iff.1 hp).1
      have hj : j < e.H.length := by rw [← bc_len]; exact (List.getElem?_eq_some_iff.1 hq).1
      have := inj hi (by rw [← bc_at i hi]; exact hp) (by rw [← bc_at j hj]; exact hq) hb
      rw [F.back j hj] at this
      exact (Option.some.inj this).symm
    · have hi : i < e.H.length := by rw [← bc_len]; exact (List.getElem?_eq_some_iff.1 hp).1
      cases hr : e.ro.getD i false
      · exact .inr (.inl (by rw [← hK']; exact ⟨i, p, hi, hp, rfl, hr⟩))
      · exact .inl rfl
    · have hl := hG g l hg
      have hi : l < e.H.length := Nat.lt_of_lt_of_le hl F.ng
      rw [bc_at l hi, F.glob l hi hl]
      exact hM.glob g l hg
  refine (he hobs w K' w βc args' hMc (likeVs_named hN F.args ha)).mono fun en w' hR => ?_
  obtain ⟨v', βc', hen, hE, hM', hv⟩ := hR
  have hcl : βc'.length = e.H'.length := hM'.len
  have lo : ∀ l, l < H.length → (spotsE s β βc')[l]? = some (spotsB s β βc' l) := fun l hl => spots_lo l (by rw [hbl]; exact hl)
  have hi_ : ∀ l, H.length ≤ l → (spotsE s β βc')[l]? = βc'[e.H.length + (l - H.length)]? := fun l hl => by rw [spots_hi l (by rw [hbl]; exact hl), hbl, F.len]
  have hB : NamedBy (backE s H.length e.H'.length) βc' (spotsE s β βc') := fun l y hy => by
    unfold backE at hy
    split at hy
    · rename_i hl
      rw [lo l hl]
      unfold spotsB
      cases hf : s.findIdx? (· == l) with
      | none =>
        rw [hf] at hy
        simp only [Option.getD_none] at hy
        rw [List.getElem?_eq_none (by rw [hcl]; exact Nat.le_refl _)] at hy
        cases hy
      | some i =>
        rw [hf] at hy
        simp only [Option.getD_some] at hy
        exact congrArg some (getD_is hy)
    · rename_i hl
      rw [hi_ l (by omega), ← F.len]; exact hy
  have hExt : Ext β (spotsE s β βc') := fun l x hx => by
    have hl : l < H.length := by rw [← hbl]; exact (List.getElem?_eq_some_iff.1 hx).1
    rw [lo l hl]
    unfold spotsB
    cases hf : s.findIdx? (· == l) with
    | none => exact .inl (congrArg some (getD_is hx))
    | some i =>
      obtain ⟨h1, h2⟩ := findIdx_at H.length hf
      rw [F.len] at h1
      have hbx : βc[i]? = some x := by rw [bc_at i h1, h2]; exact hx
      rcases hE i x hbx with h | h
      · exact .inl (congrArg some (getD_is h))
      · exact .inr (congrArg some (getD_is h))
  -- where a label lies behind the call
  have sp : ∀ (l : Nat) (p : Spot), (spotsE s β βc')[l]? = some (some p) → (l < H.length ∧ s.findIdx? (· == l) = none ∧ β[l]? = some (some p)) ∨
      (∃ i, l < H.length ∧ i < e.H.length ∧ s.findIdx? (· == l) = some i ∧ βc'[i]? = some (some p) ∧ β[l]? = some (some p)) ∨ (∃ j, H.length ≤ l ∧ j = e.H.length + (l - H.length) ∧ βc'[j]? = some (some p)) := by
    intro l p h
    rcases Nat.lt_or_ge l H.length with hl | hl
    · rw [lo l hl] at h
      unfold spotsB at h
      cases hf : s.findIdx? (· == l) with
      | none =>
        rw [hf] at h
        exact .inl ⟨hl, rfl, by rw [getD_some (by rw [hbl]; exact hl)]; exact h⟩
      | some i =>
        rw [hf] at h
        obtain ⟨h1, h2⟩ := findIdx_at H.length hf
        rw [F.len] at h1
        have hb : βc'[i]? = some (some p) := by rw [getD_some (by rw [hcl]; exact Nat.lt_of_lt_of_le h1 F.le)]; exact h
        refine .inr (.inl ⟨i, hl, h1, rfl, hb, ?_⟩)
        have hx : βc[i]? = some (βc.getD i none) := getD_some (by rw [bc_len]; exact h1)
        rcases hE i _ hx with q | q
        · rw [hb] at q
          rw [← h2, ← bc_at i h1, hx, ← Option.some.inj q]
        · rw [hb] at q; cases q
    · rw [hi_ l hl] at h
      exact .inr (.inr ⟨_, hl, rfl, h⟩)
  have keep : ∀ {l : Nat} {p : Spot}, β[l]? = some (some p) → (∀ i, s.findIdx? (· == l) = some i → ro l = true) → w'.heap[p.b]? = w.heap[p.b]? := fun {l p} hp hr => by
    refine hM'.block _ (hM.lt _ _ hp) fun hk => ?_
    obtain ⟨i, q, a, b, c, d⟩ := kk hk
    have h1 := inj a b hp c
    have h2 := hr i h1
    rw [← (findIdx_at H.length h1).2, d] at h2
    cases h2
  have newOwn : ∀ (j : Nat) (p : Spot), e.H.length ≤ j → βc'[j]? = some (some p) → K' p.b ∨ w.heap.size ≤ p.b := fun j p hj hp => by
    rcases hM'.own j p hp with h | h
    · rw [List.getD_eq_getElem?_getD, List.getElem?_eq_none (by rw [F.rlen]; exact hj)] at h; cases h
    · exact h
  refine ⟨v', spotsE s β βc', hen, hExt, ⟨?_, fun l o ho => ?_, fun l p hp => ?_, fun l l' p p' hp hp' hb => ?_, fun l p hp => ?_, hM'.os.trans hM.os, hM'.tape.trans hM.tape, hM'.output.trans hM.output, Nat.le_trans hM.size hM'.size, fun k hk hnk => ?_, hM.glob.ext hExt⟩, likeV_named hB _ _ _ _ hbv hv⟩
  · unfold spotsE Memo.heap
    simp only [List.length_append, List.length_map, List.length_range, List.length_drop, hbl, hcl]
  · rcases Nat.lt_or_ge l H.length with hl | hl
    · rw [Memo.heap_lo l hl] at ho
      have ho := Option.some.inj ho
      unfold Memo.old at ho
      cases hf : s.findIdx? (· == l) with
      | none =>
        rw [hf] at ho
        simp only at ho
        obtain ⟨p, o', a, b, c⟩ := hM.obj l o (by rw [getD_some hl, ho])
        refine ⟨p, o', ?_, ?_, c.mono hExt⟩
        · rw [lo l hl]; unfold spotsB; rw [hf]; exact congrArg some (getD_is a)
        · rw [keep a (fun i hi => by rw [hf] at hi; cases hi)]; exact b
      | some i =>
        rw [hf] at ho
        simp only at ho
        obtain ⟨h1, h2⟩ := findIdx_at H.length hf
        rw [F.len] at h1
        split at ho
        · rename_i hr
          obtain ⟨p, o', a, b, c⟩ := hM.obj l o (by rw [getD_some hl, ho])
          have hal := F.alive i h1 (by rw [h2]; exact hr)
          obtain ⟨u, hu⟩ := Option.isSome_iff_exists.1 hal
          obtain ⟨p', _, a', _, _⟩ := hM'.obj i u (by rw [getD_some (Nat.lt_of_lt_of_le h1 F.le), hu])
          have hbx : βc[i]? = some (some p) := by rw [bc_at i h1, h2]; exact a
          have hpp : βc'[i]? = some (some p) := by
            rcases hE i _ hbx with q | q
            · exact q
            · rw [a'] at q; cases q
          refine ⟨p, o', ?_, ?_, c.mono hExt⟩
          · rw [lo l hl]; unfold spotsB; rw [hf]; exact congrArg some (getD_is hpp)
          · rw [keep a (fun _ _ => hr)]; exact b
        · have hx : e.H'[i]? = some (e.H'.getD i none) := getD_some (Nat.lt_of_lt_of_le h1 F.le)
          have hlk := List.all_eq_true.1 hbo _ (List.mem_of_getElem? hx)
          rw [ho] at hlk
          obtain ⟨u, hu, hor⟩ := likeO_named hB hlk
          obtain ⟨p, o', a, b, c⟩ := hM'.obj i u (by rw [hx, hu])
          refine ⟨p, o', ?_, b, hor _ _ c⟩
          rw [lo l hl]; unfold spotsB; rw [hf]; exact congrArg some (getD_is a)
    · rw [Memo.heap_hi l hl, Option.map_eq_some_iff] at ho
      obtain ⟨x, hx, ho⟩ := ho
      have hlk := List.all_eq_true.1 hbo _ (List.mem_of_getElem? hx)
      rw [ho] at hlk
      obtain ⟨u, hu, hor⟩ := likeO_named hB hlk
      obtain ⟨p, o', a, b, c⟩ := hM'.obj _ u (by rw [hx, hu])
      refine ⟨p, o', ?_, b, hor _ _ c⟩
      rw [hi_ l hl, ← F.len]; exact a
  · rcases sp l p hp with ⟨_, _, h⟩ | ⟨i, _, _, _, h, _⟩ | ⟨j, _, _, h⟩
    · exact Nat.lt_of_lt_of_le (hM.lt _ _ h) hM'.size
    · exact hM'.lt _ _ h
    · exact hM'.lt _ _ h
  · have A : ∀ {l l' : Nat} {p p' : Spot}, s.findIdx? (· == l) = none → β[l]? = some (some p) → p.b = p'.b → (∃ j, e.H.length ≤ j ∧ βc'[j]? = some (some p')) → False := by
      rintro l l' p p' hf hl hb ⟨j, hj, hq⟩
      rcases newOwn j p' hj hq with h | h
      · obtain ⟨i, q, a, b, c, d⟩ := kk h
        have := inj a b hl (c.trans hb.symm)
        rw [hf] at this; cases this
      · have := hM.lt _ _ hl
        omega
    have B : ∀ {l l' : Nat} {p p' : Spot}, β[l]? = some (some p) → β[l']? = some (some p') → p.b = p'.b → l = l' := fun h1 h2 h3 => hM.inj _ _ _ _ h1 h2 h3
    rcases sp l p hp with ⟨a1, a2, a3⟩ | ⟨i, a1, a2, a3, a4, a5⟩ | ⟨j, a1, a2, a3⟩ <;> rcases sp l' p' hp' with ⟨b1, b2, b3⟩ | ⟨i', b1, b2, b3, b4, b5⟩ | ⟨j', b1, b2, b3⟩
    · exact B a3 b3 hb
    · exact B a3 b5 hb
    · exact (A (l' := 0) a2 a3 hb ⟨j', by omega, b3⟩).elim
    · exact B a5 b3 hb
    · exact B a5 b5 hb
    · have := hM'.inj _ _ _ _ a4 b3 hb
      omega
    · exact (A (l' := 0) b2 b3 hb.symm ⟨j, by omega, a3⟩).elim
    · have := hM'.inj _ _ _ _ a3 b4 hb
      omega
    · have := hM'.inj _ _ _ _ a3 b3 hb
      omega
  · rcases sp l p hp with ⟨_, _, h⟩ | ⟨i, _, _, _, _, h⟩ | ⟨j, a1, a2, h⟩
    · exact hM.own _ _ h
    · exact hM.own _ _ h
    · right
      rcases newOwn j p (by omega) h with h | h
      · obtain ⟨i, q, a, b, c, d⟩ := kk h
        rcases hM.own _ _ b with h | h
        · rw [d] at h; cases h
        · rw [← c]; exact h
      · exact .inr (Nat.le_trans hM.size h)
  · rw [hM'.block k (Nat.lt_of_lt_of_le hk hM.size) fun h => ?_]
    · exact hM.block k hk hnk
    · obtain ⟨i, q, a, b, c, d⟩ := kk h
      rcases hM.own _ _ b with h | h | h
      · rw [d] at h; cases h
      · rw [c] at h; exact hnk h
      · omega
theorem Memo.call_kp {f : FuncId} {n : Nat} {v : Value} {H' : Heap} {obs : List Ob} (h : e.call NG ro f args H n s = some (v, H', obs)) : Kp ro H H' := by
  unfold Memo.call at h
  split at h
  case isFalse => cases h
  rename_i hfit
  have F := Fits.of hfit
  clear hfit
  split at h
  case isFalse => cases h
  rename_i hback
  unfold Memo.back at hback
  simp only [Bool.and_eq_true] at hback
  obtain ⟨_, hbo⟩ := hback
  simp only [Option.some.injEq, Prod.mk.injEq] at h
  obtain ⟨rfl, rfl, rfl⟩ := h
  refine ⟨by unfold Memo.heap; simp, fun l hl hr => ?_, fun l r hl hr => ?_⟩
  · rw [Memo.heap_lo l hl, getD_some hl]
    unfold Memo.old
    split
    · rw [if_pos hr]
    · rfl
  · rw [Memo.heap_lo l hl] at hr
    have hr := Option.some.inj hr
    have hg : H.getD l none = some (.loop r) → ∃ q, H[l]? = some (some (.loop q)) ∧ SameCode r q := fun h => ⟨r, by rw [getD_some hl, h], rfl, rfl, rfl⟩
    unfold Memo.old at hr
    split at hr
    · rename_i i hf
      obtain ⟨h1, h2⟩ := findIdx_at H.length hf
      rw [F.len] at h1
      split at hr
      · exact hg hr
      · have hx : e.H'[i]? = some (e.H'.getD i none) := getD_some (Nat.lt_of_lt_of_le h1 F.le)
        have hlk := List.all_eq_true.1 hbo _ (List.mem_of_getElem? hx)
        rw [hr] at hlk
        simp [likeO] at hlk
    · exact hg hr
end

theorem memoHook_ok {P : Program} {xf : FuncId → Option Outs} {NG : Nat} {tab : List Memo} (ht : ∀ e ∈ tab, MemoOk P e) (hG : ∀ g l, Glob.lab g = some l → l < NG) : HookOk ⟨P, memoHook NG tab, xf⟩ := by
  intro ro f args H n v H' obs hk hobs w0 K β w hM args' ha
  simp only [memoHook] at hk
  split at hk
  · cases hk
  · rename_i l hl
    obtain ⟨e, he, hc⟩ := List.exists_of_findSome?_eq_some hk
    have hm : e ∈ tab ∧ e.f = f := by
      have := List.mem_filter.1 he
      exact ⟨this.1, eq_of_beq this.2⟩
    have := Memo.call_ok (ht e hm.1) hG hc hobs hM ha
    rw [hm.2] at this
    exact this
theorem allNil {P : Program} : ∀ e ∈ ([] : List Memo), MemoOk P e := fun e h => by cases h
theorem allCons {P : Program} {m : Memo} {l : List Memo} (h : MemoOk P m) (k : ∀ e ∈ l, MemoOk P e) : ∀ e ∈ m :: l, MemoOk P e := fun e he => by
  rcases List.mem_cons.1 he with rfl | he
  · exact h
  · exact k e he
theorem memoHook_kp {NG : Nat} {tab : List Memo} : HookKp (memoHook NG tab) := by
  intro ro f args H n v H' obs hk
  simp only [memoHook] at hk
  split at hk
  · cases hk
  · obtain ⟨e, he, hc⟩ := List.exists_of_findSome?_eq_some hk
    exact Memo.call_kp hc
end Go.Proofs.YtfmhjggpcapfoaaGreatZev
