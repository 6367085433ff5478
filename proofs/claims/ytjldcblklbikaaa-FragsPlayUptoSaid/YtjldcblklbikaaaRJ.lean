/- Several texts in one: RI, RJ, RL. No condition beyond those that each part names. -/
import Derived.Test.YtjldcblklbikaaaRH
import Derived.Test.YtjldcblklbikaaaFP
import Derived.Great.BuildSlice
/- The reference's pool changed, in memory. No condition beyond those named. -/
namespace Go.Proofs.Ytjldcblklbikaaa
open Go.RowKit
set_option linter.unusedVariables false
set_option linter.unusedSimpArgs false
/-- what a call leaves of the reference's pool -/
structure RefMem (mb : Nat) (rv : Value) (R : List Dg) (w w' : World) (rv' : Value) (R' : List Dg) : Prop where
  pool : RefAt w' mb rv' R'
  kept : Kept (rfoot mb rv R) w w'
  foot : ∀ k, rfoot mb rv' R' k → rfoot mb rv R k ∨ w.heap.size ≤ k
  bods : ∀ k, bods R' k → bods R k ∨ w.heap.size ≤ k
theorem RefMem.refl {mb : Nat} {rv : Value} {R : List Dg} {w : World} (h : RefAt w mb rv R) : RefMem mb rv R w w rv R := ⟨h, Kept.refl _ _, fun _ h => .inl h, fun _ h => .inl h⟩
theorem RefMem.trans {mb : Nat} {rv rv1 rv2 : Value} {R R1 R2 : List Dg} {a b c : World} (h : RefMem mb rv R a b rv1 R1) (k : RefMem mb rv1 R1 b c rv2 R2) : RefMem mb rv R a c rv2 R2 where
  pool := k.pool
  kept := h.kept.trans k.kept (fun i hi hf => (h.foot i hf).resolve_right (by omega))
  foot := fun i hi => (k.foot i hi).elim (fun h1 => h.foot i h1) (fun h1 => .inr (Nat.le_trans h.kept.size h1))
  bods := fun i hi => (k.bods i hi).elim (fun h1 => h.bods i h1) (fun h1 => .inr (Nat.le_trans h.kept.size h1))
theorem RefMem.below {mb : Nat} {rv : Value} {R : List Dg} {a b : World} (h : RefAt a mb rv R) (hb : Below a.heap.size a b) : RefMem mb rv R a b rv R := ⟨h.below hb, Kept.of_below hb (Nat.le_refl _), fun _ h => .inl h, fun _ h => .inl h⟩
theorem RefMem.step {mb : Nat} {rv rv1 : Value} {R R1 : List Dg} {a b c : World} (h : RefMem mb rv R a b rv1 R1) (hb : Below b.heap.size b c) : RefMem mb rv R a c rv1 R1 := h.trans (RefMem.below h.pool hb)
/-- a block of the call's own is written -/
theorem RefMem.put {mb b : Nat} {rv rv1 : Value} {R R1 : List Dg} {w W W' : World} {o : Obj} (h : RefMem mb rv R w W rv1 R1) (t : Turned b o W W') (hb : w.heap.size ≤ b) (hf : ¬ (rfoot mb rv1 R1 b ∨ Ytjldcblklbikaaa.bods R1 b)) : RefMem mb rv R w W' rv1 R1 :=
  ⟨h.pool.keep (fun k hk => t.other (fun e => hf (e ▸ hk))) (by rw [t.size]; exact Nat.le_refl _), h.kept.trans (Kept.of_turned (F := fun i => i = b) t rfl) (fun i hi e => by omega), h.foot, h.bods⟩
theorem RefAt.row_ne {w : World} {mb : Nat} {rv : Value} {R : List Dg} (h : RefAt w mb rv R) {i j : Nat} {a b : Dg} (hi : R[i]? = some a) (hj : R[j]? = some b) (hne : i ≠ j) {g : Nat} (ha : a.v.ownBlock = some g) : b.v.ownBlock ≠ some g := by
  intro hb
  obtain ⟨hil, hie⟩ := List.getElem?_eq_some_iff.1 hi
  obtain ⟨hjl, hje⟩ := List.getElem?_eq_some_iff.1 hj
  have hp := List.pairwise_iff_getElem.1 h.rows
  rcases Nat.lt_or_gt_of_ne hne with hlt | hlt
  · rcases hp i j hil hjl hlt with e | e
    · rw [hie, ha] at e; cases e
    · rw [hie, hje, ha, hb] at e; exact e rfl
  · rcases hp j i hjl hil hlt with e | e
    · rw [hje, hb] at e; cases e
    · rw [hie, hje, ha, hb] at e; exact e rfl
theorem own_setCell {w : World} {B e s n g cap i : Nat} {xs : List Value} {u : Value} (h : w.ownsRow B e s (.slice (some ⟨g, 0, none⟩) n cap) n xs) (hi : i < xs.length) : (w.setCell ⟨g, i, none⟩ u).ownsRow B e s (.slice (some ⟨g, 0, none⟩) n cap) n (xs.set i u) ∧ ∃ o, Turned g o w (w.setCell ⟨g, i, none⟩ u) := by
  rcases h.2 with ⟨e1, _⟩ | ⟨g', cap', cur, e1, hb, hg, hn, hx, hs, ht⟩
  · cases e1
  · cases e1
    have t := Turned.setCell hg i u
    refine ⟨⟨by rw [List.length_set]; exact h.1, .inr ⟨g, cap, _, rfl, hb, t.get (lt_of_blk hg), hn, hx, by rw [Array.size_setIfInBounds]; exact hs, ?_⟩⟩, _, t⟩
    rw [Array.toList_setIfInBounds, ← ht, List.take_set]
theorem flat_set {α : Type} {f : α → List Value} {n j : Nat} {u : Value} {d' : α} : ∀ (M : List α) (k : Nat) (d : α), (∀ e ∈ M, (f e).length = n) → M[k]? = some d → j < n → f d' = (f d).set j u → (M.flatMap f).set (k * n + j) u = (M.set k d').flatMap f
  | [], k, d, _, hk, _, _ => by simp at hk
  | m :: M, 0, d, hM, hk, hj, hf => by
    simp at hk; subst hk
    rw [List.set_cons_zero, List.flatMap_cons, List.flatMap_cons, hf, Nat.zero_mul, Nat.zero_add, List.set_append_left _ _ (by rw [hM m List.mem_cons_self]; exact hj)]
  | m :: M, k + 1, d, hM, hk, hj, hf => by
    have hm := hM m List.mem_cons_self
    rw [List.set_cons_succ, List.flatMap_cons, List.flatMap_cons, List.set_append_right _ _ (by rw [hm, Nat.add_mul, Nat.one_mul]; omega), hm, show (k + 1) * n + j - n = k * n + j by rw [Nat.add_mul, Nat.one_mul]; omega, flat_set M k d (fun e he => hM e (List.mem_cons_of_mem _ he)) (by simpa using hk) hj hf]
theorem flat_len36 {w : World} {R : List Dg} (h : ∀ d ∈ R, RgAt w d) : (R.flatMap Dg.cells).length = R.length * 36 := by
  induction R with
  | nil => rfl
  | cons d R ih =>
    rw [List.flatMap_cons, List.length_append, (h d List.mem_cons_self).len, ih (fun e he => h e (List.mem_cons_of_mem _ he)), List.length_cons]; omega
/-- one datagram changed -/
theorem RefAt.set0 {w w' : World} {mb N : Nat} {rv : Value} {R : List Dg} {k : Nat} {d d' : Dg} (h : RefAt w mb rv R) (hk : R[k]? = some d) (hrow : w'.ownsRow 0 81 36 rv R.length ((R.set k d').flatMap Dg.cells)) (hd' : RgAt w' d') (hkeep : Kept (fun i => rv.ownBlock = some i ∨ d.v.ownBlock = some i) w w')
    (hv : ∀ g, d'.v.ownBlock = some g → d.v.ownBlock = some g ∨ w.heap.size ≤ g) (ho : ∀ g, d'.bods g → d.bods g ∨ N ≤ g) : RefAt w' mb rv (R.set k d') ∧ Kept (rfoot mb rv R) w w' ∧ (∀ i, rfoot mb rv (R.set k d') i → rfoot mb rv R i ∨ w.heap.size ≤ i) ∧ (∀ i, bods (R.set k d') i → bods R i ∨ N ≤ i) := by
  have hdm := List.mem_of_getElem? hk
  have hkl := (List.getElem?_eq_some_iff.1 hk).1
  have hda := h.each d hdm
  have hmem : ∀ b ∈ R.set k d', b = d' ∨ ∃ j, j ≠ k ∧ R[j]? = some b := by
    intro b hbm
    obtain ⟨j, hj⟩ := List.getElem?_of_mem hbm
    rw [List.getElem?_set] at hj
    split at hj
    · exact .inl (Option.some.inj (by simpa using hj)).symm
    · rename_i hne
      exact .inr ⟨j, fun e => hne e.symm, hj⟩
  have hno : ∀ (b : Dg) (j : Nat), j ≠ k → R[j]? = some b → ∀ i, b.v.ownBlock = some i ∨ b.bods i → ¬ (rv.ownBlock = some i ∨ d.v.ownBlock = some i) := by
    intro b j hj hjb i hi hf
    have hba := h.each b (List.mem_of_getElem? hjb)
    rcases hi with hi | hi
    · rcases hf with hf | hf
      · have := (hba.kdv hi).one (h.kdr hf); omega
      · exact h.row_ne hjb hk hj hi hf
    · rcases hf with hf | hf
      · have := (hba.kdo hi).one (h.kdr hf); omega
      · have := (hba.kdo hi).one (hda.kdv hf); omega
  refine ⟨⟨?_, ?_, ?_, ?_, by rw [List.length_set]; exact h.four⟩, hkeep.mono fun i _ hf => hf.elim (fun e => .inr (.inl e)) (fun e => .inr (.inr ⟨d, hdm, e⟩)), ?_, ?_⟩
  · refine (hkeep.block mb (lt_of_blk h.blk) (fun hf => ?_)).trans h.blk
    rcases hf with hf | hf
    · have := h.kdm.one (h.kdr hf); omega
    · have := h.kdm.one (hda.kdv hf); omega
  · rw [List.length_set]; exact hrow
  · intro b hbm
    rcases hmem b hbm with rfl | ⟨j, hj, hjb⟩
    · exact hd'
    · have hba := h.each b (List.mem_of_getElem? hjb)
      exact hba.keep (fun i hi => hkeep.block i (h.lt (hi.imp (fun f => .inr (.inr ⟨b, List.mem_of_getElem? hjb, f⟩)) (fun o => ⟨b, List.mem_of_getElem? hjb, o⟩))) (hno b j hj hjb i hi)) hkeep.size
  · rw [List.pairwise_iff_getElem]
    intro i j hi hj hij
    rw [List.length_set] at hi hj
    have hgi : (R.set k d')[i]? = some ((R.set k d')[i]'(by rw [List.length_set]; exact hi)) := List.getElem?_eq_getElem _
    have hgj : (R.set k d')[j]? = some ((R.set k d')[j]'(by rw [List.length_set]; exact hj)) := List.getElem?_eq_getElem _
    generalize (R.set k d')[i]'(by rw [List.length_set]; exact hi) = a at hgi ⊢
    generalize (R.set k d')[j]'(by rw [List.length_set]; exact hj) = b at hgj ⊢
    rw [List.getElem?_set] at hgi hgj
    cases ha : a.v.ownBlock with
    | none => exact .inl rfl
    | some g =>
      refine .inr (fun e => ?_)
      by_cases hik : k = i
      · rw [if_pos hik, if_pos hkl] at hgi
        rw [if_neg (by omega)] at hgj
        cases hgi
        rcases hv g ha with h1 | h1
        · exact h.row_ne hk hgj (by omega) h1 e.symm
        · have := own_lt (h.each b (List.mem_of_getElem? hgj)).own e.symm; omega
      · rw [if_neg hik] at hgi
        by_cases hjk : k = j
        · rw [if_pos hjk, if_pos hkl] at hgj
          cases hgj
          rcases hv g e.symm with h1 | h1
          · exact h.row_ne hk hgi (by omega) h1 ha
          · have := own_lt (h.each a (List.mem_of_getElem? hgi)).own ha; omega
        · rw [if_neg hjk] at hgj
          exact h.row_ne hgi hgj (by omega) ha e.symm
  · rintro i (rfl | hi | ⟨b, hbm, hi⟩)
    · exact .inl (.inl rfl)
    · exact .inl (.inr (.inl hi))
    · rcases hmem b hbm with rfl | ⟨j, hj, hjb⟩
      · exact (hv i hi).imp (fun h1 => .inr (.inr ⟨d, hdm, h1⟩)) id
      · exact .inl (.inr (.inr ⟨b, List.mem_of_getElem? hjb, hi⟩))
  · rintro i ⟨b, hbm, hi⟩
    rcases hmem b hbm with rfl | ⟨j, hj, hjb⟩
    · exact (ho i hi).imp (fun h1 => ⟨d, hdm, h1⟩) id
    · exact .inl ⟨b, List.mem_of_getElem? hjb, hi⟩
theorem RefMem.set {a w w' : World} {mb : Nat} {rv0 rv : Value} {R0 R : List Dg} {k : Nat} {d d' : Dg} (m : RefMem mb rv0 R0 a w rv R) (hk : R[k]? = some d) (hrow : w'.ownsRow 0 81 36 rv R.length ((R.set k d').flatMap Dg.cells)) (hd' : RgAt w' d') (hkeep : Kept (fun i => rv.ownBlock = some i ∨ d.v.ownBlock = some i) w w')
    (hv : ∀ g, d'.v.ownBlock = some g → d.v.ownBlock = some g ∨ w.heap.size ≤ g) (ho : ∀ g, d'.bods g → d.bods g ∨ a.heap.size ≤ g) : RefMem mb rv0 R0 a w' rv (R.set k d') := by
  obtain ⟨h1, h2, h3, h4⟩ := m.pool.set0 hk hrow hd' hkeep hv ho
  exact ⟨h1, m.kept.trans h2 (fun i hi hf => (m.foot i hf).resolve_right (by omega)), fun i hi => (h3 i hi).elim (m.foot i) (fun h => .inr (Nat.le_trans m.kept.size h)), fun i hi => (h4 i hi).elim (m.bods i) .inr⟩
/-- another row of the same datagrams, some left out, or new ones behind -/
theorem RefAt.re {w w' : World} {mb : Nat} {rv rv' : Value} {R R' : List Dg} (h : RefAt w mb rv R) (hsub : ∀ d ∈ R', d ∈ R ∨ (RgAt w' d ∧ d.v.ownBlock = none ∧ d.L = [])) (hrows : R'.Pairwise fun a b => a.v.ownBlock = none ∨ a.v.ownBlock ≠ b.v.ownBlock) (h4 : R'.length ≤ 4)
    (hkeep : Kept (fun i => i = mb ∨ rv.ownBlock = some i) w w') (hbk : w'.heap[mb]? = some (.cells #[rv'] 30 (0, 0))) (hrow : w'.ownsRow 0 81 36 rv' R'.length (R'.flatMap Dg.cells))
    (hro : ∀ g, rv'.ownBlock = some g → rv.ownBlock = some g ∨ w.heap.size ≤ g) : RefMem mb rv R w w' rv' R' := by
  have hno : ∀ (b : Dg), b ∈ R → ∀ i, b.v.ownBlock = some i ∨ b.bods i → ¬ (i = mb ∨ rv.ownBlock = some i) := by
    intro b hbm i hi
    have hbd := h.each b hbm
    rcases hi with hi | hi
    · rintro (e | e)
      · have := (hbd.kdv hi).one (e ▸ h.kdm); omega
      · have := (hbd.kdv hi).one (h.kdr e); omega
    · rintro (e | e)
      · have := (hbd.kdo hi).one (e ▸ h.kdm); omega
      · have := (hbd.kdo hi).one (h.kdr e); omega
  refine ⟨⟨hbk, hrow, ?_, hrows, h4⟩, hkeep.mono fun i _ hf => hf.elim (fun e => .inl e) (fun e => .inr (.inl e)), ?_, ?_⟩
  · intro b hbm
    rcases hsub b hbm with hbm | hb
    · exact (h.each b hbm).keep (fun i hi => hkeep.block i (h.lt (hi.imp (fun f => .inr (.inr ⟨b, hbm, f⟩)) (fun o => ⟨b, hbm, o⟩))) (hno b hbm i hi)) hkeep.size
    · exact hb.1
  · rintro i (rfl | hi | ⟨b, hbm, hi⟩)
    · exact .inl (.inl rfl)
    · exact (hro i hi).imp (fun e => .inr (.inl e)) id
    · rcases hsub b hbm with hbm | hb
      · exact .inl (.inr (.inr ⟨b, hbm, hi⟩))
      · rw [hb.2.1] at hi; cases hi
  · rintro i ⟨b, hbm, hi⟩
    rcases hsub b hbm with hbm | hb
    · exact .inl ⟨b, hbm, hi⟩
    · obtain ⟨e, he, _⟩ := hi
      rw [hb.2.2] at he; cases he
theorem own_at_get {w : World} {B e s n g : Nat} {v : Value} {xs : List Value} (h : w.ownsRow B e s v n xs) (hg : v.ownBlock = some g) : ∃ cap, v = .slice (some ⟨g, 0, none⟩) n cap ∧ n ≤ cap := by
  rcases h.2 with ⟨e1, _⟩ | ⟨g', cap', cur, e1, hb, hg', hn, hx, hs, ht⟩
  · rw [e1] at hg; cases hg
  · rw [e1] at hg; cases hg
    exact ⟨cap', e1, hn⟩
theorem dgL_set {s d : List Nat} {i : Nat} {T : List Value} {j : Nat} {v : Value} (h1 : s.length = 16) (h2 : d.length = 16) : (nmL s d i ++ T).set (33 + j) v = nmL s d i ++ T.set j v := by
  rw [List.set_append_right _ _ (by rw [nmL_length h1 h2]; omega), nmL_length h1 h2, show 33 + j - 33 = j by omega]
/-- a datagram spoilt -/
theorem RefAt.spoil {w : World} {mb g : Nat} {rv : Value} {R : List Dg} {k : Nat} {d : Dg} (h : RefAt w mb rv R) (hk : R[k]? = some d) (hg : rv.ownBlock = some g) :
    RefMem mb rv R w ((w.setCell ⟨g, k * 36 + 34, none⟩ (.bool true)).setCell ⟨g, k * 36 + 35, none⟩ (.slice none 0 0)) rv (R.set k d.spoiled) ∧ ∃ o, Turned g o w ((w.setCell ⟨g, k * 36 + 34, none⟩ (.bool true)).setCell ⟨g, k * 36 + 35, none⟩ (.slice none 0 0)) := by
  have hkl := (List.getElem?_eq_some_iff.1 hk).1
  have hda := h.each d (List.mem_of_getElem? hk)
  have hlen : ∀ e ∈ R, e.cells.length = 36 := fun e he => (h.each e he).len
  obtain ⟨cap, rfl, hn⟩ := own_at_get h.row hg
  have hfl := flat_len36 h.each
  obtain ⟨o1, p1, t1⟩ := own_setCell (i := k * 36 + 34) (u := .bool true) h.row (by rw [hfl]; omega)
  have e1 := flat_set (d' := { d with bad := true }) R k d hlen hk (j := 34) (u := .bool true) (by omega) (by
    unfold Dg.cells
    rw [show (34 : Nat) = 33 + 1 from rfl, dgL_set hda.src hda.dst]; rfl)
  rw [e1] at o1
  have hlen2 : ∀ e ∈ R.set k { d with bad := true }, e.cells.length = 36 := fun e he => by
    rcases List.mem_or_eq_of_mem_set he with h1 | h1
    · exact hlen e h1
    · rw [h1]; simp [Dg.cells, nmL_length hda.src hda.dst]
  have hk2 : (R.set k { d with bad := true })[k]? = some { d with bad := true } := by rw [List.getElem?_set_self hkl]
  have hfl2 : ((R.set k { d with bad := true }).flatMap Dg.cells).length = R.length * 36 := by rw [← e1, List.length_set, hfl]
  obtain ⟨o2, p2, t2⟩ := own_setCell (i := k * 36 + 35) (u := .slice none 0 0) o1 (by rw [hfl2]; omega)
  have e2 := flat_set (d' := d.spoiled) (R.set k { d with bad := true }) k _ hlen2 hk2 (j := 35) (u := .slice none 0 0) (by omega) (by
    unfold Dg.cells
    rw [show (35 : Nat) = 33 + 2 from rfl, dgL_set hda.src hda.dst]; rfl)
  rw [e2, List.set_set] at o2
  have t := t1.trans t2
  refine ⟨(RefMem.refl h).set hk o2 ⟨hda.src, hda.dst, hda.src8, hda.dst8, hda.id, hda.over, World.ownsRow_nil _ _ _ _, fun e he => (by cases he), (by show (0 : Nat) ≤ 32; omega)⟩ (Kept.of_turned t (.inl rfl)) (fun g hg => by cases hg) (fun g hg => by obtain ⟨e, he, _⟩ := hg; cases he), p2, t⟩
/-- a datagram with a part more -/
theorem RefMem.grow {mb g k : Nat} {rv rv1 v' : Value} {R R1 : List Dg} {w W w8 : World} {d : Dg} {e : El} {o : Obj} (hm : RefMem mb rv R w W rv1 R1) (hk : R1[k]? = some d) (hgb : rv1.ownBlock = some g) (hx : PkOk e.pk) (hl : e.pk.body.length ≤ 1000000) (hbody : BodyAt W e) (hfr : ∀ g, e.adr = some ⟨g, 0, none⟩ → w.heap.size ≤ g)
    (h32 : d.L.length ≠ 32) (ho : w8.ownsRow 0 43 40 v' (d.L.length + 1) (d.L.flatMap El.cells ++ e.cells)) (hg : (W.alloc o).grownBy w8 d.v.ownBlock) (hwh : v'.ownBlock = d.v.ownBlock ∨ v'.ownBlock = some (W.alloc o).heap.size) :
    RefMem mb rv R w (w8.setCell ⟨g, k * 36 + 35, none⟩ v') rv1 (R1.set k { d with v := v', L := d.L ++ [e] }) ∧ (∀ b, b < W.heap.size → d.v.ownBlock ≠ some b → w8.heap[b]? = W.heap[b]?) ∧ (∀ b, b < W.heap.size → ¬ rfoot mb rv1 R1 b → (w8.setCell ⟨g, k * 36 + 35, none⟩ v').heap[b]? = W.heap[b]?) := by
  have hdm := List.mem_of_getElem? hk
  have hkl := (List.getElem?_eq_some_iff.1 hk).1
  have hda := hm.pool.each d hdm
  have hal : Below W.heap.size W (W.alloc o) := (Below.refl _ _).alloc (Nat.le_refl _) _
  have hold8 : ∀ i, i < W.heap.size → d.v.ownBlock ≠ some i → w8.heap[i]? = W.heap[i]? := fun i hi h2 =>
    (hg.block i (by have := hal.size; omega) (fun e => h2 e.symm)).trans (hal.block i hi)
  have hgk : Kd W g 81 := hm.pool.kdr hgb
  have hne : d.v.ownBlock ≠ some g := fun e => by have := (hda.kdv e).one hgk; omega
  have hrow8 := own_keep (w' := w8) hm.pool.row (fun i hi => by
    have e : g = i := Option.some.inj (hgb.symm.trans hi)
    subst e
    exact hold8 g (own_lt hm.pool.row hgb) hne)
  obtain ⟨cap, hrv, hn⟩ := own_at_get hm.pool.row hgb
  rw [hrv] at hrow8
  have hfl := flat_len36 hm.pool.each
  have hlen : ∀ e ∈ R1, e.cells.length = 36 := fun e he => (hm.pool.each e he).len
  obtain ⟨o1, p1, t⟩ := own_setCell (i := k * 36 + 35) (u := v') hrow8 (by rw [hfl]; omega)
  have e1 := flat_set (d' := { d with v := v', L := d.L ++ [e] }) R1 k d hlen hk (j := 35) (u := v') (by omega) (by
    unfold Dg.cells
    rw [show (35 : Nat) = 33 + 2 from rfl, dgL_set hda.src hda.dst]; rfl)
  rw [e1, ← hrv] at o1
  obtain ⟨W9, hW9⟩ : ∃ W, W = w8.setCell ⟨g, k * 36 + 35, none⟩ v' := ⟨_, rfl⟩
  rw [← hW9] at t o1 ⊢
  have hk9 : Kept (fun i => rv1.ownBlock = some i ∨ d.v.ownBlock = some i) W W9 := by
    refine (Kept.of_below hal (Nat.le_refl _)).trans (G := fun i => rv1.ownBlock = some i ∨ d.v.ownBlock = some i) ?_ (fun i _ h => h)
    exact (Kept.of_grown hg (fun q hq => .inr hq)).trans (G := fun i => rv1.ownBlock = some i ∨ d.v.ownBlock = some i) (Kept.of_turned t (.inl hgb)) (fun i _ h => h)
  have hg8 : ∃ cur, w8.heap[g]? = some (.cells cur 81 (0, 0)) := by
    obtain ⟨cur, hc⟩ := own_type hrow8 (i := g) rfl
    exact ⟨cur, hc⟩
  have hnd : v'.ownBlock ≠ some g := fun e => by
    obtain ⟨cur, hc⟩ := own_type ho e
    obtain ⟨cur2, hc2⟩ := hg8
    rw [hc2] at hc; cases hc
  have h5 : ∀ i, Kd W i 5 → ¬ (rv1.ownBlock = some i ∨ d.v.ownBlock = some i) := by
    rintro i hi (hf | hf)
    · have := hi.one (hm.pool.kdr hf); omega
    · have := hi.one (hda.kdv hf); omega
  have hdg : RgAt W9 { d with v := v', L := d.L ++ [e] } := by
    refine ⟨hda.src, hda.dst, hda.src8, hda.dst8, hda.id, hda.over, ?_, ?_, ?_⟩
    · show W9.ownsRow 0 43 40 v' (d.L ++ [e]).length ((d.L ++ [e]).flatMap El.cells)
      rw [List.length_append, List.flatMap_append, List.flatMap_cons, List.flatMap_nil, List.append_nil]
      exact own_keep ho (fun q hq => t.other (fun x => hnd (x ▸ hq)))
    · intro y hy
      rcases List.mem_append.1 hy with hy | hy
      · have hye := hda.each y hy
        refine ⟨hye.1, hye.2.1.keep (fun g hg' => ?_) hk9.size, hye.2.2⟩
        obtain ⟨cur, hc⟩ := body_type hye.2.1 hg'
        exact hk9.block g (lt_of_blk hc) (h5 g ⟨_, _, hc⟩)
      · rw [List.mem_singleton] at hy; subst hy
        refine ⟨hx, hbody.keep (fun g hg' => ?_) hk9.size, hl⟩
        obtain ⟨cur, hc⟩ := body_type hbody hg'
        exact hk9.block g (lt_of_blk hc) (h5 g ⟨_, _, hc⟩)
    · show (d.L ++ [e]).length ≤ 32
      rw [List.length_append, List.length_singleton]
      have := hda.many; omega
  refine ⟨hm.set hk o1 hdg hk9 (fun g hg' => ?_) (fun g hg' => ?_), hold8, fun b hb hf => ?_⟩
  · rcases hwh with x | x
    · exact .inl (x ▸ hg')
    · have := Option.some.inj (x.symm.trans hg')
      have := hal.size
      exact .inr (by omega)
  · obtain ⟨y, hy, ha⟩ := hg'
    rcases List.mem_append.1 hy with hy | hy
    · exact .inl ⟨y, hy, ha⟩
    · rw [List.mem_singleton] at hy; subst hy
      exact .inr (hfr g ha)
  · exact hk9.block b hb (fun h => hf (h.elim (fun e => .inr (.inl e)) (fun e => .inr (.inr ⟨d, hdm, e⟩))))
end Go.Proofs.Ytjldcblklbikaaa

/- The reference: a part comes: where it stands behind the search. No condition but that the pool is one. (Written out by exp.py.) -/
namespace Go.Proofs.Ytjldcblklbikaaa
open Go.RowKit
set_option linter.unusedVariables false
set_option linter.unusedSimpArgs false
/-- what a part's coming leaves of the reference's pool -/
def RefRes (mb : Nat) (rv : Value) (R : List Dg) (now : Nat) (x : Pk) (w : World) (e : Ending) (w' : World) : Prop :=
  ∃ rv' R' out dr W, RefMem mb rv R w w' rv' R' ∧ AddS now x (R.map Dg.abs) (R'.map Dg.abs) out dr ∧ e = .returned (.tuple #[.agg (List.toArray W), .bool (Option.isSome out), .bool dr]) ∧ (out = none → W = zeroP) ∧
    ∀ y, out = some y → ∃ A c, W = pkL y A c ∧ PkOk y ∧ BodyAt w' ⟨y, A, c⟩ ∧ (∀ g, A = some ⟨g, 0, none⟩ → w.heap.size ≤ g) ∧ y.body.length ≤ 100000000
/-- the boxes of the call, all that was there as it was -/
structure RB (w : World) (P : List Value) (b5 b6 b9 : Nat) (W : World) : Prop where
  old : Below w.heap.size w W
  x5 : W.heap[b5]? = some (.cells P.toArray 43 (0, 0))
  x6 : W.heap[b6]? = some (.cells zeroP.toArray 43 (0, 0))
  x9 : W.heap[b9]? = some (.cells zeroP.toArray 43 (0, 0))
theorem RB.step {b5 b6 b9 : Nat} {w W W' : World} {P : List Value} (h : RB w P b5 b6 b9 W) (hb : Below W.heap.size W W') : RB w P b5 b6 b9 W' :=
  ⟨h.old.trans (hb.mono h.old.size), (hb.block _ (lt_of_blk h.x5)).trans h.x5, (hb.block _ (lt_of_blk h.x6)).trans h.x6, (hb.block _ (lt_of_blk h.x9)).trans h.x9⟩
/-- where a part that may be is judged: the datagram is there -/
structure RMid (now : Nat) (x : Pk) (mb : Nat) (rv : Value) (R : List Dg) (w : World) (P : List Value) (b5 b6 b9 : Nat) (W : World) (rv1 : Value) (R1 : List Dg) (k : Nat) (d : Dg) : Prop where
  mem : RefMem mb rv R w W rv1 R1
  x5 : W.heap[b5]? = some (.cells P.toArray 43 (0, 0))
  x6 : W.heap[b6]? = some (.cells zeroP.toArray 43 (0, 0))
  x9 : W.heap[b9]? = some (.cells zeroP.toArray 43 (0, 0))
  get : R1[k]? = some d
  good : d.bad = false
  far : ∀ i, rfoot mb rv1 R1 i ∨ bods R1 i → i < w.heap.size ∨ b9 < i
  low : w.heap.size ≤ b5 ∧ b5 < b6 ∧ b6 < b9
  may : mayB x = true
  how : (FirstS (R.map Dg.abs) x (some k) ∧ R1 = R) ∨ (FirstS (R.map Dg.abs) x none ∧ (R.map Dg.abs).length ≠ 4 ∧ R1.map Dg.abs = R.map Dg.abs ++ [freshS now x] ∧ k = (R.map Dg.abs).length)
theorem RMid.adds {now mb b5 b6 b9 k : Nat} {x : Pk} {rv rv1 : Value} {R R1 : List Dg} {w W : World} {P : List Value} {d : Dg} (h : RMid now x mb rv R w P b5 b6 b9 W rv1 R1 k d) (his : x.is = true) {S' : List Ds} {out : Option Pk} {dr : Bool} (hp : PutS x (R1.map Dg.abs) k d.abs S' out dr) : AddS now x (R.map Dg.abs) S' out dr := by
  have hg : (R1.map Dg.abs)[k]? = some d.abs := by rw [List.getElem?_map, h.get]; rfl
  rcases h.how with ⟨h1, h2⟩ | ⟨h1, h2, h3, h4⟩
  · subst h2
    exact .inr (.inr (.inr (.inr (.inl ⟨his, h.may, k, d.abs, h1, hg, h.good, hp⟩))))
  · rw [h3, h4] at hg hp
    rw [List.getElem?_append_right (Nat.le_refl _)] at hg
    simp at hg
    rw [← hg] at hp
    exact .inr (.inr (.inr (.inr (.inr ⟨his, h.may, h1, h2, hp⟩))))
theorem RMid.step {now mb b5 b6 b9 k : Nat} {x : Pk} {rv rv1 : Value} {R R1 : List Dg} {w W W' : World} {P : List Value} {d : Dg} (h : RMid now x mb rv R w P b5 b6 b9 W rv1 R1 k d) (hb : Below W.heap.size W W') : RMid now x mb rv R w P b5 b6 b9 W' rv1 R1 k d :=
  ⟨h.mem.step hb, (hb.block _ (lt_of_blk h.x5)).trans h.x5, (hb.block _ (lt_of_blk h.x6)).trans h.x6, (hb.block _ (lt_of_blk h.x9)).trans h.x9, h.get, h.good, h.far, h.low, h.may, h.how⟩
theorem RMid.not {now mb b5 b6 b9 k : Nat} {x : Pk} {rv rv1 : Value} {R R1 : List Dg} {w W : World} {P : List Value} {d : Dg} (h : RMid now x mb rv R w P b5 b6 b9 W rv1 R1 k d) {b : Nat} (hb : w.heap.size ≤ b ∧ b ≤ b9) : ¬ (rfoot mb rv1 R1 b ∨ bods R1 b) := fun hf => by have := h.far b hf; omega
/-- the datagram is in Good's parts -/
theorem RMid.alone {now mb b5 b6 b9 k : Nat} {x : Pk} {rv rv1 : Value} {R R1 : List Dg} {w W : World} {P : List Value} {d : Dg} (h : RMid now x mb rv R w P b5 b6 b9 W rv1 R1 k d) (hg : Good (R.map Dg.abs)) : Alone d.id (d.L.map (·.pk)) ∧ Ds.has x d.abs = true := by
  have hk : (R1.map Dg.abs)[k]? = some d.abs := by rw [List.getElem?_map, h.get]; rfl
  rcases h.how with ⟨h1, h2⟩ | ⟨h1, h2, h3, h4⟩
  · subst h2
    exact ⟨hg d.abs (List.mem_of_getElem? hk), h1.has hk⟩
  · rw [h3, h4, List.getElem?_append_right (Nat.le_refl _)] at hk
    simp at hk
    have e : d.abs = freshS now x := hk.symm
    have e1 : d.L.map (·.pk) = [] := congrArg Ds.L e
    rw [e1, e]
    exact ⟨Alone.nil _, fresh_has now x⟩
theorem RefAt.foot5 {w : World} {mb : Nat} {rv : Value} {R : List Dg} (h : RefAt w mb rv R) {i : Nat} (hi : rfoot mb rv R i) {cur : Array Value} (hc : w.heap[i]? = some (.cells cur 5 (0, 0))) : False := by
  have hk : Kd w i 5 := ⟨_, _, hc⟩
  rcases hi with rfl | hi | ⟨d, hd, hi⟩
  · have := hk.one h.kdm; omega
  · have := hk.one (h.kdr hi); omega
  · have := hk.one ((h.each d hd).kdv hi); omega
theorem Bs.keptR {w W : World} {mb c : Nat} {rv : Value} {R : List Dg} {A : Option Addr} {l : List Nat} (h : Bs w w.heap.size A c l) (h5 : A = none ∨ ∃ g o cur, A = some ⟨g, o, none⟩ ∧ w.heap[g]? = some (.cells cur 5 (0, 0))) (hp : RefAt w mb rv R) (hk : Kept (rfoot mb rv R) w W) : Bs W W.heap.size A c l := by
  refine ⟨fun hl => ?_, h.cap, h.nil, h.max⟩
  obtain ⟨b, o, hA, hb, hc⟩ := h.rd hl
  refine ⟨b, o, hA, Nat.lt_of_lt_of_le hb hk.size, fun k x hx => ?_⟩
  rcases h5 with e | ⟨g, o2, cur, e, hg⟩
  · rw [e] at hA; cases hA
  · rw [e] at hA; cases hA
    exact (World.cell?_of_block (w := w) (a := ⟨b, o + k, none⟩) (hk.block b hb (fun hf => hp.foot5 hf hg))).trans (hc k x hx)
/-- a new datagram's cells -/
def freshC (x : Pk) (ov : Nat) : List Value := nmL x.src x.dst x.id ++ [Value.int .u64 (ov : Int), .bool false, .slice none 0 0]
theorem freshC_eq (b : Nat) (x : Pk) (ov : Nat) : (Dg.fresh b x ov).cells = freshC x ov := rfl
theorem freshC_len {x : Pk} {ov : Nat} (h : PkOk x) : (freshC x ov).length = 36 := by simp [freshC, nmL_length h.src h.dst]
theorem freshC_one {x : Pk} {ov : Nat} (h : PkOk x) : ∀ v ∈ freshC x ov, v.oneCell' = true := by
  intro v hv
  unfold freshC nmL at hv
  rw [List.append_assoc] at hv
  rcases List.mem_append.1 hv with h | h
  · exact row8_one _ v h
  rw [List.append_assoc] at h
  rcases List.mem_append.1 h with h | h
  · exact row8_one _ v h
  · simp only [List.cons_append, List.nil_append, List.mem_cons, List.not_mem_nil, or_false] at h
    rcases h with rfl | rfl | rfl | rfl <;> rfl
theorem built81 {s d : List Nat} {i o : Nat} (h1 : s.length = 16) (h2 : d.length = 16) : Try.prog.built 81 [(0, .agg (row8 s).toArray), (1, .agg (row8 d).toArray), (2, .int .u32 (i : Int)), (3, .int .u64 (o : Int))] = some (nmL s d i ++ [Value.int .u64 (o : Int), Value.bool false, Value.slice none 0 0]).toArray := by
  obtain ⟨a0, a1, a2, a3, a4, a5, a6, a7, a8, a9, a10, a11, a12, a13, a14, a15, rfl⟩ := list16 h1
  obtain ⟨b0, b1, b2, b3, b4, b5, b6, b7, b8, b9, b10, b11, b12, b13, b14, b15, rfl⟩ := list16 h2
  clear h1 h2
  kernel_rfl
def zeroD : List Value := freshC nilPk 0
theorem info81 : (Try.prog.info? 81).map (fun i => (i.zero, i.size, i.bytes)) = some (some (.agg zeroD.toArray), 36, 80) := by kernel_rfl
theorem size81 : (Try.prog.info? 81).map (·.size) = some 36 := by kernel_rfl
theorem fill81 {x : Pk} {ov : Nat} (h1 : x.src.length = 16) (h2 : x.dst.length = 16) : Instr.fill (fun i => some (i * 36, 36)) ((Array.range (1 * 36)).map ((Value.agg zeroD.toArray).cells[· % (Value.agg zeroD.toArray).cells.size]!)) [(0, .agg (freshC x ov).toArray)] = some (freshC x ov).toArray := by
  obtain ⟨s, d, hops, alert, is, id, off, more, next, body⟩ := x
  simp only at h1 h2
  obtain ⟨a0, a1, a2, a3, a4, a5, a6, a7, a8, a9, a10, a11, a12, a13, a14, a15, rfl⟩ := list16 h1
  obtain ⟨b0, b1, b2, b3, b4, b5, b6, b7, b8, b9, b10, b11, b12, b13, b14, b15, rfl⟩ := list16 h2
  clear h1 h2
  kernel_rfl
/-- behind the append of a new datagram -/
theorem rmid_fresh {now mb b5 b6 b9 ov : Nat} {x : Pk} {rv v' : Value} {R : List Dg} {w W6 w8 : World} {P : List Value} (hp : RefAt w mb rv R) (hx : PkOk x)
    (hab : RB w P b5 b6 b9 W6) (hlow : w.heap.size ≤ b5 ∧ b5 < b6 ∧ b6 < b9) (hov : ov = addU now 60000) (hn : now < 18446744073709551616) (h4 : R.length ≠ 4) (hno : FirstS (R.map Dg.abs) x none) (hmay : mayB x = true)
    (ho : w8.ownsRow 0 81 36 v' (R.length + 1) (R.flatMap Dg.cells ++ freshC x ov)) (hg : (W6.alloc (.cells (freshC x ov).toArray 81)).grownBy w8 rv.ownBlock)
    (hwh : v'.ownBlock = rv.ownBlock ∨ v'.ownBlock = some (W6.alloc (.cells (freshC x ov).toArray 81)).heap.size) :
    w8.heap[mb]? = some (.cells #[rv] 30 (0, 0)) ∧ w8.heap[b5]? = some (.cells P.toArray 43 (0, 0)) ∧ RMid now x mb rv R w P b5 b6 b9 (w8.setCell ⟨mb, 0, none⟩ v') v' (R ++ [Dg.fresh 0 x ov]) R.length (Dg.fresh 0 x ov) := by
  have h67 : Below W6.heap.size W6 (W6.alloc (.cells (freshC x ov).toArray 81)) := (Below.refl _ _).alloc (Nat.le_refl _) _
  have hpk := hp.blk
  have h78 : Below w.heap.size w (W6.alloc (.cells (freshC x ov).toArray 81)) := (hab.step h67).old
  have hneP : rv.ownBlock ≠ some mb := fun e => by have := (hp.kdr e).one hp.kdm; omega
  have hb8 : w8.heap[mb]? = some (.cells #[rv] 30 (0, 0)) := ((hg.block mb (by have := h78.size; have := lt_of_blk hpk; omega) (fun e => hneP e.symm)).trans (h78.block mb (lt_of_blk hpk))).trans hpk
  have t8 := Turned.setCell hb8 0 v'
  have hset : (#[rv] : Array Value).setIfInBounds 0 v' = #[v'] := rfl
  rw [hset] at t8
  have hnd : v'.ownBlock ≠ some mb := fun e => by
    obtain ⟨cur, hc⟩ := own_type ho e
    rw [hb8] at hc; cases hc
  obtain ⟨W9, hW9⟩ : ∃ W, W = w8.setCell ⟨mb, 0, none⟩ v' := ⟨_, rfl⟩
  rw [← hW9] at t8 ⊢
  have hk9 : Kept (fun i => i = mb ∨ rv.ownBlock = some i) w W9 := by
    refine (Kept.of_below h78 (Nat.le_refl _)).trans (G := fun i => i = mb ∨ rv.ownBlock = some i) ?_ (fun i _ h => h)
    exact (Kept.of_grown hg (fun q hq => .inr hq)).trans (G := fun i => i = mb ∨ rv.ownBlock = some i) (Kept.of_turned t8 (.inl rfl)) (fun i _ h => h)
  have hrw9 : W9.ownsRow 0 81 36 v' (R ++ [Dg.fresh 0 x ov]).length ((R ++ [Dg.fresh 0 x ov]).flatMap Dg.cells) := by
    rw [List.length_append, List.flatMap_append, List.flatMap_cons, List.flatMap_nil, List.append_nil, freshC_eq]
    exact own_keep ho (fun q hq => t8.other (fun e => hnd (e ▸ hq)))
  have hold8 : ∀ i, i < W6.heap.size → rv.ownBlock ≠ some i → w8.heap[i]? = W6.heap[i]? := fun i hi h2 =>
    (hg.block i (by have := h67.size; omega) (fun e => h2 e.symm)).trans (h67.block i hi)
  have hold9 : ∀ i, i < W6.heap.size → i ≠ mb → rv.ownBlock ≠ some i → W9.heap[i]? = W6.heap[i]? := fun i hi h1 h2 => (t8.other h1).trans (hold8 i hi h2)
  have hpbl : mb < w.heap.size := lt_of_blk hpk
  have hrvl : ∀ i, rv.ownBlock = some i → i < w.heap.size := fun i hi => own_lt hp.row hi
  have hx59 := (hold9 b5 (lt_of_blk hab.x5) (by omega) (fun e => by have := hrvl _ e; omega)).trans hab.x5
  have hx69 := (hold9 b6 (lt_of_blk hab.x6) (by omega) (fun e => by have := hrvl _ e; omega)).trans hab.x6
  have hx99 := (hold9 b9 (lt_of_blk hab.x9) (by omega) (fun e => by have := hrvl _ e; omega)).trans hab.x9
  have hov9 : ov < 18446744073709551616 := by
    rw [hov]; unfold addU; split
    · omega
    · split <;> omega
  have hdg9 : RgAt W9 (Dg.fresh 0 x ov) := ⟨hx.src, hx.dst, hx.src8, hx.dst8, hx.id, hov9, World.ownsRow_nil _ _ _ _, fun e he => (by cases he), (by show (0 : Nat) ≤ 32; omega)⟩
  have h67s : W6.heap.size ≤ (W6.alloc (.cells (freshC x ov).toArray 81)).heap.size := h67.size
  have hro9 : ∀ g, v'.ownBlock = some g → rv.ownBlock = some g ∨ b9 < g := fun g hg' => by
    rcases hwh with e | e
    · exact .inl (by rw [← e]; exact hg')
    · rw [e] at hg'
      have := lt_of_blk hab.x9
      have := Option.some.inj hg'
      exact .inr (by omega)
  have hmem : RefMem mb rv R w W9 v' (R ++ [Dg.fresh 0 x ov]) := hp.re (fun d hd => by
      rcases List.mem_append.1 hd with hd | hd
      · exact .inl hd
      · rw [List.mem_singleton] at hd; subst hd
        exact .inr ⟨hdg9, rfl, rfl⟩) (by
      rw [List.pairwise_append]
      refine ⟨hp.rows, List.pairwise_singleton _ _, fun a ha b hb => ?_⟩
      rw [List.mem_singleton] at hb; subst hb
      cases e : a.v.ownBlock with
      | none => exact .inl rfl
      | some g => exact .inr (fun x => by cases x)) (by
      rw [List.length_append, List.length_singleton]
      have := hp.four; omega) hk9 (t8.get (lt_of_blk hb8)) hrw9 (fun g hg' => (hro9 g hg').imp id (fun h => by omega))
  refine ⟨hb8, (hold8 b5 (lt_of_blk hab.x5) (fun e => by have := hrvl _ e; omega)).trans hab.x5, ?_⟩
  exact {
    mem := hmem
    x5 := hx59
    x6 := hx69
    x9 := hx99
    get := by rw [List.getElem?_append_right (Nat.le_refl _)]; simp
    good := rfl
    far := fun i hi => by
      rcases hi with (rfl | hi | ⟨b, hbm, hi⟩) | ⟨b, hbm, hi⟩
      · exact .inl hpbl
      · exact (hro9 i hi).imp (hrvl i) id
      · rcases List.mem_append.1 hbm with hbm | hbm
        · exact .inl (hp.lt (.inl (.inr (.inr ⟨b, hbm, hi⟩))))
        · rw [List.mem_singleton] at hbm; subst hbm
          cases hi
      · rcases List.mem_append.1 hbm with hbm | hbm
        · exact .inl (hp.lt (.inr ⟨b, hbm, hi⟩))
        · rw [List.mem_singleton] at hbm; subst hbm
          obtain ⟨e, he, _⟩ := hi
          cases he
    low := hlow
    may := hmay
    how := .inr ⟨hno, by rw [List.length_map]; exact h4, by rw [List.map_append, List.map_cons, List.map_nil, hov]; rfl, by rw [List.length_map]⟩ }
theorem wp_build4 {P : Program} {o : Oper} {a : Act} {w : World} {K : Act → World → Prop} {Q : Exit → Act → World → Prop} (t : TypeId) (i0 i1 i2 i3 : Nat) (x0 x1 x2 x3 : Operand) (ho : o.op = .build t #[(i0, x0), (i1, x1), (i2, x2), (i3, x3)])
    (v0 v1 v2 v3 : Value) (h0 : a.eval x0 = v0) (h1 : a.eval x1 = v1) (h2 : a.eval x2 = v2) (h3 : a.eval x3 = v3) (cs : Array Value) (hf : P.built t [(i0, v0), (i1, v1), (i2, v2), (i3, v3)] = some cs)
    (h : K (a.put o.dst (.agg cs)) w) : o.wp P a w K Q := by
  have e : ((#[(i0, x0), (i1, x1), (i2, x2), (i3, x3)] : Array (Nat × Operand)).map fun (i, x) => (i, a.eval x)).toList = [(i0, v0), (i1, v1), (i2, v2), (i3, v3)] := by simp [h0, h1, h2, h3]
  exact wp_build t _ ho (by rw [e, hf]; rfl) (by rw [e, hf]; exact h)
theorem wp_bs1r {P : Program} {o : Oper} {a : Act} {w : World} {K : Act → World → Prop} {Q : Exit → Act → World → Prop} (t e : TypeId) (len i0 : Nat) (x0 : Operand) (ho : o.op = .buildSlice t len #[(i0, x0)]) (v0 : Value) (h0 : a.eval x0 = v0)
    (cells : Array Value) (ie : TypeInfo) (z : Value)
    (hu : P.underlying t = some (.slice e)) (hie : P.info? e = some ie) (hz : ie.zero = some z) (hsmall : ¬ len * ie.size > 2 ^ 24) (hpos : ¬ len * ie.size = 0)
    (hf : Instr.fill (fun i => some (i * ie.size, ie.size)) ((Array.range (len * ie.size)).map (z.cells[· % z.cells.size]!)) [(i0, v0)] = some cells)
    (h : K (a.put o.dst (.slice (some ⟨w.heap.size, 0, none⟩) len len)) (w.alloc (.cells cells e))) : o.wp P a w K Q := by
  refine wp_buildSlice t e len _ ho cells ie z hu hie hz hsmall hpos ?_ h
  have e : ((#[(i0, x0)] : Array (Nat × Operand)).map fun (i, x) => (i, a.eval x)).toList = [(i0, v0)] := by simp [h0]
  rw [e]; exact hf
theorem judge_1 {L : List El} {x : Pk} {e : El} (he : e ∈ L) (h : sameB e.pk x = true) : judgeN (L.map (·.pk)) x = 1 := by
  have h1 : (L.any fun e => sameB e.pk x) = true := List.any_eq_true.2 ⟨e, he, h⟩
  rw [judgeN_map, if_pos h1]
theorem judge_no {L : List El} {x : Pk} (h : ∀ e ∈ L, sameB e.pk x = false) : ¬ (L.any fun e => sameB e.pk x) = true := by
  simp only [List.any_eq_true, not_exists, not_and]
  exact fun e he => by rw [h e he]; simp
theorem judge_2 {L : List El} {x : Pk} (h : ∀ e ∈ L, sameB e.pk x = false) (hm : L.length ≤ 32) (hf : false = (decide (L.length < 32) && !(L.any fun e => clashB e.pk x))) : judgeN (L.map (·.pk)) x = 2 := by
  have h2 : (decide (L.length = 32) || L.any fun e => clashB e.pk x) = true := by
    by_cases e : L.length = 32
    · rw [decide_eq_true e]; rfl
    · rw [decide_eq_true (by omega : L.length < 32)] at hf
      rw [decide_eq_false e, Bool.false_or]
      cases hany : L.any fun e => clashB e.pk x with
      | true => rfl
      | false => rw [hany] at hf; cases hf
  rw [judgeN_map, if_neg (judge_no h), if_pos h2]
theorem judge_0 {L : List El} {x : Pk} (h : ∀ e ∈ L, sameB e.pk x = false) (hf : true = (decide (L.length < 32) && !(L.any fun e => clashB e.pk x))) : judgeN (L.map (·.pk)) x = 0 ∧ L.length ≠ 32 := by
  have h1 := hf.symm
  rw [Bool.and_eq_true] at h1
  have h2 := of_decide_eq_true h1.1
  have h3 := h1.2
  simp only [Bool.not_eq_true'] at h3
  have h4 : ¬ (decide (L.length = 32) || L.any fun e => clashB e.pk x) = true := by
    rw [decide_eq_false (by omega : ¬ L.length = 32), Bool.false_or, h3]; simp
  exact ⟨by rw [judgeN_map, if_neg (judge_no h), if_neg h4], by omega⟩
def stopB (R : List Dg) (n : Nat) : Option Nat → Bool
  | none => decide (n = 4)
  | some k => ((R[k]?).map (·.bad)).getD false
theorem stopB_some {R : List Dg} {n k : Nat} {d : Dg} (h : R[k]? = some d) : stopB R n (some k) = d.bad := by
  show ((R[k]?).map (·.bad)).getD false = d.bad
  rw [h]; rfl
end Go.Proofs.Ytjldcblklbikaaa

/- The reference's pool, in memory, one datagram left out of a new row. No condition beyond those named. -/
namespace Go.Proofs.Ytjldcblklbikaaa
open Go.RowKit
set_option linter.unusedVariables false
set_option linter.unusedSimpArgs false
/-- the piece of a body at a path -/
def codeAt : List Nat → Code → Code
  | [], c => c
  | 0 :: p, .seq a _ => codeAt p a
  | 1 :: p, .seq _ b => codeAt p b
  | 0 :: p, .cond _ a _ => codeAt p a
  | 1 :: p, .cond _ _ b => codeAt p b
  | 0 :: p, .block _ c => codeAt p c
  | 0 :: p, .loop c => codeAt p c
  | 0 :: p, .scope c => codeAt p c
  | _, c => c
theorem Bs.keptR2 {w W : World} {mb c : Nat} {rv : Value} {R : List Dg} {A : Option Addr} {l : List Nat} (h : Bs w w.heap.size A c l) (h5 : l ≠ [] → ∀ g o, A = some ⟨g, o, none⟩ → ¬ rfoot mb rv R g) (hk : Kept (rfoot mb rv R) w W) : Bs W W.heap.size A c l := by
  refine ⟨fun hl => ?_, h.cap, h.nil, h.max⟩
  obtain ⟨b, o, hA, hb, hc⟩ := h.rd hl
  exact ⟨b, o, hA, Nat.lt_of_lt_of_le hb hk.size, fun k x hx => (World.cell?_of_block (w := w) (a := ⟨b, o + k, none⟩) (hk.block b hb (h5 hl b o hA))).trans (hc k x hx)⟩
theorem flat_take {α : Type} {f : α → List Value} {n : Nat} : ∀ (M : List α) (k : Nat), (∀ e ∈ M, (f e).length = n) → (M.take k).flatMap f = (M.flatMap f).take (k * n)
  | [], k, _ => by simp
  | m :: M, 0, _ => by simp
  | m :: M, k + 1, h => by
    have hm := h m List.mem_cons_self
    rw [List.take_succ_cons, List.flatMap_cons, List.flatMap_cons, flat_take M k (fun e he => h e (List.mem_cons_of_mem _ he)), List.take_append, hm, Nat.add_mul, Nat.one_mul, Nat.add_sub_cancel, List.take_of_length_le (l := f m) (by omega)]
theorem flat_drop {α : Type} {f : α → List Value} {n : Nat} : ∀ (M : List α) (k : Nat), (∀ e ∈ M, (f e).length = n) → (M.drop k).flatMap f = (M.flatMap f).drop (k * n)
  | [], k, _ => by simp
  | m :: M, 0, _ => by simp
  | m :: M, k + 1, h => by
    have hm := h m List.mem_cons_self
    rw [List.drop_succ_cons, List.flatMap_cons, flat_drop M k (fun e he => h e (List.mem_cons_of_mem _ he)), List.drop_append, hm, Nat.add_mul, Nat.one_mul, Nat.add_sub_cancel, List.drop_of_length_le (l := f m) (by omega), List.nil_append]
theorem RgAt.one {w : World} {d : Dg} (h : RgAt w d) : ∀ u ∈ d.cells, u.oneCell' = true := by
  obtain ⟨q, c, hv, -⟩ := own_slice2 h.own
  intro u hu
  unfold Dg.cells nmL at hu
  rw [hv] at hu
  rw [List.append_assoc] at hu
  rcases List.mem_append.1 hu with h | h
  · exact row8_one _ u h
  rw [List.append_assoc] at h
  rcases List.mem_append.1 h with h | h
  · exact row8_one _ u h
  · simp only [List.cons_append, List.nil_append, List.mem_cons, List.not_mem_nil, or_false] at h
    rcases h with rfl | rfl | rfl | rfl <;> rfl
theorem RefAt.one {w : World} {mb : Nat} {rv : Value} {R : List Dg} (h : RefAt w mb rv R) {R' : List Dg} (hs : ∀ d ∈ R', d ∈ R) : ∀ u ∈ R'.flatMap Dg.cells, u.oneCell' = true := fun u hu => by
  obtain ⟨d, hd, hu⟩ := List.mem_flatMap.1 hu
  exact (h.each d (hs d hd)).one u hu
theorem RefAt.head_ {w : World} {mb g n cp k : Nat} {R : List Dg} (h : RefAt w mb (.slice (some ⟨g, 0, none⟩) n cp) R) (hn : n = R.length) (hk : k ≤ n) :
    ((R.take k).flatMap Dg.cells).length = k * 36 ∧ (∀ j u, ((R.take k).flatMap Dg.cells)[j]? = some u → w.cell? ((⟨g, 0, none⟩ : Addr).add j) = some u) ∧ ∀ u ∈ (R.take k).flatMap Dg.cells, u.oneCell' = true := by
  have hlen : ∀ e ∈ R, e.cells.length = 36 := fun e he => (h.each e he).len
  have hc := h.row.cells (g := g) rfl
  have hfl := flat_len36 h.each
  refine ⟨?_, fun j u hj => ?_, h.one fun d hd => List.mem_of_mem_take hd⟩
  · rw [flat_take R k hlen, List.length_take, hfl]; omega
  · rw [flat_take R k hlen, List.getElem?_take] at hj
    split at hj
    · exact hc j u hj
    · cases hj
/-- the address of the row's end behind k -/
def aft (g k cp : Nat) : Addr := if cp = k + 1 then ⟨g, 0, none⟩ else ⟨g, (k + 1) * 36, none⟩
theorem RefAt.tail_ {w : World} {mb g n cp k : Nat} {R : List Dg} (h : RefAt w mb (.slice (some ⟨g, 0, none⟩) n cp) R) (hn : n = R.length) (hk : k < n) (hcp : n ≤ cp) :
    ((R.drop (k + 1)).flatMap Dg.cells).length = (n - (k + 1)) * 36 ∧ (∀ j u, ((R.drop (k + 1)).flatMap Dg.cells)[j]? = some u → w.cell? ((aft g k cp).add j) = some u) ∧ ∀ u ∈ (R.drop (k + 1)).flatMap Dg.cells, u.oneCell' = true := by
  have hlen : ∀ e ∈ R, e.cells.length = 36 := fun e he => (h.each e he).len
  have hc := h.row.cells (g := g) rfl
  have hfl := flat_len36 h.each
  refine ⟨?_, fun j u hj => ?_, h.one fun d hd => List.mem_of_mem_drop hd⟩
  · rw [flat_drop R (k + 1) hlen, List.length_drop, hfl, hn, Nat.sub_mul]
  · rw [flat_drop R (k + 1) hlen, List.getElem?_drop] at hj
    have hj2 := (List.getElem?_eq_some_iff.1 hj).1
    rw [hfl] at hj2
    have h1 := hc _ u hj
    unfold aft
    rw [if_neg (by omega)]
    rw [Addr.add_mid] at h1 ⊢
    rw [Nat.zero_add] at h1
    exact h1
theorem RefAt.erase {mb g n cp k : Nat} {R : List Dg} {W0 w7 w15 : World} {v7 v15 : Value} {xs : List Value} (h : RefAt W0 mb (.slice (some ⟨g, 0, none⟩) n cp) R) (hn : n = R.length) (hk : k < n)
    (ho7 : w7.ownsRow W0.heap.size 81 36 v7 k xs) (hg7 : W0.grownBy w7 none)
    (ho : w15.ownsRow W0.heap.size 81 36 v15 (k + (n - (k + 1))) ((R.take k).flatMap Dg.cells ++ (R.drop (k + 1)).flatMap Dg.cells)) (hg : w7.grownBy w15 v7.ownBlock) :
    w15.heap[mb]? = some (.cells #[.slice (some ⟨g, 0, none⟩) n cp] 30 (0, 0)) ∧ RefMem mb (.slice (some ⟨g, 0, none⟩) n cp) R W0 (w15.setCell ⟨mb, 0, none⟩ v15) v15 (R.eraseIdx k) ∧ ∀ i, i < W0.heap.size → i ≠ mb → (w15.setCell ⟨mb, 0, none⟩ v15).heap[i]? = W0.heap[i]? := by
  have h07 : Below W0.heap.size W0 w7 := Below.grown' (Below.refl _ _) hg7 (Nat.le_refl _) (fun k hk => by cases hk)
  have h15 : Below W0.heap.size W0 w15 := Below.grown' h07 hg h07.size (fun q hq => (ho7.lt q hq).1)
  have hb := (h15.block mb (lt_of_blk h.blk)).trans h.blk
  have t := Turned.setCell hb 0 v15
  have hset : (#[Value.slice (some ⟨g, 0, none⟩) n cp] : Array Value).setIfInBounds 0 v15 = #[v15] := rfl
  rw [hset] at t
  obtain ⟨W9, hW9⟩ : ∃ W, W = w15.setCell ⟨mb, 0, none⟩ v15 := ⟨_, rfl⟩
  rw [← hW9] at t ⊢
  have hml := lt_of_blk h.blk
  have ho9 : W9.ownsRow W0.heap.size 81 36 v15 (k + (n - (k + 1))) ((R.take k).flatMap Dg.cells ++ (R.drop (k + 1)).flatMap Dg.cells) := own_keep ho (fun i hi => t.other (fun e => by have := (ho.lt i hi).1; omega))
  have hlen : (R.eraseIdx k).length = k + (n - (k + 1)) := by rw [List.length_eraseIdx, if_pos (by omega)]; omega
  have hfl : (R.eraseIdx k).flatMap Dg.cells = (R.take k).flatMap Dg.cells ++ (R.drop (k + 1)).flatMap Dg.cells := by rw [List.eraseIdx_eq_take_drop_succ, List.flatMap_append]
  refine ⟨hb, h.re (fun d hd => .inl (List.mem_of_mem_eraseIdx hd)) (h.rows.sublist (List.eraseIdx_sublist _ _)) (by have := h.four; rw [hlen]; omega) ((Kept.of_below h15 (Nat.le_refl _)).trans (G := fun i => i = mb ∨ Value.ownBlock (.slice (some ⟨g, 0, none⟩) n cp) = some i) (Kept.of_turned t (.inl rfl)) (fun i _ h => h)) (t.get (lt_of_blk hb)) ?_ (fun g' hg' => .inr (ho9.lt g' hg').1), fun i hi hne => (t.other hne).trans (h15.block i hi)⟩
  rw [hlen, hfl]
  exact own_mono ho9 (Nat.zero_le _)
theorem map_erase2 {α β : Type} (f : α → β) : ∀ (l : List α) (i : Nat), (l.eraseIdx i).map f = (l.map f).eraseIdx i
  | [], _ => rfl
  | _ :: _, 0 => rfl
  | a :: l, i + 1 => by simp [map_erase2 f l i]
theorem set_erase2 {α : Type} (a : α) : ∀ (l : List α) (i : Nat), (l.set i a).eraseIdx i = l.eraseIdx i
  | [], _ => rfl
  | _ :: _, 0 => rfl
  | b :: l, i + 1 => by simp [set_erase2 a l i]
theorem RefAt.not43 {w : World} {mb b : Nat} {rv rv1 : Value} {R1 : List Dg} {k : Nat} {d2 : Dg} {cs : Array Value} (h : RefAt w mb rv ((R1.set k d2).eraseIdx k)) (hb : w.heap[b]? = some (.cells cs 43 (0, 0))) (hn : ¬ rfoot mb rv1 R1 b) : ¬ (rfoot mb rv ((R1.set k d2).eraseIdx k) b ∨ bods ((R1.set k d2).eraseIdx k) b) := by
  have hk : Kd w b 43 := ⟨_, _, hb⟩
  rintro ((e | e | ⟨d, hd, e⟩) | ⟨d, hd, e⟩)
  · have := (e ▸ hk).one h.kdm; omega
  · have := hk.one (h.kdr e); omega
  · rw [set_erase2] at hd
    exact hn (.inr (.inr ⟨d, List.mem_of_mem_eraseIdx hd, e⟩))
  · have := hk.one ((h.each d hd).kdo e); omega
theorem wp_append_own3 {P : Program} (w : World) {o : Oper} {a : Act} {K : Act → World → Prop} {Q : Exit → Act → World → Prop} (s x : Operand) (t : TypeId)
    (ho : o.op = .call { callee := .builtin .append, args := #[s, x], argTypes := #[t, t] })
    (base : Nat) (e : TypeId) (i : TypeInfo) (z : Value) (size bytes : Nat) (ht : P.underlying t = some (.slice e)) (hi : P.info? e = some i) (hz : i.zero = some z)
    (hsize : i.size = size) (hby : i.bytes = bytes) (hzs : z.cells.size = size) (hsz : 0 < size)
    (v : Value) (n : Nat) (xs : List Value) (hs : a.eval s = v) (hown : w.ownsRow base e size v n xs)
    (ad : Addr) (m c : Nat) (news : List Value) (hx : a.eval x = .slice (some ad) m c) (hl : news.length = m * size) (hnews : ∀ j u, news[j]? = some u → w.cell? (ad.add j) = some u) (h1 : ∀ u ∈ news, u.oneCell' = true)
    (h63 : n + m ≤ maxLen) (hbytes : (n + m) * bytes ≤ 140737488355328) (hbase : base ≤ w.heap.size)
    (h : ∀ v' w', w'.ownsRow base e size v' (n + m) (xs ++ news) → w.grownBy w' v.ownBlock → K (a.put o.dst v') w') : o.wp P a w K Q := by
  obtain ⟨v', w', hr, h2, h3, h4⟩ := run_append_own (P := P) w base t o.type e i z size bytes ht hi hz hsize hby hzs hsz v n xs hown ad m c news hl hnews h1 h63 hbytes hbase
  unfold Oper.wp
  simp [execOp, ho, resolve, invoke, builtin, hs, hx, hr, Result.andThen]
  exact h v' w' h2 h3
theorem size81r (w : World) : (sizeOf 81).run Try.prog w = .ok 36 w := by
  obtain ⟨i, hi⟩ : ∃ i, Try.prog.info? 81 = some i := Option.isSome_iff_exists.1 (by kernel_rfl)
  have e : Try.prog.cellsOf 81 = 36 := by kernel_rfl
  rw [← e]
  exact run_sizeOf w hi
theorem sliced_aft (g k n cp : Nat) : sliced (some ⟨g, 0, none⟩) (k + 1) n cp 36 = .slice (some (aft g k cp)) (n - (k + 1)) (cp - (k + 1)) := by
  unfold sliced aft
  split <;> simp [Addr.add_mid]
end Go.Proofs.Ytjldcblklbikaaa
