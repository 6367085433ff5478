/- A pool in memory: a datagram in it changed, added, taken out; what a part does to a pool, in plain words. No condition. -/
import Derived.Test.YtjldcblklbikaaaFP
namespace Go.Proofs.Ytjldcblklbikaaa
open Go.RowKit
set_option linter.unusedVariables false
set_option linter.unusedSimpArgs false
/-- a datagram of the pool, as far as it is data -/
structure Ds where
  src : List Nat
  dst : List Nat
  id : Nat
  over : Nat
  bad : Bool
  L : List Pk
def Dg.abs (d : Dg) : Ds := ⟨d.src, d.dst, d.id, d.over, d.bad, d.L.map (·.pk)⟩
def Ds.has (x : Pk) (d : Ds) : Bool := d.src == x.src && (d.dst == x.dst && d.id == x.id)
theorem has_abs (x : Pk) (d : Dg) : Ds.has x d.abs = Dg.has x.src x.dst x.id d := rfl
def spoilS (d : Ds) : Ds := { d with bad := true, L := [] }
def freshS (now : Nat) (x : Pk) : Ds := ⟨x.src, x.dst, x.id, addU now 60000, false, []⟩
/-- the first that has the part's name -/
def FirstS (S : List Ds) (x : Pk) (r : Option Nat) : Prop := match r with
  | none => ∀ d ∈ S, Ds.has x d = false
  | some k => ∃ d, S[k]? = some d ∧ Ds.has x d = true ∧ ∀ (j : Nat) (y : Ds), j < k → S[j]? = some y → Ds.has x y = false
theorem FirstD.abs {D : List Dg} {x : Pk} {r : Option Nat} (h : FirstD D (Dg.has x.src x.dst x.id) r) : FirstS (D.map Dg.abs) x r := by
  cases r with
  | none =>
    intro d hd
    obtain ⟨e, he, rfl⟩ := List.mem_map.1 hd
    exact h e he
  | some k =>
    obtain ⟨d, hd, ht, hno⟩ := h
    refine ⟨d.abs, by rw [List.getElem?_map, hd]; rfl, ht, fun j y hj hy => ?_⟩
    rw [List.getElem?_map] at hy
    obtain ⟨e, he, rfl⟩ := Option.map_eq_some_iff.1 hy
    exact hno j e hj he
/-- what becomes of a part that may be, in the datagram at k -/
def PutS (x : Pk) (S : List Ds) (k : Nat) (d : Ds) (S' : List Ds) (out : Option Pk) (dr : Bool) : Prop :=
  (judgeN d.L x = 1 ∧ S' = S ∧ out = none ∧ dr = false) ∨
  (judgeN d.L x = 2 ∧ S' = S.set k (spoilS d) ∧ out = none ∧ dr = true) ∨
  (judgeN d.L x = 0 ∧ ¬ (hadN (d.L ++ [x]) : Int) = endZ (d.L ++ [x]) ∧ S' = S.set k { d with L := d.L ++ [x] } ∧ out = none ∧ dr = false) ∨
  (judgeN d.L x = 0 ∧ (hadN (d.L ++ [x]) : Int) = endZ (d.L ++ [x]) ∧ S' = S.eraseIdx k ∧ (∃ l, l.Perm (d.L ++ [x]) ∧ (l.Pairwise fun a b => frm a ≤ frm b) ∧ out = joinP l ∧ out ≠ none) ∧ dr = false)
def AddS (now : Nat) (x : Pk) (S S' : List Ds) (out : Option Pk) (dr : Bool) : Prop :=
  (x.is = false ∧ S' = S ∧ out = none ∧ dr = true) ∨
  (x.is = true ∧ mayB x = false ∧ ((FirstS S x none ∧ S' = S) ∨ ∃ k d, FirstS S x (some k) ∧ S[k]? = some d ∧ S' = S.set k (spoilS d)) ∧ out = none ∧ dr = true) ∨
  (x.is = true ∧ mayB x = true ∧ (∃ k d, FirstS S x (some k) ∧ S[k]? = some d ∧ d.bad = true) ∧ S' = S ∧ out = none ∧ dr = true) ∨
  (x.is = true ∧ mayB x = true ∧ FirstS S x none ∧ S.length = 4 ∧ S' = S ∧ out = none ∧ dr = true) ∨
  (x.is = true ∧ mayB x = true ∧ ∃ k d, FirstS S x (some k) ∧ S[k]? = some d ∧ d.bad = false ∧ PutS x S k d S' out dr) ∨
  (x.is = true ∧ mayB x = true ∧ FirstS S x none ∧ S.length ≠ 4 ∧ PutS x (S ++ [freshS now x]) S.length (freshS now x) S' out dr)
/-! ### in memory -/
theorem own_type {w : World} {B e s n : Nat} {v : Value} {xs : List Value} (h : w.ownsRow B e s v n xs) {i : Nat} (hi : v.ownBlock = some i) : ∃ cur, w.heap[i]? = some (.cells cur e (0, 0)) := by
  rcases h.2 with ⟨rfl, _⟩ | ⟨g, cap, cur, rfl, hb, hg, _⟩
  · cases hi
  · cases hi; exact ⟨cur, hg⟩
theorem body_type {w : World} {e : El} (h : BodyAt w e) {i : Nat} (hi : e.adr = some ⟨i, 0, none⟩) : ∃ cur, w.heap[i]? = some (.cells cur 5 (0, 0)) := by
  rcases h.blk with h1 | ⟨g, cur, h1, h2, h3⟩
  · rw [h1] at hi; cases hi
  · rw [h1] at hi; cases hi; exact ⟨cur, h2⟩
/-- the kinds of a pool's blocks -/
inductive Kd (w : World) (i : Nat) : Nat → Prop where
  | mk (cur : Array Value) (t : TypeId) (h : w.heap[i]? = some (.cells cur t (0, 0))) : Kd w i t
theorem Kd.one {w : World} {i a b : Nat} (h : Kd w i a) (k : Kd w i b) : a = b := by
  obtain ⟨c, _, h⟩ := h
  obtain ⟨c2, _, k⟩ := k
  rw [h] at k; cases k; rfl
theorem DgAt.kdb {w : World} {d : Dg} (h : DgAt w d) : Kd w d.blk 75 := ⟨_, _, h.blk⟩
theorem DgAt.kdv {w : World} {d : Dg} (h : DgAt w d) {i : Nat} (hi : d.v.ownBlock = some i) : Kd w i 43 := by
  obtain ⟨cur, hc⟩ := own_type h.own hi; exact ⟨_, _, hc⟩
theorem DgAt.kdo {w : World} {d : Dg} (h : DgAt w d) {i : Nat} (hi : d.bods i) : Kd w i 5 := by
  obtain ⟨e, he, hi⟩ := hi
  obtain ⟨cur, hc⟩ := body_type (h.each e he).2.1 hi; exact ⟨_, _, hc⟩
theorem PoolAt.kdp {w : World} {pb : Nat} {rv : Value} {D : List Dg} (h : PoolAt w pb rv D) : Kd w pb 58 := ⟨_, _, h.blk⟩
theorem PoolAt.kdr {w : World} {pb : Nat} {rv : Value} {D : List Dg} (h : PoolAt w pb rv D) {i : Nat} (hi : rv.ownBlock = some i) : Kd w i 71 := by
  obtain ⟨cur, hc⟩ := own_type h.row hi; exact ⟨_, _, hc⟩
theorem PoolAt.blk_ne {w : World} {pb : Nat} {rv : Value} {D : List Dg} (h : PoolAt w pb rv D) {i j : Nat} {a b : Dg} (hi : D[i]? = some a) (hj : D[j]? = some b) (hne : i ≠ j) : a.blk ≠ b.blk := by
  have hp := List.pairwise_iff_getElem.1 h.blks
  obtain ⟨h1, rfl⟩ := List.getElem?_eq_some_iff.1 hi
  obtain ⟨h2, rfl⟩ := List.getElem?_eq_some_iff.1 hj
  rcases Nat.lt_or_gt_of_ne hne with hlt | hlt
  · exact hp i j h1 h2 hlt
  · exact (hp j i h2 h1 hlt).symm
theorem PoolAt.row_ne {w : World} {pb : Nat} {rv : Value} {D : List Dg} (h : PoolAt w pb rv D) {i j : Nat} {a b : Dg} (hi : D[i]? = some a) (hj : D[j]? = some b) (hne : i ≠ j) {g : Nat} (ha : a.v.ownBlock = some g) : b.v.ownBlock ≠ some g := by
  have hp := List.pairwise_iff_getElem.1 h.rows
  obtain ⟨h1, rfl⟩ := List.getElem?_eq_some_iff.1 hi
  obtain ⟨h2, rfl⟩ := List.getElem?_eq_some_iff.1 hj
  intro hb
  rcases Nat.lt_or_gt_of_ne hne with hlt | hlt
  · rcases hp i j h1 h2 hlt with h | h
    · rw [h] at ha; cases ha
    · exact h (ha.trans hb.symm)
  · rcases hp j i h2 h1 hlt with h | h
    · rw [h] at hb; cases hb
    · exact h (hb.trans ha.symm)
/-- blocks of the pool that are not of this datagram -/
theorem PoolAt.apart {w : World} {pb : Nat} {rv : Value} {D : List Dg} (h : PoolAt w pb rv D) {k : Nat} {d : Dg} (hk : D[k]? = some d) {i : Nat} (hi : d.foot i) :
    i ≠ pb ∧ rv.ownBlock ≠ some i ∧ ∀ (j : Nat) (b : Dg), D[j]? = some b → (j ≠ k → ¬ b.foot i) ∧ ¬ b.bods i := by
  have hd := h.each d (List.mem_of_getElem? hk)
  rcases hi with rfl | hi
  · refine ⟨?_, ?_, fun j b hb => ?_⟩
    · intro e; have := hd.kdb.one (e ▸ h.kdp); omega
    · intro e; have := hd.kdb.one (h.kdr e); omega
    · have hbm := h.each b (List.mem_of_getElem? hb)
      refine ⟨fun hne hf => ?_, fun ho => ?_⟩
      · rcases hf with e | hf
        · exact h.blk_ne hk hb (fun e => hne e.symm) e
        · have := hd.kdb.one (hbm.kdv hf); omega
      · have := hd.kdb.one (hbm.kdo ho); omega
  · refine ⟨?_, ?_, fun j b hb => ?_⟩
    · intro e; have := (hd.kdv hi).one (e ▸ h.kdp); omega
    · intro e; have := (hd.kdv hi).one (h.kdr e); omega
    · have hbm := h.each b (List.mem_of_getElem? hb)
      refine ⟨fun hne hf => ?_, fun ho => ?_⟩
      · rcases hf with e | hf
        · have := (hd.kdv hi).one (e ▸ hbm.kdb); omega
        · exact h.row_ne hk hb (fun e => hne e.symm) hi hf
      · have := (hd.kdv hi).one (hbm.kdo ho); omega
/-- what a call leaves of a pool -/
structure AddMem (pb : Nat) (rv : Value) (D : List Dg) (w w' : World) (rv' : Value) (D' : List Dg) : Prop where
  pool : PoolAt w' pb rv' D'
  kept : Kept (foot pb rv D) w w'
  foot : ∀ k, foot pb rv' D' k → foot pb rv D k ∨ w.heap.size ≤ k
  bods : ∀ k, bods D' k → bods D k ∨ w.heap.size ≤ k
theorem AddMem.refl {pb : Nat} {rv : Value} {D : List Dg} {w : World} (h : PoolAt w pb rv D) : AddMem pb rv D w w rv D := ⟨h, Kept.refl _ _, fun _ h => .inl h, fun _ h => .inl h⟩
theorem AddMem.trans {pb : Nat} {rv rv1 rv2 : Value} {D D1 D2 : List Dg} {a b c : World} (h : AddMem pb rv D a b rv1 D1) (k : AddMem pb rv1 D1 b c rv2 D2) : AddMem pb rv D a c rv2 D2 where
  pool := k.pool
  kept := h.kept.trans k.kept (fun i hi hf => (h.foot i hf).resolve_right (by omega))
  foot := fun i hi => (k.foot i hi).elim (fun h1 => h.foot i h1) (fun h1 => .inr (Nat.le_trans h.kept.size h1))
  bods := fun i hi => (k.bods i hi).elim (fun h1 => h.bods i h1) (fun h1 => .inr (Nat.le_trans h.kept.size h1))
theorem AddMem.below {pb : Nat} {rv : Value} {D : List Dg} {a b : World} (h : PoolAt a pb rv D) (hb : Below a.heap.size a b) : AddMem pb rv D a b rv D := ⟨h.below hb, Kept.of_below hb (Nat.le_refl _), fun _ h => .inl h, fun _ h => .inl h⟩
/-- a block that is none of the pool's is written -/
theorem AddMem.aside {pb b : Nat} {rv : Value} {D : List Dg} {w w' : World} {o : Obj} (h : PoolAt w pb rv D) (ht : Turned b o w w') (hb : ¬ (Ytjldcblklbikaaa.foot pb rv D b ∨ Ytjldcblklbikaaa.bods D b)) : PoolAt w' pb rv D :=
  h.keep (fun k hk => ht.other (fun e => hb (e ▸ hk))) (by rw [ht.size]; exact Nat.le_refl _)
/-- a datagram of the pool changed -/
theorem PoolAt.set0 {w w' : World} {pb N : Nat} {rv : Value} {D : List Dg} {k : Nat} {d d' : Dg} (h : PoolAt w pb rv D) (hk : D[k]? = some d) (hb : d'.blk = d.blk) (hd' : DgAt w' d') (hkeep : Kept d.foot w w')
    (hv : ∀ g, d'.v.ownBlock = some g → d.v.ownBlock = some g ∨ w.heap.size ≤ g) (ho : ∀ g, d'.bods g → d.bods g ∨ N ≤ g) : PoolAt w' pb rv (D.set k d') ∧ Kept (foot pb rv D) w w' ∧ (∀ i, foot pb rv (D.set k d') i → foot pb rv D i ∨ w.heap.size ≤ i) ∧ (∀ i, bods (D.set k d') i → bods D i ∨ N ≤ i) := by
  have hdm := List.mem_of_getElem? hk
  have hkl := (List.getElem?_eq_some_iff.1 hk).1
  have hmem : ∀ b ∈ D.set k d', b = d' ∨ ∃ j, j ≠ k ∧ D[j]? = some b := by
    intro b hbm
    obtain ⟨j, hj⟩ := List.getElem?_of_mem hbm
    rw [List.getElem?_set] at hj
    split at hj
    · exact .inl (Option.some.inj (by simpa using hj)).symm
    · rename_i hne
      exact .inr ⟨j, fun e => hne e.symm, hj⟩
  have hm2 : (D.set k d').map ptrTo = D.map ptrTo := by
    rw [List.map_set]
    refine List.ext_getElem? fun i => ?_
    rw [List.getElem?_set]
    split
    · rename_i e; subst e
      rw [List.length_map, if_pos hkl, List.getElem?_map, hk]
      simp [ptrTo, hb]
    · rfl
  refine ⟨⟨?_, ?_, ?_, ?_, ?_, by rw [List.length_set]; exact h.four⟩, hkeep.mono fun i _ hf => .inr (.inr ⟨d, hdm, hf⟩), ?_, ?_⟩
  · exact (hkeep.block pb (lt_of_blk h.blk) (fun hf => (h.apart hk hf).1 rfl)).trans h.blk
  · rw [List.length_set, hm2]
    exact own_keep h.row (fun i hi => hkeep.block i (own_lt h.row hi) (fun hf => (h.apart hk hf).2.1 hi))
  · intro b hbm
    rcases hmem b hbm with rfl | ⟨j, hj, hjb⟩
    · exact hd'
    · have hba := h.each b (List.mem_of_getElem? hjb)
      refine hba.keep (fun i hi => hkeep.block i (h.lt (hi.imp (fun f => .inr (.inr ⟨b, List.mem_of_getElem? hjb, f⟩)) (fun o => ⟨b, List.mem_of_getElem? hjb, o⟩))) (fun hf => ?_)) hkeep.size
      rcases hi with hi | hi
      · exact ((h.apart hk hf).2.2 j b hjb).1 hj hi
      · exact ((h.apart hk hf).2.2 j b hjb).2 hi
  · have : (D.set k d').map (·.blk) = D.map (·.blk) := by
      rw [List.map_set]
      refine List.ext_getElem? fun i => ?_
      rw [List.getElem?_set]
      split
      · rename_i e; subst e
        rw [List.length_map, if_pos hkl, List.getElem?_map, hk]
        simp [hb]
      · rfl
    have h2 : (D.map (·.blk)).Pairwise (· ≠ ·) := List.pairwise_map.2 h.blks
    rw [← this] at h2
    exact List.pairwise_map.1 h2
  · rw [List.pairwise_iff_getElem]
    intro i j hi hj hij
    rw [List.length_set] at hi hj
    have hgi : (D.set k d')[i]? = some ((D.set k d')[i]'(by rw [List.length_set]; exact hi)) := List.getElem?_eq_getElem _
    have hgj : (D.set k d')[j]? = some ((D.set k d')[j]'(by rw [List.length_set]; exact hj)) := List.getElem?_eq_getElem _
    generalize (D.set k d')[i]'(by rw [List.length_set]; exact hi) = a at hgi ⊢
    generalize (D.set k d')[j]'(by rw [List.length_set]; exact hj) = b at hgj ⊢
    rw [List.getElem?_set] at hgi hgj
    cases ha : a.v.ownBlock with
    | none => exact .inl rfl
    | some g =>
      refine .inr (fun e => ?_)
      by_cases hik : k = i
      · rw [if_pos hik, if_pos hkl] at hgi
        rw [if_neg (by omega)] at hgj
        cases hgi
        rcases hv g ha with h1 | h1
        · exact h.row_ne hk hgj (by omega) h1 e.symm
        · have := own_lt (h.each b (List.mem_of_getElem? hgj)).own e.symm; omega
      · rw [if_neg hik] at hgi
        by_cases hjk : k = j
        · rw [if_pos hjk, if_pos hkl] at hgj
          cases hgj
          rcases hv g e.symm with h1 | h1
          · exact h.row_ne hk hgi (by omega) h1 ha
          · have := own_lt (h.each a (List.mem_of_getElem? hgi)).own ha; omega
        · rw [if_neg hjk] at hgj
          exact h.row_ne hgi hgj (by omega) ha e.symm
  · rintro i (rfl | hi | ⟨b, hbm, hi⟩)
    · exact .inl (.inl rfl)
    · exact .inl (.inr (.inl hi))
    · rcases hmem b hbm with rfl | ⟨j, hj, hjb⟩
      · rcases hi with rfl | hi
        · exact .inl (.inr (.inr ⟨d, hdm, .inl hb⟩))
        · exact (hv i hi).imp (fun h1 => .inr (.inr ⟨d, hdm, .inr h1⟩)) id
      · exact .inl (.inr (.inr ⟨b, List.mem_of_getElem? hjb, hi⟩))
  · rintro i ⟨b, hbm, hi⟩
    rcases hmem b hbm with rfl | ⟨j, hj, hjb⟩
    · exact (ho i hi).imp (fun h1 => ⟨d, hdm, h1⟩) id
    · exact .inl ⟨b, List.mem_of_getElem? hjb, hi⟩
theorem PoolAt.set {w w' : World} {pb : Nat} {rv : Value} {D : List Dg} {k : Nat} {d d' : Dg} (h : PoolAt w pb rv D) (hk : D[k]? = some d) (hb : d'.blk = d.blk) (hd' : DgAt w' d') (hkeep : Kept d.foot w w')
    (hv : ∀ g, d'.v.ownBlock = some g → d.v.ownBlock = some g ∨ w.heap.size ≤ g) (ho : ∀ g, d'.bods g → d.bods g ∨ w.heap.size ≤ g) : AddMem pb rv D w w' rv (D.set k d') := by
  obtain ⟨h1, h2, h3, h4⟩ := h.set0 hk hb hd' hkeep hv ho
  exact ⟨h1, h2, h3, h4⟩
theorem AddMem.set {a w w' : World} {pb : Nat} {rv0 rv : Value} {D0 D : List Dg} {k : Nat} {d d' : Dg} (m : AddMem pb rv0 D0 a w rv D) (hk : D[k]? = some d) (hb : d'.blk = d.blk) (hd' : DgAt w' d') (hkeep : Kept d.foot w w')
    (hv : ∀ g, d'.v.ownBlock = some g → d.v.ownBlock = some g ∨ w.heap.size ≤ g) (ho : ∀ g, d'.bods g → d.bods g ∨ a.heap.size ≤ g) : AddMem pb rv0 D0 a w' rv (D.set k d') := by
  obtain ⟨h1, h2, h3, h4⟩ := m.pool.set0 hk hb hd' hkeep hv ho
  exact ⟨h1, m.kept.trans h2 (fun i hi hf => (m.foot i hf).resolve_right (by omega)), fun i hi => (h3 i hi).elim (m.foot i) (fun h => .inr (Nat.le_trans m.kept.size h)), fun i hi => (h4 i hi).elim (m.bods i) .inr⟩
theorem set_abs {D : List Dg} {k : Nat} {d' : Dg} : (D.set k d').map Dg.abs = (D.map Dg.abs).set k d'.abs := by rw [List.map_set]
theorem filter_erase {D : List Dg} {k : Nat} {d : Dg} (hp : D.Pairwise fun a b => a.blk ≠ b.blk) (hk : D[k]? = some d) : D.filter (fun o => !(o.blk == d.blk)) = D.eraseIdx k := by
  induction D generalizing k with
  | nil => simp at hk
  | cons a D ih =>
    rw [List.pairwise_cons] at hp
    cases k with
    | zero =>
      simp at hk; subst hk
      rw [List.filter_cons_of_neg (by simp), List.eraseIdx_cons_zero, List.filter_eq_self]
      intro b hb
      have := hp.1 b hb
      simp; exact fun e => this e.symm
    | succ k =>
      have hk' : D[k]? = some d := by simpa using hk
      have := hp.1 d (List.mem_of_getElem? hk')
      rw [List.filter_cons_of_pos (by simpa using this), List.eraseIdx_cons_succ, ih hp.2 hk']
end Go.Proofs.Ytjldcblklbikaaa
