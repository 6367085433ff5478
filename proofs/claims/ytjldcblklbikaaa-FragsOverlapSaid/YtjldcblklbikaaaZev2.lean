/- Loads, stores and new blocks in a small world of labels. No condition. -/
import Derived.Test.YtjldcblklbikaaaZev1
namespace Go.Proofs.YtjldcblklbikaaaZev
open Go.RowKit
set_option linter.unusedVariables false

section
variable {P : Program} {w0 w w1 : World} {K : Nat → Prop} {ro : Nat → Bool} {β : Env} {H : Heap}

/-- the value of an operand -/
def opd (T : List Value) : Operand → Option Value
  | .tmp t => some (T.getD t undef)
  | .const v => if still v then some v else none
  | .func f => some (.func (.func f) #[] #[])
  | .global _ => none

theorem undef_vr (β : Env) : VR β undef undef := .tuple rfl fun i x x' a _ => by simp at a

theorem lsr_getD {T : List Value} {A : Array Value} (h : LsR β T A.toList) (t : Nat) : VR β (T.getD t undef) (A.getD t undef) := by
  rcases Nat.lt_or_ge t T.length with ht | ht
  · obtain ⟨x', h1, h2⟩ := h.at (i := t) (x := T[t]) (List.getElem?_eq_getElem ht)
    have e1 : T.getD t undef = T[t] := by simp [List.getD_eq_getElem?_getD, ht]
    have e2 : A.getD t undef = x' := by
      rw [Array.getD_eq_getD_getElem?]
      simp only [Array.getElem?_toList] at h1
      rw [h1]; rfl
    rw [e1, e2]; exact h2
  · have e1 : T.getD t undef = undef := by simp [List.getD_eq_getElem?_getD, List.getElem?_eq_none ht]
    have e2 : A.getD t undef = undef := by
      rw [Array.getD_eq_getD_getElem?, Array.getElem?_eq_none (by have := h.1; simp at this; omega)]; rfl
    rw [e1, e2]; exact undef_vr β

theorem opd_vr {T : List Value} {a : Act} (h : LsR β T a.tmps.toList) {x : Operand} {v : Value} (hx : opd T x = some v) : VR β v (a.eval x) := by
  cases x with
  | tmp t => simp only [opd, Option.some.injEq] at hx; subst hx; exact lsr_getD h t
  | const u =>
    simp only [opd] at hx
    split at hx
    · rename_i hs; cases hx; exact still_vr hs
    · cases hx
  | func f => simp only [opd, Option.some.injEq] at hx; subst hx; exact still_vr (by rfl)
  | global g => simp [opd] at hx

/-! ### a pointer into cells -/
theorem M.cells (h : M w0 K ro β H w) {l o : Nat} {c : Array Value} {t : TypeId} {z : Nat × Nat} (hl : H[l]? = some (some (.cells c t z))) :
    ∃ p c' t' fz, β[l]? = some (some p) ∧ w.heap[p.b]? = some (.cells c' t' fz) ∧ CR β p c c' fz ∧ (z = (0, 0) → fz = (0, 0)) := by
  obtain ⟨p, o', h1, h2, h3⟩ := h.obj l _ hl
  cases h3 with
  | cells k hz => exact ⟨p, _, _, _, h1, h2, k, hz⟩

theorem AR.live {a a' : Addr} {p : Spot} (h : AR β a a') (hl : β[a.block]? = some (some p)) : a.spot = none ∧ a' = ⟨p.b, p.s + a.off, none⟩ := by
  obtain ⟨h1, ⟨q, h2, h3⟩ | h2⟩ := h
  · rw [hl] at h2; cases h2; exact ⟨h1, h3⟩
  · rw [hl] at h2; cases h2

theorem one_vr {v v' : Value} (h : VR β v v') : v.oneCell' = v'.oneCell' := by cases h <;> first | rfl | (rename_i h; rw [h]; rfl)

theorem isAgg_row {t : TypeId} {d : TypeDesc} (hu : P.underlying t = some d) (w : World) : (isAgg t).run P w = .ok d.isRow w := by
  unfold isAgg
  rw [Sem.run_bind, run_underlying hu w]
  cases d <;> rfl

def loadE (P : Program) (H : Heap) (t : TypeId) : Value → Option Value
  | .pointer (some ⟨l, o, none⟩) =>
    match H[l]?, P.underlying t, P.info? t with
    | some (some (.cells c _ _)), some d, some i =>
      if d.isRow then (if o + i.size ≤ c.size then some (.agg ((c.toList.drop o).take i.size).toArray) else none) else c[o]?
    | _, _, _ => none
  | _ => none

theorem loadE_run (h : M w0 K ro β H w) {t : TypeId} {v v' x : Value} (hv : VR β v v') (hx : loadE P H t v = some x) :
    ∃ x', (∀ w2 : World, (∀ a p, v = .pointer (some a) → β[a.block]? = some (some p) → w2.heap[p.b]? = w.heap[p.b]?) → (Instr.loadAt t v').run P w2 = .ok x' w2) ∧ VR β x x' := by
  unfold loadE at hx
  split at hx
  · rename_i l o
    split at hx
    · rename_i c ty z d i hl hu hi
      obtain ⟨p, c', t', fz, h1, h2, h3, hz⟩ := h.cells (o := o) hl
      cases hv with
      | ptr k =>
        obtain ⟨_, rfl⟩ := k.live h1
        split at hx
        · rename_i hd
          split at hx
          · rename_i hle
            cases hx
            have hle' : o + i.size ≤ p.n := Nat.le_trans hle h3.le
            have hsz := h3.size
            refine ⟨.agg ((c'.toList.drop (p.s + o)).take i.size).toArray, ?_, .agg ?_ ?_⟩
            · intro w2 hw2
              have h2 := (hw2 _ p rfl h1).trans h2
              refine run_loadAt_mid w2 p.b (p.s + o) t _ d ?_ hu hd ?_
              · intro j u hj
                rw [cell_of_row w2 p.b (p.s + o + j) c' t' fz h2]
                have hj2 : j < i.size := by have := (List.getElem?_eq_some_iff.1 hj).1; simp at this; omega
                rw [List.getElem?_take_of_lt hj2, List.getElem?_drop] at hj
                simpa using hj
              · rw [hi]; simp; omega
            · simp; omega
            · intro j u u' hj hj'
              have hj2 : j < i.size := by have := (Array.getElem?_eq_some_iff.1 hj).1; simp at this; omega
              simp only [List.getElem?_toArray, List.getElem?_take_of_lt hj2, List.getElem?_drop, Array.getElem?_toList] at hj hj'
              obtain ⟨u2, e1, e2⟩ := h3.at_ _ _ hj
              rw [Nat.add_assoc, e1] at hj'
              cases hj'
              exact e2
          · cases hx
        · rename_i hd
          obtain ⟨x', e1, e2⟩ := h3.at_ _ _ hx
          refine ⟨x', ?_, e2⟩
          intro w2 hw2
          have h2 := (hw2 _ p rfl h1).trans h2
          have hd' : d.isRow = false := by simpa using hd
          have hc : w2.cell? ⟨p.b, p.s + o, none⟩ = some x' := by rw [cell_of_row w2 p.b _ c' t' fz h2]; exact e1
          simp only [Instr.loadAt, Instr.sureAddr, loadVar, Sem.run_bind, Sem.run_pure, Result.andThen_ok, isAgg_row hu, hd', Bool.false_eq_true, if_false, run_load, hc]
    · cases hx
  · cases hx

/-! ### a store -/
/-- values put over cells, from one place on -/
def putAll (c : Array Value) (i : Nat) : List Value → Array Value
  | [] => c
  | v :: r => putAll (c.setIfInBounds i v) (i + 1) r

theorem CR.set {p : Spot} {c c' : Array Value} {fz : Nat × Nat} (h : CR β p c c' fz) {i : Nat} (hi : i < c.size) {v v' : Value} (hv : VR β v v') :
    CR β p (c.setIfInBounds i v) (c'.setIfInBounds (p.s + i) v') fz := by
  refine ⟨by simpa using h.size, by simpa using h.le, fun j x hj => ?_, h.fz⟩
  have hsz := h.size
  have hle := h.le
  by_cases e : i = j
  · subst e
    rw [Array.getElem?_setIfInBounds_self_of_lt hi] at hj
    cases hj
    exact ⟨v', by rw [Array.getElem?_setIfInBounds_self_of_lt (by omega)], hv⟩
  · rw [Array.getElem?_setIfInBounds_ne e] at hj
    obtain ⟨x', a, b⟩ := h.at_ j x hj
    exact ⟨x', by rw [Array.getElem?_setIfInBounds_ne (by omega)]; exact a, b⟩

theorem CR.putAll {p : Spot} {fz : Nat × Nat} : ∀ (vs vs' : List Value) (c c' : Array Value) (i : Nat), CR β p c c' fz → LsR β vs vs' → i + vs.length ≤ c.size →
    CR β p (putAll c i vs) (putAll c' (p.s + i) vs') fz := by
  intro vs
  induction vs with
  | nil =>
    intro vs' c c' i h hl _
    have : vs' = [] := List.eq_nil_of_length_eq_zero (by have := hl.1; simp at this; omega)
    subst this
    exact h
  | cons v r ih =>
    intro vs' c c' i h hl hi
    cases vs' with
    | nil => have := hl.1; simp at this
    | cons v' r' =>
      simp only [List.length_cons] at hi
      have hv : VR β v v' := hl.2 0 v v' rfl rfl
      have hr : LsR β r r' := ⟨by have := hl.1; simpa using this, fun j x x' a b => hl.2 (j + 1) x x' (by simpa using a) (by simpa using b)⟩
      exact ih r' _ _ (i + 1) (h.set (by omega) hv) hr (by simpa using (show i + 1 + r.length ≤ c.size by omega))

theorem size_putAll : ∀ (vs : List Value) (c : Array Value) (i : Nat), (putAll c i vs).size = c.size := by
  intro vs
  induction vs with
  | nil => intro c i; rfl
  | cons v r ih => intro c i; simp [putAll, ih]

theorem heap_setCell_blk {w : World} {b : Nat} {c : Array Value} {t : TypeId} {fz : Nat × Nat} (h : w.heap[b]? = some (.cells c t fz)) (i : Nat) (v : Value) :
    (w.setCell ⟨b, i, none⟩ v).heap[b]? = some (.cells (c.setIfInBounds i v) t fz) := by
  simp [World.setCell, Array.getElem?_modify, h]

theorem Chg.trans {b : Nat} {a c d : World} (h : Chg b a c) (k : Chg b c d) : Chg b a d :=
  ⟨k.os.trans h.os, k.tape.trans h.tape, k.output.trans h.output, Nat.le_trans h.size k.size, fun i hi hb => (k.block i (Nat.lt_of_lt_of_le hi h.size) hb).trans (h.block i hi hb)⟩
theorem Chg.refl (b : Nat) (w : World) : Chg b w w := ⟨rfl, rfl, rfl, Nat.le_refl _, fun _ _ _ => rfl⟩
theorem Chg.setCell (w : World) (b i : Nat) (v : Value) : Chg b w (w.setCell ⟨b, i, none⟩ v) :=
  ⟨rfl, rfl, rfl, by simp, fun k _ hk => Below.heap_setCell w ⟨b, i, none⟩ v k hk⟩

theorem run_storeCells_blk (P : Program) {b s : Nat} {t : TypeId} {fz : Nat × Nat} : ∀ (vs : List Value) (i : Nat) (c : Array Value) (w : World), w.heap[b]? = some (.cells c t fz) →
    s + i + vs.length ≤ c.size → (∀ v ∈ vs, v.oneCell' = true) → (∀ j, j < vs.length → ¬ (fz.1 ≤ s + i + j ∧ s + i + j < fz.2)) →
    ∃ w1, (storeCells ⟨b, s, none⟩ vs i).run P w = .ok () w1 ∧ Chg b w w1 ∧ w1.heap[b]? = some (.cells (putAll c (s + i) vs) t fz) := by
  intro vs
  induction vs with
  | nil => intro i c w h _ _ _; exact ⟨w, rfl, Chg.refl _ _, h⟩
  | cons v r ih =>
    intro i c w h hi h1 hf
    simp only [List.length_cons] at hi hf
    have hc : w.cell? ⟨b, s + i, none⟩ = some (c[s + i]'(by omega)) := by
      rw [cell_of_row w b _ c t fz h, Array.getElem?_eq_getElem]
    have hfz : w.frozen? ⟨b, s + i, none⟩ = false := by
      have := hf 0 (by omega)
      simp only [World.frozen?, h]
      simp only [Nat.add_zero] at this
      simpa using this
    have hs : (store ⟨b, s + i, none⟩ v).run P w = .ok () (w.setCell ⟨b, s + i, none⟩ v) := by
      have ho := h1 v (by simp)
      cases v <;> first | (simp [Value.oneCell'] at ho; done) | simp [store, Sem.run, hc, hfz]
    obtain ⟨w1, e1, e2, e3⟩ := ih (i + 1) (c.setIfInBounds (s + i) v) (w.setCell ⟨b, s + i, none⟩ v) (heap_setCell_blk h _ _) (by simp; omega) (fun u hu => h1 u (by simp [hu]))
      (fun j hj => by have := hf (j + 1) (by omega); rwa [show s + i + (j + 1) = s + (i + 1) + j from by omega] at this)
    refine ⟨w1, ?_, (Chg.setCell w b _ v).trans e2, ?_⟩
    · simp only [storeCells, Sem.run_bind, Addr.add_mid, hs, Result.andThen_ok, e1]
    · rw [e3]; simp only [putAll]; rw [show s + (i + 1) = s + i + 1 from by omega]

def storeE (P : Program) (ro : Nat → Bool) (H : Heap) (t : TypeId) (a x : Value) : Option Heap :=
  match a with
  | .pointer (some ⟨l, o, none⟩) =>
    match H[l]?, P.info? t with
    | some (some (.cells c ty z)), some i =>
      if ro l = false ∧ x.cells.size = i.size ∧ x.cells.toList.all (·.oneCell') = true ∧ o + x.cells.size ≤ c.size then some (H.set l (some (.cells (putAll c o x.cells.toList) ty z))) else none
    | _, _ => none
  | _ => none

theorem cells_vr {v v' : Value} (h : VR β v v') : LsR β v.cells.toList v'.cells.toList := by
  have one : ∀ {u u' : Value}, VR β u u' → LsR β [u] [u'] := fun {u u'} k => ⟨rfl, fun i x x' a b => by
    cases i with
    | zero => simp at a b; subst a; subst b; exact k
    | succ i => simp at a⟩
  cases h <;> first
    | (rename_i c h; have e : v'.cells = #[v'] := (by cases v' <;> first | rfl | (simp [Value.oneCell'] at h)); rw [e]; exact one (.opq c h))
    | exact (AsR.toList ⟨by assumption, by assumption⟩)
    | (refine one ?_; constructor <;> assumption)
    | exact one (by constructor)

theorem storeE_run (h : M w0 K ro β H w) {t : TypeId} {a a' x x' : Value} {H' : Heap} (ha : VR β a a') (hx : VR β x x') (he : storeE P ro H t a x = some H') :
    ∃ w1, (Instr.storeAt t a' x').run P w = .ok () w1 ∧ M w0 K ro β H' w1 := by
  unfold storeE at he
  split at he
  · rename_i l o
    split at he
    · rename_i c ty z i hl hi
      split at he
      · rename_i hc
        obtain ⟨hro, hc1, hc2, hc3⟩ := hc
        cases he
        obtain ⟨p, c', t', fz, h1, h2, h3, hz⟩ := h.cells (o := o) hl
        cases ha with
        | ptr k =>
          obtain ⟨_, rfl⟩ := k.live h1
          have hcs := cells_vr hx
          have hlen : x'.cells.size = x.cells.size := by have := hcs.1; simp at this; omega
          have hsz := h3.size
          have hle := h3.le
          obtain ⟨w1, e1, e2, e3⟩ := run_storeCells_blk P (s := p.s + o) x'.cells.toList 0 c' w h2 (by simp; omega)
            (fun v hv => by
              obtain ⟨j, hj⟩ := List.getElem?_of_mem hv
              have hj2 : j < x.cells.toList.length := by have := (List.getElem?_eq_some_iff.1 hj).1; simp at this ⊢; omega
              have hr := hcs.2 j _ v (List.getElem?_eq_getElem hj2) hj
              rw [← one_vr hr]
              exact List.all_eq_true.1 hc2 _ (List.getElem_mem hj2))
            (fun j hj => by
              have := h3.fz (o + j) (by simp at hj; omega)
              rwa [show p.s + o + 0 + j = p.s + (o + j) from by omega])
          refine ⟨w1, ?_, h.turn h1 hro _ _ e2 e3 (.cells ?_ hz)⟩
          · have hs2 : x'.cells.size = i.size := by omega
            simp only [Instr.storeAt, Instr.sureAddr, storeVar, Sem.run_bind, Sem.run_pure, Result.andThen_ok, sizeOf, typeInfo, run_program, hi, hs2]
            simp only [ne_eq, not_true_eq_false, if_false]
            simpa using e1
          · have := CR.putAll _ _ _ _ o h3 hcs (by simp; omega)
            simpa [Nat.add_assoc] using this
      · cases he
    · cases he
  · cases he

/-! ### a new block -/
theorem new_cells (h : M w0 K ro β H w) {c c' : Array Value} (hc : AsR β c c') (t : TypeId) :
    M w0 K ro (β ++ [some ⟨w.heap.size, 0, c'.size⟩]) (H ++ [some (.cells c t)]) (w.alloc (.cells c' t)) := by
  refine h.alloc c'.size _ _ (.cells ⟨by simp, by rw [hc.1]; exact Nat.le_refl _, fun i x hx => ?_, fun i _ => by simp⟩ (fun _ => rfl))
  obtain ⟨x', a, b⟩ := hc.at hx
  exact ⟨x', by simpa using a, b.mono (Ext.push _ _)⟩

theorem new_ptr (h : M w0 K ro β H w) (n : Nat) : VR (β ++ [some ⟨w.heap.size, 0, n⟩]) (.pointer (some ⟨H.length, 0, none⟩)) (.pointer (some ⟨w.heap.size, 0, none⟩)) :=
  .ptr ⟨rfl, .inl ⟨⟨w.heap.size, 0, n⟩, by rw [← h.len]; simp, by simp⟩⟩

/-- a type's zero, cell by cell -/
def zeroE (P : Program) (t : TypeId) : Option (Array Value) :=
  match P.info? t with
  | some i => match i.zero with
    | some z => if z.cells.all bare then some z.cells else none
    | none => none
  | none => none
theorem zeroE_run {t : TypeId} {c : Array Value} (h : zeroE P t = some c) : ∃ z, z.cells = c ∧ (∀ w, (zeroValue t).run P w = .ok z w) ∧ c.all bare = true := by
  unfold zeroE at h
  split at h
  · rename_i i hi
    split at h
    · rename_i z hz
      split at h
      · rename_i hb
        cases h
        exact ⟨z, rfl, fun w => by simp [zeroValue, typeInfo, hi, hz], hb⟩
      · cases h
    · cases h
  · cases h

def newE (H : Heap) (c : Array Value) (t : TypeId) : Value × Heap := (.pointer (some ⟨H.length, 0, none⟩), H ++ [some (.cells c t)])

theorem allocE_run (h : M w0 K ro β H w) {t : TypeId} {c : Array Value} (hz : zeroE P t = some c) :
    ∃ v' w1 β', (Instr.alloc t true (.tuple #[])).run P w = .ok v' w1 ∧ Ext β β' ∧ M w0 K ro β' (newE H c t).2 w1 ∧ VR β' (newE H c t).1 v' := by
  obtain ⟨z, rfl, hr, hb⟩ := zeroE_run hz
  refine ⟨.pointer (some ⟨w.heap.size, 0, none⟩), w.alloc (.cells z.cells t), _, ?_, Ext.push _ _, new_cells h (all_bare_asr hb) t, new_ptr h _⟩
  simp [Instr.alloc, hr, newVar, newRow]

theorem boxE_run (h : M w0 K ro β H w) {t : TypeId} {v v' : Value} (hv : VR β v v') :
    ∃ x' w1 β', (Instr.box t v').run P w = .ok x' w1 ∧ Ext β β' ∧ M w0 K ro β' (newE H v.cells t).2 w1 ∧ VR β' (newE H v.cells t).1 x' := by
  refine ⟨.pointer (some ⟨w.heap.size, 0, none⟩), w.alloc (.cells v'.cells t), _, ?_, Ext.push _ _, new_cells h ?_ t, new_ptr h _⟩
  · simp [Instr.box, newVar, newRow]
  · have := cells_vr hv
    exact ⟨by simpa using this.1, by simpa using this.2⟩
end
end Go.Proofs.YtjldcblklbikaaaZev
