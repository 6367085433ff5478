/- Values that are built, conversions, lengths, in a small world of labels. No condition. -/
import Derived.Test.YtjldcblklbikaaaZev5
namespace Go.Proofs.YtjldcblklbikaaaZev
open Go.RowKit
set_option linter.unusedVariables false

section
variable {P : Program} {w0 w w1 : World} {K : Nat → Prop} {ro : Nat → Bool} {β : Env} {H : Heap}

/-! ### values that are built -/
inductive PsR (β : Env) : List (Nat × Value) → List (Nat × Value) → Prop
  | nil : PsR β [] []
  | cons {i : Nat} {v v' : Value} {r r' : List (Nat × Value)} (h : VR β v v') (k : PsR β r r') : PsR β ((i, v) :: r) ((i, v') :: r')

def partsE (T : List Value) : List (Nat × Operand) → Option (List (Nat × Value))
  | [] => some []
  | (i, x) :: r => match opd T x, partsE T r with
    | some v, some vs => some ((i, v) :: vs)
    | _, _ => none
theorem partsE_vr {T : List Value} {a : Act} (h : LsR β T a.tmps.toList) : ∀ (l : List (Nat × Operand)) (ps : List (Nat × Value)), partsE T l = some ps → PsR β ps (l.map fun (i, x) => (i, a.eval x)) := by
  intro l
  induction l with
  | nil => intro ps e; cases e; exact .nil
  | cons p r ih =>
    obtain ⟨i, x⟩ := p
    intro ps e
    simp only [partsE] at e
    split at e
    · rename_i v vs e1 e2
      cases e
      exact .cons (opd_vr h e1) (ih _ e2)
    · cases e
def opds (T : List Value) : List Operand → Option (List Value)
  | [] => some []
  | x :: r => match opd T x, opds T r with
    | some v, some vs => some (v :: vs)
    | _, _ => none
theorem LsR.nil (β : Env) : LsR β [] [] := ⟨rfl, fun i x x' a _ => by simp at a⟩
theorem LsR.cons {v v' : Value} {r r' : List Value} (h : VR β v v') (k : LsR β r r') : LsR β (v :: r) (v' :: r') :=
  ⟨by simp [k.1], fun i x x' a b => by
    cases i with
    | zero => simp at a b; subst a; subst b; exact h
    | succ i => exact k.2 i x x' (by simpa using a) (by simpa using b)⟩
theorem LsR.append {c c' d d' : List Value} (h : LsR β c c') (k : LsR β d d') : LsR β (c ++ d) (c' ++ d') :=
  ⟨by simp [h.1, k.1], fun i x x' a b => by
    rcases Nat.lt_or_ge i c.length with hi | hi
    · rw [List.getElem?_append_left hi] at a
      rw [List.getElem?_append_left (by rw [← h.1]; exact hi)] at b
      exact h.2 _ _ _ a b
    · rw [List.getElem?_append_right hi] at a
      rw [List.getElem?_append_right (by rw [← h.1]; exact hi), ← h.1] at b
      exact k.2 _ _ _ a b⟩
theorem opds_vr {T : List Value} {a : Act} (h : LsR β T a.tmps.toList) : ∀ (l : List Operand) (vs : List Value), opds T l = some vs → LsR β vs (l.map a.eval) := by
  intro l
  induction l with
  | nil => intro vs e; cases e; exact LsR.nil β
  | cons x r ih =>
    intro vs e
    simp only [opds] at e
    split at e
    · rename_i v vs e1 e2; cases e; exact .cons (opd_vr h e1) (ih _ e2)
    · cases e

theorem AsR.set {c c' : Array Value} (h : AsR β c c') (i : Nat) {v v' : Value} (hv : VR β v v') : AsR β (c.setIfInBounds i v) (c'.setIfInBounds i v') := by
  refine ⟨by simp [h.1], fun k x x' a b => ?_⟩
  by_cases e : i = k
  · subst e
    have hi : i < c.size := by have := (Array.getElem?_eq_some_iff.1 a).1; simpa using this
    rw [Array.getElem?_setIfInBounds_self_of_lt hi] at a
    rw [Array.getElem?_setIfInBounds_self_of_lt (by rw [← h.1]; exact hi)] at b
    cases a; cases b; exact hv
  · rw [Array.getElem?_setIfInBounds_ne e] at a b; exact h.2 _ _ _ a b
theorem foldl_set_asr (off : Nat) : ∀ (l l' : List Value) (k : Nat) (c c' : Array Value), LsR β l l' → AsR β c c' →
    AsR β ((l.zipIdx k).foldl (fun cs (p : Value × Nat) => cs.setIfInBounds (off + p.2) p.1) c) ((l'.zipIdx k).foldl (fun cs (p : Value × Nat) => cs.setIfInBounds (off + p.2) p.1) c') := by
  intro l
  induction l with
  | nil =>
    intro l' k c c' h hc
    have : l' = [] := List.eq_nil_of_length_eq_zero (by have := h.1; simp at this; omega)
    subst this; exact hc
  | cons v r ih =>
    intro l' k c c' h hc
    cases l' with
    | nil => have := h.1; simp at this
    | cons v' r' =>
      have hv : VR β v v' := h.2 0 v v' rfl rfl
      have hr : LsR β r r' := ⟨by have := h.1; simpa using this, fun j x x' a b => h.2 (j + 1) x x' (by simpa using a) (by simpa using b)⟩
      simp only [List.zipIdx_cons, List.foldl_cons]
      exact ih r' _ _ _ hr (hc.set _ hv)
theorem fill_asr (place : Nat → Option (Nat × Nat)) : ∀ (ps ps' : List (Nat × Value)) (c c' cs : Array Value), PsR β ps ps' → AsR β c c' → Instr.fill place c ps = some cs →
    ∃ cs', Instr.fill place c' ps' = some cs' ∧ AsR β cs cs' := by
  intro ps
  induction ps with
  | nil => intro ps' c c' cs h hc e; cases h; simp only [Instr.fill, Option.some.injEq] at e; subst e; exact ⟨c', rfl, hc⟩
  | cons p r ih =>
    intro ps' c c' cs h hc e
    cases h with
    | cons hv hr =>
      rename_i i v v' r'
      simp only [Instr.fill] at e ⊢
      split at e
      · cases e
      · rename_i off size hp
        have hl := cells_vr hv
        have hsz : v'.cells.size = v.cells.size := by have := hl.1; simp at this; omega
        split at e
        · cases e
        · rename_i hn
          rw [if_neg (by rw [hsz, ← hc.1]; exact hn)]
          refine ih _ _ _ _ hr ?_ e
          have := foldl_set_asr (β := β) off v.cells.toList v'.cells.toList 0 c c' hl hc
          rw [← Array.foldl_toList, ← Array.foldl_toList, Array.toList_zipIdx, Array.toList_zipIdx]
          exact this

def buildE (P : Program) (t : TypeId) (ps : List (Nat × Value)) : Option Value :=
  match zeroE P t, P.built t ps with
  | some _, some c => some (.agg c)
  | _, _ => none
theorem built_asr {t : TypeId} {ps ps' : List (Nat × Value)} {c z : Array Value} (hp : PsR β ps ps') (hz : zeroE P t = some z) (h : P.built t ps = some c) : ∃ c', P.built t ps' = some c' ∧ AsR β c c' := by
  unfold zeroE at hz
  unfold Program.built at h ⊢
  cases hi : P.info? t with
  | none => rw [hi] at hz; cases hz
  | some it =>
    rw [hi] at hz h
    simp only at hz
    cases hzz : it.zero with
    | none => rw [hzz] at hz; cases hz
    | some zz =>
      rw [hzz] at hz
      simp only at hz
      split at hz
      · rename_i hb
        have hr : AsR β zz.cells zz.cells := all_bare_asr hb
        cases hu : P.underlying t with
        | none => simp [hu] at h
        | some d =>
          cases d <;> try (simp [hu] at h; done)
          case array n e =>
            cases hie : P.info? e with
            | none => simp [hu, hzz, hie] at h
            | some ie =>
              simp only [hu, hzz, hie] at h ⊢
              exact fill_asr _ _ _ _ _ _ hp hr h
          case struct fields =>
            cases hpl : fields.toList.mapM (fun f => (P.info? f.type).map fun i => (f.offset, i.size)) with
            | none => simp [hu, hzz, hpl] at h
            | some places =>
              simp only [hu, hzz, hpl] at h ⊢
              exact fill_asr _ _ _ _ _ _ hp hr h
      · cases hz
theorem buildE_run {t : TypeId} {ps : List (Nat × Value)} {ps' : Array (Nat × Value)} {v : Value} (hp : PsR β ps ps'.toList) (he : buildE P t ps = some v) :
    ∃ v', (∀ w, (Instr.build t ps').run P w = .ok v' w) ∧ VR β v v' := by
  unfold buildE at he
  split at he
  · rename_i z c hz hc
    cases he
    obtain ⟨c', h1, h2⟩ := built_asr hp hz hc
    exact ⟨.agg c', fun w => run_build w t ps' c' h1, .agg h2.1 h2.2⟩
  · cases he

def rowZero (z : Array Value) (n : Nat) : Array Value := (Array.range n).map (fun i => z[i % z.size]!)
def buildSliceE (P : Program) (H : Heap) (t : TypeId) (n : Nat) (ps : List (Nat × Value)) : Option (Value × Heap) :=
  match P.underlying t with
  | some (.slice e) => match P.info? e, zeroE P e with
    | some i, some z =>
      if n = 0 then match ps with
        | [] => some (.slice (some ⟨H.length, 0, none⟩) 0 (2 * i.size + 1), H ++ [some (.cells #[] e)])
        | _ :: _ => none
      else if (rowZero z (n * i.size)).all bare = true ∧ n * i.size ≤ 16777216 ∧ n * i.size ≠ 0 then
        match Instr.fill (fun k => some (k * i.size, i.size)) (rowZero z (n * i.size)) ps with
        | some c => if c.size = n * i.size then some (.slice (some ⟨H.length, 0, none⟩) n (2 * i.size + 1), H ++ [some (.cells c e)]) else none
        | none => none
      else none
    | _, _ => none
  | _ => none
theorem new_slice (h : M w0 K ro β H w) (n s m : Nat) (hn : n * s ≤ m) : VR (β ++ [some ⟨w.heap.size, 0, m⟩]) (.slice (some ⟨H.length, 0, none⟩) n (2 * s + 1)) (.slice (some ⟨w.heap.size, 0, none⟩) n n) :=
  .sl ⟨rfl, Nat.le_refl _, fun _ => rfl, .inl ⟨⟨w.heap.size, 0, m⟩, by rw [← h.len]; simp, rfl, rfl, .inl rfl, by rw [show (2 * s + 1) / 2 = s from by omega]; simpa using hn⟩⟩
theorem buildSliceE_run (h : M w0 K ro β H w) {t : TypeId} {n : Nat} {ps : List (Nat × Value)} {ps' : Array (Nat × Value)} {v : Value} {H' : Heap} (hp : PsR β ps ps'.toList) (he : buildSliceE P H t n ps = some (v, H')) :
    ∃ v' w1 β', (Instr.buildSlice t n ps').run P w = .ok v' w1 ∧ Ext β β' ∧ M w0 K ro β' H' w1 ∧ VR β' v v' := by
  unfold buildSliceE at he
  split at he
  · rename_i e hu
    split at he
    · rename_i i z hi hz
      split at he
      · rename_i hn
        subst hn
        split at he
        · cases he
          cases hpp : ps'.toList with
          | nil =>
            have hs : (Go.sizeOf e).run P w = .ok i.size w := by simp [Go.sizeOf, typeInfo, hi]
            refine ⟨.slice (some ⟨w.heap.size, 0, none⟩) 0 0, w.alloc (.cells #[] e), _, ?_, Ext.push _ _, new_cells h (c := #[]) (c' := #[]) ⟨rfl, fun i x x' a _ => by simp at a⟩ e, new_slice h 0 i.size _ (by simp)⟩
            have e0 : Array.range 0 = #[] := Array.eq_empty_of_size_eq_zero (by simp)
            simp [Instr.buildSlice, run_underlying hu, hs, hpp, Instr.fill, newRow, e0]
          | cons p r => rw [hpp] at hp; cases hp
        · cases he
      rename_i hn0
      split at he
      · rename_i hc
        obtain ⟨c1, c2, c3⟩ := hc
        split at he
        · rename_i c hf
          split at he
          · rename_i hsz
            cases he
            obtain ⟨zv, rfl, hr, hb⟩ := zeroE_run hz
            obtain ⟨c', f1, f2⟩ := fill_asr _ _ _ _ _ _ hp (all_bare_asr (β := β) c1) hf
            refine ⟨.slice (some ⟨w.heap.size, 0, none⟩) n n, w.alloc (.cells c' e), _, ?_, Ext.push _ _, new_cells h f2 e, new_slice h n i.size _ (by rw [← f2.1, hsz]; exact Nat.le_refl _)⟩
            have c2' : ¬ (16777216 < n * i.size) := by omega
            have f1' : Instr.fill (fun k => some (k * i.size, i.size)) ((Array.range (n * i.size)).map (fun k => zv.cells[k % zv.cells.size]!)) ps'.toList = some c' := f1
            have hs : (Go.sizeOf e).run P w = .ok i.size w := by simp [Go.sizeOf, typeInfo, hi]
            simp [Instr.buildSlice, run_underlying hu, hs, c2', c3, hr, f1', newRow]
          · cases he
        · cases he
      · cases he
    · cases he
  · cases he

/-! ### small ones -/
def nilE : Value → Option Value
  | .pointer (some a) => some (.pointer (some a))
  | .func (.func f) a b => some (.func (.func f) a b)
  | _ => none
theorem nilE_run {x x' v : Value} (hx : VR β x x') (he : nilE x = some v) {ρ : Operand → Value} {o : Oper} {y : Operand} (ho : o.op = .nilCheck y) (hy : ρ y = x') (w : World) :
    (execOp ρ o).run P w = .ok (.value x') w ∧ VR β v x' := by
  unfold nilE at he
  split at he
  · cases he
    refine ⟨?_, hx⟩
    unfold execOp
    simp only [ho, hy]
    cases hx; rfl
  · cases he
    refine ⟨?_, hx⟩
    unfold execOp
    simp only [ho, hy]
    cases hx; rfl
  · cases he

def ifaceE (P : Program) (t : TypeId) (x : Value) : Option Value :=
  match P.underlying t with
  | some (.interface _) => none
  | some _ => some (.iface t x)
  | none => none
theorem ifaceE_run {t : TypeId} {x x' v : Value} (hx : VR β x x') (he : ifaceE P t x = some v) : ∃ v', (∀ w, (Instr.makeInterface t x').run P w = .ok v' w) ∧ VR β v v' := by
  unfold ifaceE at he
  split at he
  · cases he
  · rename_i d hn hu
    cases he
    refine ⟨_, fun w => ?_, .iface hx⟩
    simp only [Instr.makeInterface, Sem.run_bind, run_underlying hu, Result.andThen_ok]
    cases d <;> first | rfl | exact (hn _ hu).elim
  · cases he

def extractE (x : Value) (i : Nat) : Option Value :=
  match x with
  | .tuple vs => vs[i]?
  | _ => none
theorem extractE_run {x x' v : Value} {i : Nat} (hx : VR β x x') (he : extractE x i = some v) : ∃ v', (∀ w, (Instr.extract x' i).run P w = .ok v' w) ∧ VR β v v' := by
  unfold extractE at he
  split at he
  · cases hx with
    | tuple h1 h2 =>
      obtain ⟨v', e1, e2⟩ := AsR.at ⟨h1, h2⟩ he
      exact ⟨v', fun w => by simp [Instr.extract, e1], e2⟩
  · cases he

def arrayAtE (P : Program) (t : TypeId) (x : Value) : Option Value :=
  match P.underlying t, x with
  | some (.array n _), .slice (some a) l _ => if n ≤ l ∧ 0 < l then some (.pointer (some a)) else none
  | _, _ => none
theorem arrayAtE_run {t : TypeId} {x x' v : Value} (hx : VR β x x') (he : arrayAtE P t x = some v) : ∃ v', (∀ w, (Instr.arrayAt t x').run P w = .ok v' w) ∧ VR β v v' := by
  unfold arrayAtE at he
  split at he
  · rename_i n e a l k hu
    split at he
    · rename_i hc
      cases he
      cases hx with
      | sl g =>
        refine ⟨_, fun w => ?_, .ptr (g.ar hc.2)⟩
        have : ¬ (l < n) := by omega
        simp [Instr.arrayAt, run_underlying hu, this]
    · cases he
  · cases he

def lenE (P : Program) (H : Heap) (t : TypeId) (x : Value) : Option Value :=
  match P.underlying t, x with
  | some .string, .string s => some (goInt s.size)
  | some (.array n _), _ => some (goInt n)
  | some (.pointer a), _ => match P.underlying a with
    | some (.array n _) => some (goInt n)
    | _ => none
  | some (.slice _), .slice _ n _ => some (goInt n)
  | some (.map _ _), .map none => some (goInt 0)
  | some (.map _ _), .map (some l) => match H[l]? with
    | some (some (.map es _)) => some (goInt es.size)
    | _ => none
  | _, _ => none
theorem M.map (h : M w0 K ro β H w) {l b : Nat} {es : Array MapEntry} {k : Nat} (hl : H[l]? = some (some (.map es k))) (hb : LR β l b) :
    ∃ p es', β[l]? = some (some p) ∧ b = p.b ∧ w.heap[b]? = some (.map es' k) ∧ es.size = es'.size ∧ (∀ (i : Nat) (e e' : MapEntry), es[i]? = some e → es'[i]? = some e' → e'.born = e.born ∧ VR β e.key e'.key ∧ VR β e.val e'.val) := by
  obtain ⟨p, o', h1, h2, h3⟩ := h.obj l _ hl
  rcases hb with ⟨q, h4, rfl⟩ | h4
  · rw [h1] at h4; cases h4
    cases h3 with
    | map a b => exact ⟨p, _, h1, rfl, h2, a, b⟩
  · rw [h1] at h4; cases h4
theorem lenE_run (h : M w0 K ro β H w) {t ty : TypeId} {ts : Array TypeId} {x x' v : Value} (ht : ts[0]? = some t) (hx : VR β x x') (he : lenE P H t x = some v) :
    (Builtin.len_ ts ty #[x']).run P w = .ok v w ∧ VR β v v := by
  unfold lenE at he
  have h0 : (#[x'] : Array Value)[0]? = some x' := rfl
  split at he
  · rename_i hu; cases he; cases hx; exact ⟨by simp [Builtin.len_, ht, run_underlying hu], .int _ _⟩
  · rename_i hu; cases he; exact ⟨by simp [Builtin.len_, ht, run_underlying hu], .int _ _⟩
  · rename_i hu
    split at he
    · rename_i hu2; cases he; exact ⟨by simp [Builtin.len_, ht, run_underlying hu, run_underlying hu2], .int _ _⟩
    · cases he
  · rename_i hu; cases he; cases hx <;> exact ⟨by simp [Builtin.len_, ht, run_underlying hu], .int _ _⟩
  · rename_i hu; cases he; cases hx; exact ⟨by simp [Builtin.len_, ht, run_underlying hu], .int _ _⟩
  · rename_i l hu
    split at he
    · rename_i es k hl
      cases he
      cases hx with
      | map hb =>
        obtain ⟨p, es', _, _, h3, h4, _⟩ := h.map hl hb
        refine ⟨?_, .int _ _⟩
        simp [Builtin.len_, ht, run_underlying hu, getObj, Sem.run, h3, h4]
    · cases he
  · cases he
def capE (P : Program) (t : TypeId) (x : Value) : Option Value :=
  match P.underlying t, x with
  | some (.slice _), .slice none _ c => some (goInt c)
  | some (.slice _), .slice (some _) n k => if k % 2 = 1 then some (goInt n) else none
  | _, _ => none
end
end Go.Proofs.YtjldcblklbikaaaZev
