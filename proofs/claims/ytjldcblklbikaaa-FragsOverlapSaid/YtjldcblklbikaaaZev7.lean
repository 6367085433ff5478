/- Slices and maps that are made, lists that grow, copies, conversions, in a small world of labels. No condition. -/
import Derived.Test.YtjldcblklbikaaaZev6
namespace Go.Proofs.YtjldcblklbikaaaZev
open Go.RowKit
set_option linter.unusedVariables false

section
variable {P : Program} {w0 w w1 : World} {K : Nat → Prop} {ro : Nat → Bool} {β : Env} {H : Heap}

theorem capE_run {t ty : TypeId} {ts : Array TypeId} {x x' v : Value} (ht : ts[0]? = some t) (hx : VR β x x') (he : capE P t x = some v) (w : World) :
    (Builtin.cap_ ts ty #[x']).run P w = .ok v w ∧ VR β v v := by
  unfold capE at he
  split at he
  · rename_i hu; cases he; cases hx; exact ⟨by simp [Builtin.cap_, ht, run_underlying hu], .int _ _⟩
  · rename_i hu
    split at he
    · rename_i hk
      cases he
      cases hx with
      | sl g => exact ⟨by simp [Builtin.cap_, ht, run_underlying hu, g.2.2.1 hk], .int _ _⟩
    · cases he
  · cases he

def makeMapE (P : Program) (H : Heap) (t : TypeId) (r : Option Value) : Option (Value × Heap) :=
  match r, P.underlying t with
  | none, _ => some (.map (some H.length), H ++ [some (.map #[] 0)])
  | some (.int _ _), some (.map _ _) => some (.map (some H.length), H ++ [some (.map #[] 0)])
  | _, _ => none
theorem makeMapE_run (h : M w0 K ro β H w) {t : TypeId} {r r' : Option Value} {v : Value} {H' : Heap} (hr : OptR β r r') (he : makeMapE P H t r = some (v, H')) :
    ∃ v' w1 β', (Instr.makeMap t r').run P w = .ok v' w1 ∧ Ext β β' ∧ M w0 K ro β' H' w1 ∧ VR β' v v' := by
  have fin : (.map (some H.length), H ++ [some (.map #[] 0)]) = (v, H') → (Instr.makeMap t r').run P w = .ok (.map (some w.heap.size)) (w.alloc (.map #[] 0)) →
      ∃ v' w1 β', (Instr.makeMap t r').run P w = .ok v' w1 ∧ Ext β β' ∧ M w0 K ro β' H' w1 ∧ VR β' v v' := by
    intro e hrun
    cases e
    refine ⟨_, _, β ++ [some ⟨w.heap.size, 0, 0⟩], hrun, Ext.push _ _, h.alloc 0 _ _ (.map rfl fun i e e' a _ => by simp at a), .map (.inl ⟨⟨w.heap.size, 0, 0⟩, by rw [← h.len]; simp, rfl⟩)⟩
  unfold makeMapE at he
  split at he
  · cases hr
    exact fin (by simpa using he) (by simp [Instr.makeMap])
  · rename_i hu
    cases hr with
    | some k => cases k; exact fin (by simpa using he) (by simp [Instr.makeMap, run_underlying hu, asInt, asIntOf])
  · cases he

def makeSliceE (P : Program) (H : Heap) (t : TypeId) (l c : Value) : Option (Value × Heap) :=
  match P.underlying t, l, c with
  | some (.slice e), .int _ l, .int _ c => match P.info? e, zeroE P e with
    | some i, some z =>
      if 0 ≤ l ∧ l ≤ c ∧ c ≤ 16777216 ∧ (i.bytes : Int) * c ≤ 281474976710656 ∧ (madeCells z (c.toNat * i.size)).all bare = true then
        some (.slice (some ⟨H.length, 0, none⟩) l.toNat (2 * i.size + if l = c then 1 else 0), H ++ [some (.cells (madeCells z (c.toNat * i.size)) e)])
      else none
    | _, _ => none
  | _, _, _ => none
theorem makeSliceE_run (h : M w0 K ro β H w) {t : TypeId} {l c l' c' v : Value} {H' : Heap} (hl : VR β l l') (hc : VR β c c') (he : makeSliceE P H t l c = some (v, H')) :
    ∃ v' w1 β', (Instr.makeSlice t l' c').run P w = .ok v' w1 ∧ Ext β β' ∧ M w0 K ro β' H' w1 ∧ VR β' v v' := by
  unfold makeSliceE at he
  split at he
  · rename_i e kl l kc c hu
    split at he
    · rename_i i z hi hz
      split at he
      · rename_i hh
        obtain ⟨h1, h2, h3, h4, h5⟩ := hh
        cases he
        cases hl; cases hc
        obtain ⟨zv, rfl, hr, hb⟩ := zeroE_run hz
        have hiz : i.zero = some zv := by
          have := hr default
          simp only [zeroValue, typeInfo, Sem.run_bind, run_program, Result.andThen_ok, hi, Sem.run_pure] at this
          cases hq : i.zero with
          | none => rw [hq] at this; simp at this
          | some q => rw [hq] at this; simp at this; rw [this]
        refine ⟨_, _, _, run_make w t e i zv hu hi hiz kl kc l c h1 h2 h4 (by omega), Ext.push _ _, new_cells h (all_bare_asr h5) e, .sl ⟨rfl, by omega, fun hk => by
          split at hk
          · rename_i q; rw [q]
          · omega, .inl ⟨⟨w.heap.size, 0, (madeCells zv.cells (c.toNat * i.size)).size⟩, by rw [← h.len]; simp, rfl, rfl, .inl rfl, ?_⟩⟩⟩
        rw [show (2 * i.size + if l = c then 1 else 0) / 2 = i.size from by split <;> omega, size_madeCells]
        simp
      · cases he
    · cases he
  · cases he

/-! ### the least and the greatest -/
def minG (mx : Bool) (k : IntKind) (n : Int) : List Value → Option Value
  | [] => some (.int k n)
  | .int _ m :: r => minG mx k (if mx then (if m > n then m else n) else (if m < n then m else n)) r
  | _ => none
def minL (mx : Bool) : List Value → Option Value
  | .int k n :: r => minG mx k n r
  | _ => none
theorem minG_run (w : World) : ∀ (r : List Value) (k : IntKind) (n : Int) (v : Value), minG false k n r = some v → (r.foldlM Builtin.min2 (.int k n)).run P w = .ok v w ∧ ∃ j i, v = .int j i := by
  intro r
  induction r with
  | nil => intro k n v h; cases h; exact ⟨rfl, _, _, rfl⟩
  | cons x r ih =>
    intro k n v h
    unfold minG at h
    split at h
    · rename_i e; cases e
    · rename_i e; cases e
      simp only [List.foldlM_cons, Builtin.min2, pure_bind]
      exact ih _ _ _ h
    · cases h
theorem maxG_run (w : World) : ∀ (r : List Value) (k : IntKind) (n : Int) (v : Value), minG true k n r = some v → (r.foldlM Builtin.max2 (.int k n)).run P w = .ok v w ∧ ∃ j i, v = .int j i := by
  intro r
  induction r with
  | nil => intro k n v h; cases h; exact ⟨rfl, _, _, rfl⟩
  | cons x r ih =>
    intro k n v h
    unfold minG at h
    split at h
    · rename_i e; cases e
    · rename_i e; cases e
      simp only [List.foldlM_cons, Builtin.max2, pure_bind]
      exact ih _ _ _ h
    · cases h
theorem minL_run {l : List Value} {v : Value} (h : minL false l = some v) (w : World) (ts : Array TypeId) (ty : TypeId) (a : Array Value) (ha : a.toList = l) : (Builtin.min_ ts ty a).run P w = .ok v w ∧ VR β v v := by
  unfold minL at h
  split at h
  · obtain ⟨h1, j, i, rfl⟩ := minG_run (P := P) w _ _ _ _ h
    exact ⟨by simp only [Builtin.min_, ha]; exact h1, .int _ _⟩
  · cases h
theorem maxL_run {l : List Value} {v : Value} (h : minL true l = some v) (w : World) (ts : Array TypeId) (ty : TypeId) (a : Array Value) (ha : a.toList = l) : (Builtin.max_ ts ty a).run P w = .ok v w ∧ VR β v v := by
  unfold minL at h
  split at h
  · obtain ⟨h1, j, i, rfl⟩ := maxG_run (P := P) w _ _ _ _ h
    exact ⟨by simp only [Builtin.max_, ha]; exact h1, .int _ _⟩
  · cases h
def ints (l : List Value) : Bool := l.all fun | .int _ _ => true | _ => false
theorem ints_eq : ∀ {l l' : List Value}, ints l = true → LsR β l l' → l' = l := by
  intro l
  induction l with
  | nil => intro l' _ h; exact List.eq_nil_of_length_eq_zero (by have := h.1; simp at this; omega)
  | cons v r ih =>
    intro l' hi h
    cases l' with
    | nil => have := h.1; simp at this
    | cons v' r' =>
      simp only [ints, List.all_cons, Bool.and_eq_true] at hi
      have hv : VR β v v' := h.2 0 v v' rfl rfl
      have hr : LsR β r r' := ⟨by have := h.1; simpa using this, fun j x x' a b => h.2 (j + 1) x x' (by simpa using a) (by simpa using b)⟩
      rw [ih hi.2 hr]
      cases hv <;> simp at hi <;> rfl

/-! ### where the cells of a slice, or the bytes of a text, come from -/
def srcE (H : Heap) (s : Nat) (x : Value) : Option (Nat × List Value) :=
  match x with
  | .slice none 0 _ => some (0, [])
  | .slice (some _) 0 _ => some (0, [])
  | .slice (some ⟨l, o, none⟩) m k =>
    match H[l]? with
    | some (some (.cells c _ _)) =>
      if k / 2 = s ∧ o + m * s ≤ c.size ∧ ((c.toList.drop o).take (m * s)).all (·.oneCell') = true then some (m, (c.toList.drop o).take (m * s)) else none
    | _ => none
  | .string b => if s = 1 then some (b.size, b.data.toList.map fun y => .int .u8 y.toNat) else none
  | _ => none

theorem range_cells {w : World} {p : Spot} {c' : Array Value} {t : TypeId} {fz : Nat × Nat} (hb : w.heap[p.b]? = some (.cells c' t fz)) (o n : Nat) (hn : p.s + o + n ≤ c'.size) :
    (loadCells ⟨p.b, p.s + o, none⟩ n).run P w = .ok ((c'.toList.drop (p.s + o)).take n).toArray w := by
  have hl : ((c'.toList.drop (p.s + o)).take n).length = n := by simp; omega
  have := run_loadCells_list (P := P) w ⟨p.b, p.s + o, none⟩ ((c'.toList.drop (p.s + o)).take n) (fun j u hj => by
    have hj2 : j < n := by have := (List.getElem?_eq_some_iff.1 hj).1; omega
    rw [Addr.add_mid, cell_of_row w p.b _ c' t fz hb]
    rw [List.getElem?_take_of_lt hj2, List.getElem?_drop] at hj
    simpa using hj)
  rwa [hl] at this
theorem CR.range {p : Spot} {c c' : Array Value} {fz : Nat × Nat} (h : CR β p c c' fz) (o n : Nat) (hn : o + n ≤ c.size) :
    LsR β ((c.toList.drop o).take n) ((c'.toList.drop (p.s + o)).take n) := by
  have hle := h.le
  have hsz := h.size
  refine ⟨by simp; omega, fun j u u' hj hj' => ?_⟩
  have hj2 : j < n := by have := (List.getElem?_eq_some_iff.1 hj).1; simp at this; omega
  rw [List.getElem?_take_of_lt hj2, List.getElem?_drop] at hj hj'
  simp only [Array.getElem?_toList] at hj hj'
  obtain ⟨u2, e1, e2⟩ := h.at_ _ _ hj
  rw [Nat.add_assoc, e1] at hj'
  cases hj'
  exact e2
theorem refl_ints (l : List UInt8) : LsR β (l.map fun y => Value.int .u8 y.toNat) (l.map fun y => Value.int .u8 y.toNat) :=
  ⟨rfl, fun i x x' a b => by
    rw [a] at b; cases b
    rw [List.getElem?_map] at a
    cases h : l[i]? with
    | none => rw [h] at a; cases a
    | some y => rw [h] at a; cases a; exact .int _ _⟩

theorem srcE_run (h : M w0 K ro β H w) {s m : Nat} {x x' : Value} {cs : List Value} (hx : VR β x x') (he : srcE H s x = some (m, cs)) :
    ∃ cs', (Builtin.lenOf x').run P w = .ok m w ∧ (Builtin.firstCells s m x').run P w = .ok cs'.toArray w ∧ LsR β cs cs' ∧ cs.length = m * s ∧ (∀ v ∈ cs', v.oneCell' = true) := by
  unfold srcE at he
  split at he
  · cases he; cases hx; exact ⟨[], by simp [Builtin.lenOf], by simp [Builtin.firstCells], LsR.nil β, by simp, by simp⟩
  · cases he
    cases hx
    exact ⟨[], by simp [Builtin.lenOf], by simp [Builtin.firstCells, loadCells, loadCellsFrom], LsR.nil β, by simp, by simp⟩
  · rename_i l o m2 k hnz
    split at he
    · rename_i c t z hl
      split at he
      · rename_i hc
        obtain ⟨c1, c2, c3⟩ := hc
        cases he
        obtain ⟨p, c', t', fz, d1, d2, d3, d4⟩ := h.cells (o := o) hl
        cases hx with
        | sl g =>
          rename_i a' cap
          have hm : 0 < m := Nat.pos_of_ne_zero hnz
          obtain ⟨_, rfl⟩ := (g.ar hm).live d1
          have hle := d3.le
          have hsz := d3.size
          have hr := d3.range o (m * s) c2
          refine ⟨_, by simp [Builtin.lenOf], range_cells (P := P) d2 o (m * s) (by omega), hr, by simp; omega, fun v hv => ?_⟩
          obtain ⟨j, hj⟩ := List.getElem?_of_mem hv
          have hj2 : j < ((c.toList.drop o).take (m * s)).length := by have := (List.getElem?_eq_some_iff.1 hj).1; rw [hr.1]; exact this
          rw [← one_vr (hr.2 j _ v (List.getElem?_eq_getElem hj2) hj)]
          exact List.all_eq_true.1 c3 _ (List.getElem_mem hj2)
      · cases he
    · cases he
  · rename_i b
    split at he
    · rename_i hs
      subst hs
      cases he
      cases hx
      refine ⟨b.data.toList.map fun y => .int .u8 y.toNat, by simp [Builtin.lenOf], ?_, refl_ints _, by rw [List.length_map, Nat.mul_one]; rfl, fun v hv => ?_⟩
      · have e : b.extract 0 b.size = b := by
          apply ByteArray.ext
          rw [ByteArray.data_extract]
          exact Array.extract_size
        have e2 : (b.data.toList.map fun y => Value.int .u8 y.toNat).toArray = b.data.map fun y => Value.int .u8 y.toNat := Array.ext' (by simp)
        simp only [Builtin.firstCells, e, e2]; rfl
      · obtain ⟨y, _, rfl⟩ := List.mem_map.1 hv; rfl
    · cases he
  · cases he
end
end Go.Proofs.YtjldcblklbikaaaZev
