/- Several texts in one: Zev7, Zev8, Zev9, Zev10, Zev11, Zev12, ZevM. No condition beyond those that each part names. -/
import Derived.Test.YthbkjhacnnoolaaDoorZevX1
/- Slices and maps that are made, lists that grow, copies, conversions, in a small world of labels. No condition. -/
section
namespace Go.Proofs.YthbkjhacnnoolaaDoorZev
open Go.RowKit
set_option linter.unusedVariables false
set_option linter.unusedSectionVars false
variable [Sym] [Kin] [Glob]

section
variable {P : Program} {w0 w w1 : World} {K : Nat → Prop} {ro : Nat → Bool} {β : Env} {H : Heap}

theorem capE_run {t ty : TypeId} {ts : Array TypeId} {x x' v : Value} (ht : ts[0]? = some t) (hx : VR β x x') (he : capE P t x = some v) (w : World) :
    (Builtin.cap_ ts ty #[x']).run P w = .ok v w ∧ VR β v v := by
  unfold capE at he
  split at he
  · rename_i hu; cases he; cases hx; exact ⟨by simp [Builtin.cap_, ht, run_underlying hu], .int _ _⟩
  · rename_i hu
    split at he
    · rename_i hk
      cases he
      cases hx with
      | sl g => exact ⟨by simp [Builtin.cap_, ht, run_underlying hu, g.2.2.1 hk], .int _ _⟩
    · cases he
  · cases he

def makeMapE (P : Program) (H : Heap) (t : TypeId) (r : Option Value) : Option (Value × Heap) :=
  match r, P.underlying t with
  | none, _ => some (.map (some H.length), H ++ [some (.map #[] 0)])
  | some (.int _ _), some (.map _ _) => some (.map (some H.length), H ++ [some (.map #[] 0)])
  | _, _ => none
theorem makeMapE_run (h : M w0 K ro β H w) {t : TypeId} {r r' : Option Value} {v : Value} {H' : Heap} (hr : OptR β r r') (he : makeMapE P H t r = some (v, H')) :
    ∃ v' w1 β', (Instr.makeMap t r').run P w = .ok v' w1 ∧ Ext β β' ∧ M w0 K ro β' H' w1 ∧ VR β' v v' := by
  have fin : (.map (some H.length), H ++ [some (.map #[] 0)]) = (v, H') → (Instr.makeMap t r').run P w = .ok (.map (some w.heap.size)) (w.alloc (.map #[] 0)) →
      ∃ v' w1 β', (Instr.makeMap t r').run P w = .ok v' w1 ∧ Ext β β' ∧ M w0 K ro β' H' w1 ∧ VR β' v v' := by
    intro e hrun
    cases e
    refine ⟨_, _, β ++ [some ⟨w.heap.size, 0, 0⟩], hrun, Ext.push _ _, h.alloc 0 _ _ (.map rfl fun i e e' a _ => by simp at a), .map (.inl ⟨⟨w.heap.size, 0, 0⟩, by rw [← h.len]; simp, rfl⟩)⟩
  unfold makeMapE at he
  split at he
  · cases hr
    exact fin (by simpa using he) (by simp [Instr.makeMap])
  · rename_i hu
    cases hr with
    | some k => cases k; exact fin (by simpa using he) (by simp [Instr.makeMap, run_underlying hu, asInt, asIntOf])
  · cases he

def makeSliceE (P : Program) (H : Heap) (t : TypeId) (l c : Value) : Option (Value × Heap) :=
  match P.underlying t, l, c with
  | some (.slice e), .int _ l, .int _ c => match P.info? e, zeroE P e with
    | some i, some z =>
      if 0 ≤ l ∧ l ≤ c ∧ c ≤ 16777216 ∧ (i.bytes : Int) * c ≤ 281474976710656 ∧ (madeCells z (c.toNat * i.size)).all bare = true then
        some (.slice (some ⟨H.length, 0, none⟩) l.toNat (2 * i.size + if l = c then 1 else 0), H ++ [some (.cells (madeCells z (c.toNat * i.size)) e)])
      else none
    | _, _ => none
  | _, _, _ => none
theorem makeSliceE_run (h : M w0 K ro β H w) {t : TypeId} {l c l' c' v : Value} {H' : Heap} (hl : VR β l l') (hc : VR β c c') (he : makeSliceE P H t l c = some (v, H')) :
    ∃ v' w1 β', (Instr.makeSlice t l' c').run P w = .ok v' w1 ∧ Ext β β' ∧ M w0 K ro β' H' w1 ∧ VR β' v v' := by
  unfold makeSliceE at he
  split at he
  · rename_i e kl l kc c hu
    split at he
    · rename_i i z hi hz
      split at he
      · rename_i hh
        obtain ⟨h1, h2, h3, h4, h5⟩ := hh
        cases he
        cases hl; cases hc
        obtain ⟨zv, rfl, hr, hb⟩ := zeroE_run hz
        have hiz : i.zero = some zv := by
          have := hr default
          simp only [zeroValue, typeInfo, Sem.run_bind, run_program, Result.andThen_ok, hi, Sem.run_pure] at this
          cases hq : i.zero with
          | none => rw [hq] at this; simp at this
          | some q => rw [hq] at this; simp at this; rw [this]
        refine ⟨_, _, _, run_make w t e i zv hu hi hiz kl kc l c h1 h2 h4 (by omega), Ext.push _ _, new_cells h (all_bare_asr h5) e, .sl ⟨rfl, by omega, fun hk => by
          split at hk
          · rename_i q; rw [q]
          · omega, .inl ⟨⟨w.heap.size, 0, (madeCells zv.cells (c.toNat * i.size)).size⟩, by rw [← h.len]; simp, rfl, rfl, .inl rfl, ?_⟩⟩⟩
        rw [show (2 * i.size + if l = c then 1 else 0) / 2 = i.size from by split <;> omega, size_madeCells]
        simp
      · cases he
    · cases he
  · cases he

/-! ### the least and the greatest -/
def minG (mx : Bool) (k : IntKind) (n : Int) : List Value → Option Value
  | [] => some (.int k n)
  | .int _ m :: r => minG mx k (if mx then (if m > n then m else n) else (if m < n then m else n)) r
  | _ => none
def minL (mx : Bool) : List Value → Option Value
  | .int k n :: r => minG mx k n r
  | _ => none
theorem minG_run (w : World) : ∀ (r : List Value) (k : IntKind) (n : Int) (v : Value), minG false k n r = some v → (r.foldlM Builtin.min2 (.int k n)).run P w = .ok v w ∧ ∃ j i, v = .int j i := by
  intro r
  induction r with
  | nil => intro k n v h; cases h; exact ⟨rfl, _, _, rfl⟩
  | cons x r ih =>
    intro k n v h
    unfold minG at h
    split at h
    · rename_i e; cases e
    · rename_i e; cases e
      simp only [List.foldlM_cons, Builtin.min2, pure_bind]
      exact ih _ _ _ h
    · cases h
theorem maxG_run (w : World) : ∀ (r : List Value) (k : IntKind) (n : Int) (v : Value), minG true k n r = some v → (r.foldlM Builtin.max2 (.int k n)).run P w = .ok v w ∧ ∃ j i, v = .int j i := by
  intro r
  induction r with
  | nil => intro k n v h; cases h; exact ⟨rfl, _, _, rfl⟩
  | cons x r ih =>
    intro k n v h
    unfold minG at h
    split at h
    · rename_i e; cases e
    · rename_i e; cases e
      simp only [List.foldlM_cons, Builtin.max2, pure_bind]
      exact ih _ _ _ h
    · cases h
theorem minL_run {l : List Value} {v : Value} (h : minL false l = some v) (w : World) (ts : Array TypeId) (ty : TypeId) (a : Array Value) (ha : a.toList = l) : (Builtin.min_ ts ty a).run P w = .ok v w ∧ VR β v v := by
  unfold minL at h
  split at h
  · obtain ⟨h1, j, i, rfl⟩ := minG_run (P := P) w _ _ _ _ h
    exact ⟨by simp only [Builtin.min_, ha]; exact h1, .int _ _⟩
  · cases h
theorem maxL_run {l : List Value} {v : Value} (h : minL true l = some v) (w : World) (ts : Array TypeId) (ty : TypeId) (a : Array Value) (ha : a.toList = l) : (Builtin.max_ ts ty a).run P w = .ok v w ∧ VR β v v := by
  unfold minL at h
  split at h
  · obtain ⟨h1, j, i, rfl⟩ := maxG_run (P := P) w _ _ _ _ h
    exact ⟨by simp only [Builtin.max_, ha]; exact h1, .int _ _⟩
  · cases h
def ints (l : List Value) : Bool := l.all fun | .int _ _ => true | _ => false
theorem ints_eq : ∀ {l l' : List Value}, ints l = true → LsR β l l' → l' = l := by
  intro l
  induction l with
  | nil => intro l' _ h; exact List.eq_nil_of_length_eq_zero (by have := h.1; simp at this; omega)
  | cons v r ih =>
    intro l' hi h
    cases l' with
    | nil => have := h.1; simp at this
    | cons v' r' =>
      simp only [ints, List.all_cons, Bool.and_eq_true] at hi
      have hv : VR β v v' := h.2 0 v v' rfl rfl
      have hr : LsR β r r' := ⟨by have := h.1; simpa using this, fun j x x' a b => h.2 (j + 1) x x' (by simpa using a) (by simpa using b)⟩
      rw [ih hi.2 hr]
      cases hv <;> simp at hi <;> rfl

/-! ### where the cells of a slice, or the bytes of a text, come from -/
def srcE (H : Heap) (s : Nat) (x : Value) : Option (Nat × List Value) :=
  match x with
  | .slice none 0 _ => some (0, [])
  | .slice (some _) 0 _ => some (0, [])
  | .slice (some ⟨l, o, none⟩) m k =>
    match H[l]? with
    | some (some (.cells c _ _)) =>
      if k / 2 = s ∧ o + m * s ≤ c.size ∧ ((c.toList.drop o).take (m * s)).all (·.oneCell') = true then some (m, (c.toList.drop o).take (m * s)) else none
    | _ => none
  | .string b => if s = 1 then some (b.size, b.data.toList.map fun y => .int .u8 y.toNat) else none
  | _ => none

theorem range_cells {w : World} {p : Spot} {c' : Array Value} {t : TypeId} {fz : Nat × Nat} (hb : w.heap[p.b]? = some (.cells c' t fz)) (o n : Nat) (hn : p.s + o + n ≤ c'.size) :
    (loadCells ⟨p.b, p.s + o, none⟩ n).run P w = .ok ((c'.toList.drop (p.s + o)).take n).toArray w := by
  have hl : ((c'.toList.drop (p.s + o)).take n).length = n := by simp; omega
  have := run_loadCells_list (P := P) w ⟨p.b, p.s + o, none⟩ ((c'.toList.drop (p.s + o)).take n) (fun j u hj => by
    have hj2 : j < n := by have := (List.getElem?_eq_some_iff.1 hj).1; omega
    rw [Addr.add_mid, cell_of_row w p.b _ c' t fz hb]
    rw [List.getElem?_take_of_lt hj2, List.getElem?_drop] at hj
    simpa using hj)
  rwa [hl] at this
theorem CR.range {p : Spot} {c c' : Array Value} {fz : Nat × Nat} (h : CR β p c c' fz) (o n : Nat) (hn : o + n ≤ c.size) :
    LsR β ((c.toList.drop o).take n) ((c'.toList.drop (p.s + o)).take n) := by
  have hle := h.le
  have hsz := h.size
  refine ⟨by simp; omega, fun j u u' hj hj' => ?_⟩
  have hj2 : j < n := by have := (List.getElem?_eq_some_iff.1 hj).1; simp at this; omega
  rw [List.getElem?_take_of_lt hj2, List.getElem?_drop] at hj hj'
  simp only [Array.getElem?_toList] at hj hj'
  obtain ⟨u2, e1, e2⟩ := h.at_ _ _ hj
  rw [Nat.add_assoc, e1] at hj'
  cases hj'
  exact e2
theorem refl_ints (l : List UInt8) : LsR β (l.map fun y => Value.int .u8 y.toNat) (l.map fun y => Value.int .u8 y.toNat) :=
  ⟨rfl, fun i x x' a b => by
    rw [a] at b; cases b
    rw [List.getElem?_map] at a
    cases h : l[i]? with
    | none => rw [h] at a; cases a
    | some y => rw [h] at a; cases a; exact .int _ _⟩

theorem srcE_run (h : M w0 K ro β H w) {s m : Nat} {x x' : Value} {cs : List Value} (hx : VR β x x') (he : srcE H s x = some (m, cs)) :
    ∃ cs', (Builtin.lenOf x').run P w = .ok m w ∧ (Builtin.firstCells s m x').run P w = .ok cs'.toArray w ∧ LsR β cs cs' ∧ cs.length = m * s ∧ (∀ v ∈ cs', v.oneCell' = true) := by
  unfold srcE at he
  split at he
  · cases he; cases hx; exact ⟨[], by simp [Builtin.lenOf], by simp [Builtin.firstCells], LsR.nil β, by simp, by simp⟩
  · cases he
    cases hx
    exact ⟨[], by simp [Builtin.lenOf], by simp [Builtin.firstCells, loadCells, loadCellsFrom], LsR.nil β, by simp, by simp⟩
  · rename_i l o m2 k hnz
    split at he
    · rename_i c t z hl
      split at he
      · rename_i hc
        obtain ⟨c1, c2, c3⟩ := hc
        cases he
        obtain ⟨p, c', t', fz, d1, d2, d3, d4⟩ := h.cells (o := o) hl
        cases hx with
        | sl g =>
          rename_i a' cap
          have hm : 0 < m := Nat.pos_of_ne_zero hnz
          obtain ⟨_, rfl⟩ := (g.ar hm).live d1
          have hle := d3.le
          have hsz := d3.size
          have hr := d3.range o (m * s) c2
          refine ⟨_, by simp [Builtin.lenOf], range_cells (P := P) d2 o (m * s) (by omega), hr, by simp; omega, fun v hv => ?_⟩
          obtain ⟨j, hj⟩ := List.getElem?_of_mem hv
          have hj2 : j < ((c.toList.drop o).take (m * s)).length := by have := (List.getElem?_eq_some_iff.1 hj).1; rw [hr.1]; exact this
          rw [← one_vr (hr.2 j _ v (List.getElem?_eq_getElem hj2) hj)]
          exact List.all_eq_true.1 c3 _ (List.getElem_mem hj2)
      · cases he
    · cases he
  · rename_i b
    split at he
    · rename_i hs
      subst hs
      cases he
      cases hx
      refine ⟨b.data.toList.map fun y => .int .u8 y.toNat, by simp [Builtin.lenOf], ?_, refl_ints _, by rw [List.length_map, Nat.mul_one]; rfl, fun v hv => ?_⟩
      · have e : b.extract 0 b.size = b := by
          apply ByteArray.ext
          rw [ByteArray.data_extract]
          exact Array.extract_size
        have e2 : (b.data.toList.map fun y => Value.int .u8 y.toNat).toArray = b.data.map fun y => Value.int .u8 y.toNat := Array.ext' (by simp)
        simp only [Builtin.firstCells, e, e2]; rfl
      · obtain ⟨y, _, rfl⟩ := List.mem_map.1 hv; rfl
    · cases he
  · cases he
end
end Go.Proofs.YthbkjhacnnoolaaDoorZev
end

/- Lists that grow, copies, conversions, in a small world of labels. No condition. -/
section
namespace Go.Proofs.YthbkjhacnnoolaaDoorZev
open Go.RowKit
set_option linter.unusedVariables false
set_option linter.unusedSectionVars false
variable [Sym] [Kin] [Glob]

section
variable {P : Program} {w0 w w1 : World} {K : Nat → Prop} {ro : Nat → Bool} {β : Env} {H : Heap}

theorem putAll_get : ∀ (vs : List Value) (c : Array Value) (i j : Nat), i + vs.length ≤ c.size →
    (putAll c i vs)[j]? = if i ≤ j ∧ j < i + vs.length then vs[j - i]? else c[j]? := by
  intro vs
  induction vs with
  | nil => intro c i j _; simp only [putAll, List.length_nil, Nat.add_zero]; rw [if_neg (by omega)]
  | cons v r ih =>
    intro c i j h
    simp only [List.length_cons] at h
    simp only [putAll]
    rw [ih _ _ _ (by simp; omega)]
    by_cases h1 : i + 1 ≤ j ∧ j < i + 1 + r.length
    · rw [if_pos h1, if_pos (by simp; omega)]
      rw [show j - i = (j - (i + 1)) + 1 from by omega, List.getElem?_cons_succ]
    · rw [if_neg h1]
      by_cases h2 : i = j
      · subst h2
        rw [Array.getElem?_setIfInBounds_self_of_lt (by omega), if_pos (by simp)]
        simp
      · rw [Array.getElem?_setIfInBounds_ne h2, if_neg (by simp; omega)]

/-- what may be appended: a list, or a text -/
def ListD (d : TypeDesc) : Prop := d = .string ∨ ∃ e, d = .slice e

theorem run_app_room {ts : Array TypeId} {t xt ty e : TypeId} {d : TypeDesc} {i : TypeInfo} (h0 : ts[0]? = some t) (h1 : ts[1]? = some xt) (hu : P.underlying t = some (.slice e)) (hux : P.underlying xt = some d)
    (hd : ListD d) (hi : P.info? e = some i) {base : Option Addr} {n cap m : Nat} {x : Value} {news : Array Value} {w w1 : World}
    (hl : (Builtin.lenOf x).run P w = .ok m w) (hf : (Builtin.firstCells i.size m x).run P w = .ok news w) (hc : n + m ≤ cap)
    (hs : ∀ a, base = some a → (storeCells (a.add (n * i.size)) news.toList).run P w = .ok () w1) (hb : base = none → w1 = w) :
    (Builtin.append_ ts ty #[.slice base n cap, x]).run P w = .ok (.slice base (n + m) cap) w1 := by
  have hsz : (Go.sizeOf e).run P w = .ok i.size w := by simp [Go.sizeOf, typeInfo, hi]
  rcases hd with rfl | ⟨e2, rfl⟩
  · cases base with
    | none =>
      have := hb rfl
      subst this
      simp [Builtin.append_, h0, h1, run_underlying hu, run_underlying hux, hsz, hl, hc, hf]
    | some a => simp [Builtin.append_, h0, h1, run_underlying hu, run_underlying hux, hsz, hl, hc, hf, hs a rfl]
  · cases base with
    | none =>
      have := hb rfl
      subst this
      simp [Builtin.append_, h0, h1, run_underlying hu, run_underlying hux, hsz, hl, hc, hf]
    | some a => simp [Builtin.append_, h0, h1, run_underlying hu, run_underlying hux, hsz, hl, hc, hf, hs a rfl]

theorem run_app_grow {ts : Array TypeId} {t xt ty e : TypeId} {d : TypeDesc} {i : TypeInfo} {z : Value} (h0 : ts[0]? = some t) (h1 : ts[1]? = some xt) (hu : P.underlying t = some (.slice e)) (hux : P.underlying xt = some d)
    (hd : ListD d) (hi : P.info? e = some i) {base : Option Addr} {n cap m : Nat} {x : Value} {olds news : Array Value} {w : World}
    (hz : ∀ w, (zeroValue e).run P w = .ok z w)
    (hl : (Builtin.lenOf x).run P w = .ok m w) (hf : (Builtin.firstCells i.size m x).run P w.drew = .ok news w.drew) (hfo : (Builtin.firstCells i.size n (.slice base n cap)).run P w.drew = .ok olds w.drew)
    (hc : cap < n + m) (hbig : (n + m) * i.bytes ≤ 140737488355328) (h63 : n + m ≤ 9223372036854775807) :
    (Builtin.append_ ts ty #[.slice base n cap, x]).run P w = .ok (.slice (some ⟨w.heap.size, 0, none⟩) (n + m) (grownCap w (n + m) cap e))
      (w.drew.alloc (.cells (olds ++ news ++ Builtin.zeroCells z.cells (grownCap w (n + m) cap e - (n + m))) e)) := by
  have hsz : (Go.sizeOf e).run P w = .ok i.size w := by simp [Go.sizeOf, typeInfo, hi]
  have hti : ∀ w, (typeInfo e).run P w = .ok i w := fun w => by simp [typeInfo, hi]
  have hfit := growslice_fits (old := cap) hc hbig
  have n1 : ¬ (n + m ≤ cap) := by omega
  have n2 : ¬ (9223372036854775807 < ((n : Int) + (m : Int))) := by omega
  have n3 : ¬ (281474976710656 < Builtin.nextslicecap (n + m) cap * i.bytes) := by omega
  rcases hd with rfl | ⟨e2, rfl⟩
  · simp [Builtin.append_, h0, h1, run_underlying hu, run_underlying hux, hsz, hl, n1, hti, n2, n3, Question.forced, hf, hfo, hz, newRow, grownCap]
  · simp [Builtin.append_, h0, h1, run_underlying hu, run_underlying hux, hsz, hl, n1, hti, n2, n3, Question.forced, hf, hfo, hz, newRow, grownCap]

theorem run_app_room_z {ts : Array TypeId} {t xt ty e : TypeId} {kd kx : IntKind} {i : TypeInfo} {z : Value} (h0 : ts[0]? = some t) (h1 : ts[1]? = some xt) (hu : P.underlying t = some (.slice e)) (hux : P.underlying xt = some (.int kd))
    (hi : P.info? e = some i) (hz : ∀ w, (zeroValue e).run P w = .ok z w) {base : Option Addr} {n cap m : Nat} {w w1 : World} (hs0 : i.size ≠ 0) (hm0 : 0 < m) (hm : (m : Int) * i.bytes ≤ 281474976710656) (h63 : m ≤ 9223372036854775807) (hc : n + m ≤ cap)
    (hs : ∀ a, base = some a → (storeCells (a.add (n * i.size)) (Builtin.zeroCells z.cells m).toList).run P w = .ok () w1) (hb : base = none → w1 = w) :
    (Builtin.append_ ts ty #[.slice base n cap, .int kx (m : Int)]).run P w = .ok (.slice base (n + m) cap) w1 := by
  have hsz : (Go.sizeOf e).run P w = .ok i.size w := by simp [Go.sizeOf, typeInfo, hi]
  have hti : ∀ w, (typeInfo e).run P w = .ok i w := fun w => by simp [typeInfo, hi]
  have wl : IntKind.i64.wrap (m : Int) = m := by rw [IntKind.wrap_i64]; omega
  have n1 : ¬ ((m : Int) < 0) := by omega
  have n2 : ¬ (281474976710656 < (m : Int) * i.bytes) := by omega
  have n3 : ¬ (m * i.size = 0) := Nat.mul_ne_zero (by omega) hs0
  cases base with
  | none =>
    have := hb rfl
    subst this
    simp [Builtin.append_, h0, h1, run_underlying hu, run_underlying hux, hsz, asInt, asIntOf, wl, n1, hti, n2, hz, hc]
  | some a => simp [Builtin.append_, h0, h1, run_underlying hu, run_underlying hux, hsz, asInt, asIntOf, wl, n1, hti, n2, n3, hz, hc, hs a rfl]

theorem run_app_grow_z {ts : Array TypeId} {t xt ty e : TypeId} {kd kx : IntKind} {i : TypeInfo} {z : Value} (h0 : ts[0]? = some t) (h1 : ts[1]? = some xt) (hu : P.underlying t = some (.slice e)) (hux : P.underlying xt = some (.int kd))
    (hi : P.info? e = some i) (hz : ∀ w, (zeroValue e).run P w = .ok z w) {base : Option Addr} {n cap m : Nat} {olds : Array Value} {w : World} (hs0 : i.size ≠ 0) (hm0 : 0 < m) (hm : (m : Int) * i.bytes ≤ 281474976710656)
    (hfo : (Builtin.firstCells i.size n (.slice base n cap)).run P w.drew = .ok olds w.drew)
    (hc : cap < n + m) (hbig : (n + m) * i.bytes ≤ 140737488355328) (h63 : n + m ≤ 9223372036854775807) :
    (Builtin.append_ ts ty #[.slice base n cap, .int kx (m : Int)]).run P w = .ok (.slice (some ⟨w.heap.size, 0, none⟩) (n + m) (grownCap w (n + m) cap e))
      (w.drew.alloc (.cells (olds ++ (Builtin.zeroCells z.cells m) ++ Builtin.zeroCells z.cells (grownCap w (n + m) cap e - (n + m))) e)) := by
  have hsz : (Go.sizeOf e).run P w = .ok i.size w := by simp [Go.sizeOf, typeInfo, hi]
  have hti : ∀ w, (typeInfo e).run P w = .ok i w := fun w => by simp [typeInfo, hi]
  have hfit := growslice_fits (old := cap) hc hbig
  have wl : IntKind.i64.wrap (m : Int) = m := by rw [IntKind.wrap_i64]; omega
  have n1 : ¬ (n + m ≤ cap) := by omega
  have n2 : ¬ (9223372036854775807 < ((n : Int) + (m : Int))) := by omega
  have n3 : ¬ (281474976710656 < Builtin.nextslicecap (n + m) cap * i.bytes) := by omega
  have n4 : ¬ (281474976710656 < (m : Int) * i.bytes) := by omega
  have n5 : ¬ (m * i.size = 0) := Nat.mul_ne_zero (by omega) hs0
  have n6 : ¬ ((m : Int) < 0) := by omega
  simp [Builtin.append_, h0, h1, run_underlying hu, run_underlying hux, hsz, asInt, asIntOf, wl, n1, n6, hti, n2, n3, n4, n5, Question.forced, hfo, hz, newRow, grownCap]

/-- what is appended, as a run has it: into room that is there, and into a new row -/
structure AppR (P : Program) (ts : Array TypeId) (ty e : TypeId) (i : TypeInfo) (z : Value) (x' : Value) (m : Nat) (w : World) (c0 c1 : List Value) : Prop where
  room : ∀ (base : Option Addr) (n cap : Nat) (w1 : World), n + m ≤ cap → (∀ a, base = some a → (storeCells (a.add (n * i.size)) c0).run P w = .ok () w1) → (base = none → w1 = w) →
    (Builtin.append_ ts ty #[.slice base n cap, x']).run P w = .ok (.slice base (n + m) cap) w1
  grow : ∀ (base : Option Addr) (n cap : Nat) (olds : Array Value), (Builtin.firstCells i.size n (.slice base n cap)).run P w.drew = .ok olds w.drew → cap < n + m → (n + m) * i.bytes ≤ 140737488355328 → n + m ≤ 9223372036854775807 →
    (Builtin.append_ ts ty #[.slice base n cap, x']).run P w = .ok (.slice (some ⟨w.heap.size, 0, none⟩) (n + m) (grownCap w (n + m) cap e))
      (w.drew.alloc (.cells (olds ++ c1.toArray ++ Builtin.zeroCells z.cells (grownCap w (n + m) cap e - (n + m))) e))

/-! ### a list that grows -/
def listB : TypeDesc → Bool
  | .string | .slice _ => true
  | _ => false
theorem listB_spec {d : TypeDesc} (h : listB d = true) : ListD d := by
  unfold listB at h
  split at h
  · exact .inl rfl
  · exact .inr ⟨_, rfl⟩
  · cases h

/-- the first cells of a list that grows -/
def oldsE (H : Heap) (sz l o n : Nat) : Option (List Value × (Nat × Nat)) :=
  match H[l]? with
  | some (some (.cells c _ z)) => if o + n * sz ≤ c.size then some ((c.toList.drop o).take (n * sz), z) else none
  | _ => none

def srcZ (H : Heap) (i : TypeInfo) (z : Array Value) (d : TypeDesc) (x : Value) : Option (Nat × List Value) :=
  match d with
  | .string => srcE H i.size x
  | .slice _ => srcE H i.size x
  | .int _ => match x with
    | .int _ m => if 0 < m ∧ m * i.bytes ≤ 281474976710656 ∧ m ≤ 9223372036854775807 ∧ z.size = i.size ∧ i.size ≠ 0 ∧ (Builtin.zeroCells z m.toNat).all bare = true then some (m.toNat, (Builtin.zeroCells z m.toNat).toList) else none
    | _ => none
  | _ => none

theorem bare_one {v : Value} (h : bare v = true) : v.oneCell' = true := by cases v <;> first | rfl | (simp [bare] at h)
theorem srcZ_run (h : M w0 K ro β H w) {ts : Array TypeId} {t xt ty e : TypeId} {d : TypeDesc} {i : TypeInfo} {z x x' : Value} (h0 : ts[0]? = some t) (h1 : ts[1]? = some xt) (hu : P.underlying t = some (.slice e)) (hux : P.underlying xt = some d)
    (hi : P.info? e = some i) (hz : ∀ w, (zeroValue e).run P w = .ok z w) {m : Nat} {cs : List Value} (hx : VR β x x') (he : srcZ H i z.cells d x = some (m, cs)) :
    ∃ c0 c1, AppR P ts ty e i z x' m w c0 c1 ∧ LsR β cs c0 ∧ LsR β cs c1 ∧ cs.length = m * i.size ∧ (∀ v ∈ c0, v.oneCell' = true) := by
  have lst : ListD d → srcE H i.size x = some (m, cs) → ∃ c0 c1, AppR P ts ty e i z x' m w c0 c1 ∧ LsR β cs c0 ∧ LsR β cs c1 ∧ cs.length = m * i.size ∧ (∀ v ∈ c0, v.oneCell' = true) := by
    intro hd he
    obtain ⟨c0, a1, a2, a3, a4, a5⟩ := srcE_run (P := P) h hx he
    obtain ⟨c1, _, b2, b3, _, _⟩ := srcE_run (P := P) h.drew hx he
    exact ⟨c0, c1, ⟨fun base n cap w1 hc hs hb => run_app_room (P := P) (ty := ty) h0 h1 hu hux hd hi a1 a2 hc (by simpa using hs) hb, fun base n cap olds ho hc hb h63 => run_app_grow (P := P) (ty := ty) h0 h1 hu hux hd hi hz a1 b2 ho hc hb h63⟩, a3, b3, a4, a5⟩
  unfold srcZ at he
  split at he
  · exact lst (.inl rfl) he
  · exact lst (.inr ⟨_, rfl⟩) he
  · split at he
    · rename_i kx m0
      split at he
      · rename_i hc
        obtain ⟨q1, q2, q3, q4, q5, q6⟩ := hc
        simp only [Option.some.injEq, Prod.mk.injEq] at he
        obtain ⟨rfl, rfl⟩ := he
        obtain ⟨k, rfl⟩ := Int.eq_ofNat_of_zero_le (show 0 ≤ m0 by omega)
        simp only [Int.toNat_natCast] at *
        cases hx
        have hr := AsR.toList (all_bare_asr (β := β) q6)
        refine ⟨_, _, ⟨fun base n cap w1 hc hs hb => run_app_room_z (P := P) (ty := ty) h0 h1 hu hux hi hz q5 (by omega) q2 (by omega) hc hs hb, fun base n cap olds ho hc hb h63 => ?_⟩, hr, hr, ?_, fun v hv => ?_⟩
        · have := run_app_grow_z (P := P) (ty := ty) (kx := kx) h0 h1 hu hux hi hz q5 (by omega) q2 ho hc hb h63
          simpa using this
        · rw [Array.length_toList, size_zeroCells, q4]
        · exact bare_one (Array.all_eq_true_iff_forall_mem.1 q6 v (by simpa using hv))
      · cases he
    · cases he
  · cases he

def appE (P : Program) (ro : Nat → Bool) (H : Heap) (ts : Array TypeId) (s x : Value) : Option (Value × Heap) :=
  match ts[0]?, ts[1]? with
  | some t, some xt =>
    match P.underlying t, P.underlying xt with
    | some (.slice e), some d =>
      match P.info? e, zeroE P e with
      | some i, some z =>
        if i.size ≠ 0 ∧ z.size = i.size then
          match srcZ H i z d x, s with
          | some (m, cs), .slice none n c =>
            if m = 0 then (if n ≤ c then some (s, H) else none)
            else if n = 0 ∧ c = 0 ∧ m * i.bytes ≤ 140737488355328 ∧ m ≤ 9223372036854775807 then some (.slice (some ⟨H.length, 0, none⟩) m (2 * i.size), H ++ [some (.cells cs.toArray e)])
            else none
          | some (m, cs), .slice (some ⟨l, o, none⟩) n k =>
            if m = 0 then some (s, H)
            else if k / 2 = i.size ∧ (n + m) * i.bytes ≤ 140737488355328 ∧ n + m ≤ 9223372036854775807 then
              if k % 2 = 1 then
                if n = 0 then some (.slice (some ⟨H.length, 0, none⟩) m (2 * i.size), H ++ [some (.cells cs.toArray e)])
                else match oldsE H i.size l o n with
                  | some (olds, _) => some (.slice (some ⟨H.length, 0, none⟩) (n + m) (2 * i.size), H ++ [some (.cells (olds ++ cs).toArray e)])
                  | none => none
              else match oldsE H i.size l o n, ro l with
                | some (olds, z), false => some (.slice (some ⟨H.length, 0, none⟩) (n + m) (2 * i.size), H.set l none ++ [some (.cells (olds ++ cs).toArray e z)])
                | _, _ => none
            else none
          | _, _ => none
        else none
      | _, _ => none
    | _, _ => none
  | _, _ => none

theorem grown_lies (h : M w0 K ro β H w) {n m cap sz : Nat} {e : TypeId} {z : Array Value} {olds olds' cs cs' : List Value} (hz : z.size = sz) (h1 : LsR β olds olds') (h2 : LsR β cs cs')
    (l1 : olds.length = n * sz) (l2 : cs.length = m * sz) (hn : n + m ≤ cap) (zz : Nat × Nat) :
    ∃ β', Ext β β' ∧ M w0 K ro β' (H ++ [some (.cells (olds ++ cs).toArray e zz)]) (w.drew.alloc (.cells (olds'.toArray ++ cs'.toArray ++ Builtin.zeroCells z (cap - (n + m))) e)) ∧
      VR β' (.slice (some ⟨H.length, 0, none⟩) (n + m) (2 * sz)) (.slice (some ⟨w.heap.size, 0, none⟩) (n + m) cap) := by
  have hlen : (olds'.toArray ++ cs'.toArray ++ Builtin.zeroCells z (cap - (n + m))).size = cap * sz := by
    simp only [Array.size_append, List.size_toArray, size_zeroCells, hz, ← h1.1, ← h2.1, l1, l2]
    rw [Nat.sub_mul, ← Nat.add_mul]
    have := Nat.mul_le_mul_right sz hn
    omega
  have hle := Nat.mul_le_mul_right sz hn
  rw [Nat.add_mul] at hle
  have ha := h1.append h2
  refine ⟨β ++ [some ⟨w.heap.size, 0, cap * sz⟩], Ext.push _ _, h.drew.alloc (cap * sz) _ _ (.cells ⟨by rw [hlen]; simp, by simp [l1, l2]; exact hle, fun i x hx => ?_, fun i _ => by simp⟩ (fun _ => rfl)),
    .sl ⟨rfl, hn, fun hk => by omega, .inl ⟨⟨w.heap.size, 0, cap * sz⟩, by rw [← h.len]; simp, rfl, rfl, .inl rfl, by rw [show 2 * sz / 2 = sz from by omega]; simp⟩⟩⟩
  rw [List.getElem?_toArray] at hx
  obtain ⟨x', e1, e2⟩ := ha.at hx
  refine ⟨x', ?_, e2.mono (Ext.push _ _)⟩
  have hi := (List.getElem?_eq_some_iff.1 e1).1
  rw [Nat.zero_add, Array.getElem?_append_left (by simp only [Array.size_append, List.size_toArray]; simpa using hi)]
  rw [← e1]
  simp

theorem room_lies (h : M w0 K ro β H w) {l o n m k cap sz : Nat} {e t t' : TypeId} {z fz : Nat × Nat} {c c' : Array Value} {a' : Addr} {cs cs' : List Value} {p : Spot} (g : SR β ⟨l, o, none⟩ a' n k cap) (hk : k / 2 = sz)
    (hl : H[l]? = some (some (.cells c t z))) (hro : ro l = false) (hp : β[l]? = some (some p)) (hb : w.heap[p.b]? = some (.cells c' t' fz)) (hc : CR β p c c' fz) (hfz : z = (0, 0) → fz = (0, 0))
    (h2 : LsR β cs cs') (l2 : cs.length = m * sz) (hoc : o + n * sz ≤ c.size) (hn : n + m ≤ cap) (hm : 0 < m) (h1 : ∀ v ∈ cs', v.oneCell' = true) :
    ∃ β' w1, Ext β β' ∧ (storeCells (a'.add (n * sz)) cs').run P w = .ok () w1 ∧ M w0 K ro β' (H.set l none ++ [some (.cells ((c.toList.drop o).take (n * sz) ++ cs).toArray e z)]) w1 ∧
      VR β' (.slice (some ⟨H.length, 0, none⟩) (n + m) (2 * sz)) (.slice (some a') (n + m) cap) := by
  obtain ⟨g1, g2, g3, ⟨q, g4, g5, g6, g7, g8⟩ | g4⟩ := g
  · rw [hp] at g4; cases g4
    rw [hk] at g8
    have hle := Nat.mul_le_mul_right sz hn
    rw [Nat.add_mul] at hle
    have hsz := hc.size
    have hcle := hc.le
    have ea : a' = ⟨p.b, p.s + o, none⟩ := by
      cases a'
      simp only at g5 g6 g7
      rcases g7 with g7 | g7
      · rw [g5, g6, g7]
      · omega
    subst ea
    obtain ⟨w1, e1, e2, e3⟩ := run_storeCells_blk P (s := p.s + o + n * sz) cs' 0 c' w hb (by rw [← h2.1, l2]; simp only [Nat.add_zero]; simp only at g8; omega) h1
      (fun j hj => by
        have := hc.fz (o + n * sz + j) (by rw [← h2.1, l2] at hj; simp only at g8; omega)
        rwa [show p.s + o + n * sz + 0 + j = p.s + (o + n * sz + j) from by omega])
    have hx := h.kill l
    have hl' : l < β.length := (List.getElem?_eq_some_iff.1 hp).1
    refine ⟨β.set l none ++ [some ⟨p.b, p.s + o, p.n - o⟩], w1, (Ext.kill β l).trans (Ext.push _ _), by rw [Addr.add_mid]; exact e1, ?_, ?_⟩
    · refine hx.put ⟨p.b, p.s + o, p.n - o⟩ _ _ e2 e3 (fun l' p' hl2 => ?_) ((h.own l p hp).resolve_left (by rw [hro]; simp)) (.cells ⟨?_, ?_, fun i x hi => ?_, fun i hi => ?_⟩ hfz)
      · by_cases e : l = l'
        · subst e; rw [List.getElem?_set_self hl'] at hl2; cases hl2
        · rw [List.getElem?_set_ne e] at hl2
          exact fun eb => e (h.inj _ _ _ _ hp hl2 eb.symm)
      · rw [size_putAll]; simp only; simp only at g8; omega
      · simp only [List.size_toArray, List.length_append, List.length_take, List.length_drop, Array.length_toList, l2]; simp only at g8; omega
      · rw [List.getElem?_toArray] at hi
        simp only
        rw [putAll_get _ _ _ _ (by rw [← h2.1, l2]; simp only at g8; omega)]
        have hol : ((c.toList.drop o).take (n * sz)).length = n * sz := by simp; omega
        rcases Nat.lt_or_ge i (n * sz) with hlt | hge
        · rw [List.getElem?_append_left (by rw [hol]; exact hlt), List.getElem?_take_of_lt hlt, List.getElem?_drop, Array.getElem?_toList] at hi
          obtain ⟨x', f1, f2⟩ := hc.at_ _ _ hi
          refine ⟨x', ?_, f2.mono ((Ext.kill β l).trans (Ext.push _ _))⟩
          rw [if_neg (by omega)]
          rw [← f1]; congr 1; omega
        · rw [List.getElem?_append_right (by rw [hol]; exact hge), hol] at hi
          obtain ⟨x', f1, f2⟩ := h2.at hi
          have hi2 := (List.getElem?_eq_some_iff.1 f1).1
          refine ⟨x', ?_, f2.mono ((Ext.kill β l).trans (Ext.push _ _))⟩
          rw [if_pos (by omega), ← f1]; congr 1; omega
      · have := hc.fz (o + i) (by simp only at hi; omega)
        rwa [← Nat.add_assoc] at this
    · refine .sl ⟨rfl, hn, fun hk => by omega, .inl ⟨⟨p.b, p.s + o, p.n - o⟩, ?_, rfl, rfl, .inl rfl, ?_⟩⟩
      · rw [List.getElem?_append_right (by simp [h.len])]; simp [h.len]
      · rw [show 2 * sz / 2 = sz from by omega]; simp only at g8 ⊢; omega
  · rw [hp] at g4; cases g4

theorem appE_run (h : M w0 K ro β H w) {ts : Array TypeId} {ty : TypeId} {s s' x x' v : Value} {H' : Heap} (hs : VR β s s') (hx : VR β x x') (he : appE P ro H ts s x = some (v, H')) :
    ∃ v' w1 β', (Builtin.append_ ts ty #[s', x']).run P w = .ok v' w1 ∧ Ext β β' ∧ M w0 K ro β' H' w1 ∧ VR β' v v' := by
  unfold appE at he
  split at he
  case h_2 => cases he
  rename_i t xt h0 h1
  split at he
  case h_2 => cases he
  rename_i e d hu hux
  split at he
  case h_2 => cases he
  rename_i i z hi hz
  split at he
  case isFalse => cases he
  rename_i hc
  obtain ⟨c2, c3⟩ := hc
  obtain ⟨zv, rfl, hzr, hzb⟩ := zeroE_run hz
  have nop : ∀ {cs : List Value} {base : Option Addr} {n cap : Nat}, srcZ H i zv.cells d x = some (0, cs) → (Builtin.append_ ts ty #[.slice base n cap, x']).run P w = .ok (.slice base n cap) w ∨ cap < n := by
    intro cs base n cap hsrc
    obtain ⟨d0, d1, hA, a3, _, a4, a5⟩ := srcZ_run (P := P) (ty := ty) h h0 h1 hu hux hi hzr hx hsrc
    have e : d0 = [] := List.eq_nil_of_length_eq_zero (by rw [← a3.1, a4]; simp)
    subst e
    rcases Nat.lt_or_ge cap n with hlt | hge
    · exact .inr hlt
    · exact .inl (by simpa using hA.room base n cap w (by simpa using hge) (fun a _ => rfl) (fun _ => rfl))
  split at he
  · rename_i m cs n c hsrc
    split at he
    · rename_i hm
      subst hm
      split at he
      · cases he
        cases hs
        refine ⟨_, w, β, ?_, Ext.refl β, h, .nils _ _⟩
        rcases nop (base := none) (n := n) (cap := c) hsrc with r | r
        · exact r
        · omega
      · cases he
    · rename_i hm
      split at he
      · rename_i hc
        obtain ⟨d1, d2, d3, d4⟩ := hc
        subst d1; subst d2
        cases he
        cases hs
        obtain ⟨c0, cs', hA, _, a3, a4, _⟩ := srcZ_run (P := P) (ty := ty) h h0 h1 hu hux hi hzr hx hsrc
        have hg := hA.grow none 0 0 #[] (by simp [Builtin.firstCells]) (by omega) (by simpa using d3) (by omega)
        obtain ⟨β', b1, b2, b3⟩ := grown_lies h (n := 0) (m := m) (cap := grownCap w (0 + m) 0 e) (sz := i.size) (e := e) (z := zv.cells) c3 (LsR.nil β) a3 (by simp) a4 (grownCap_ge _ _ _ _) (0, 0)
        refine ⟨_, _, β', hg, b1, ?_, ?_⟩
        · simpa using b2
        · simpa using b3
      · cases he
  · rename_i m cs l o n k hsrc
    cases hs with
    | sl g =>
    rename_i a' cap
    have g2 := g.2.1
    split at he
    · rename_i hm
      subst hm
      cases he
      refine ⟨_, w, β, ?_, Ext.refl β, h, .sl g⟩
      rcases nop (base := some a') (n := n) (cap := cap) hsrc with r | r
      · exact r
      · omega
    · rename_i hm
      split at he
      case isFalse => cases he
      rename_i hc
      obtain ⟨d1, d2, d3⟩ := hc
      obtain ⟨cs0, cs', hA, a3', a3, a4, a5'⟩ := srcZ_run (P := P) (ty := ty) h h0 h1 hu hux hi hzr hx hsrc
      split at he
      · rename_i hodd
        have hcap : n = cap := (g.2.2.1 hodd).symm
        subst hcap
        split at he
        · rename_i hn
          subst hn
          cases he
          have hg := hA.grow (some a') 0 0 #[] (by simp [Builtin.firstCells, loadCells, loadCellsFrom]) (by omega) d2 d3
          obtain ⟨β', b1, b2, b3⟩ := grown_lies h (n := 0) (m := m) (cap := grownCap w (0 + m) 0 e) (sz := i.size) (e := e) (z := zv.cells) c3 (LsR.nil β) a3 (by simp) a4 (grownCap_ge _ _ _ _) (0, 0)
          refine ⟨_, _, β', hg, b1, ?_, ?_⟩
          · simpa using b2
          · simpa using b3
        · rename_i hn
          split at he
          · rename_i olds zz ho
            cases he
            unfold oldsE at ho
            split at ho
            · rename_i c tt z2 hl
              split at ho
              · rename_i hoc
                cases ho
                obtain ⟨p, c', t', fz, q1, q2, q3, q4⟩ := h.cells (o := o) hl
                obtain ⟨_, rfl⟩ := (g.ar (by omega)).live q1
                have hr := q3.range o (n * i.size) hoc
                have hsz := q3.size
                have hcle := q3.le
                have hfo := range_cells (P := P) (w := w.drew) (p := p) q2 o (n * i.size) (by omega)
                have hg := hA.grow (some ⟨p.b, p.s + o, none⟩) n n _ (by simpa [Builtin.firstCells] using hfo) (by omega) d2 d3
                obtain ⟨β', b1, b2, b3⟩ := grown_lies h (n := n) (m := m) (cap := grownCap w (n + m) n e) (sz := i.size) (e := e) (z := zv.cells) c3 hr a3 (by simp; omega) a4 (grownCap_ge _ _ _ _) (0, 0)
                exact ⟨_, _, β', hg, b1, b2, b3⟩
              · cases ho
            · cases ho
          · cases he
      · rename_i heven
        split at he
        · rename_i olds zz ho hro
          cases he
          unfold oldsE at ho
          split at ho
          · rename_i c tt z2 hl
            split at ho
            · rename_i hoc
              cases ho
              obtain ⟨p, c', t', fz, q1, q2, q3, q4⟩ := h.cells (o := o) hl
              rcases Nat.lt_or_ge cap (n + m) with hlt | hge
              · have hr := q3.range o (n * i.size) hoc
                have hsz := q3.size
                have hcle := q3.le
                have hfo : (Builtin.firstCells i.size n (.slice (some a') n cap)).run P w.drew = .ok ((c'.toList.drop (p.s + o)).take (n * i.size)).toArray w.drew := by
                  rcases Nat.eq_zero_or_pos n with hn | hn
                  · subst hn; simp [Builtin.firstCells, loadCells, loadCellsFrom]
                  · obtain ⟨_, rfl⟩ := (g.ar hn).live q1
                    have hfo := range_cells (P := P) (w := w.drew) (p := p) q2 o (n * i.size) (by omega)
                    simpa [Builtin.firstCells] using hfo
                have hg := hA.grow (some a') n cap _ hfo hlt d2 d3
                have hE := Ext.kill β l
                obtain ⟨β', b1, b2, b3⟩ := grown_lies (h.kill l) (n := n) (m := m) (cap := grownCap w (n + m) cap e) (sz := i.size) (e := e) (z := zv.cells) c3 (hr.mono hE) (a3.mono hE) (by simp; omega) a4 (grownCap_ge _ _ _ _) zz
                refine ⟨_, _, β', hg, hE.trans b1, b2, ?_⟩
                simpa using b3
              · obtain ⟨β', w1, b1, b2, b3, b4⟩ := room_lies (P := P) h (e := e) g d1 hl hro q1 q2 q3 q4 a3' a4 hoc hge (by omega) a5'
                refine ⟨_, w1, β', hA.room _ _ _ _ hge (fun a ha => by cases ha; exact b2) (fun hb => by cases hb), b1, b3, b4⟩
            · cases ho
          · cases ho
        · cases he
  · cases he
end
end Go.Proofs.YthbkjhacnnoolaaDoorZev
end

/- Copies, conversions, maps, in a small world of labels. No condition. -/
section
namespace Go.Proofs.YthbkjhacnnoolaaDoorZev
open Go.RowKit
set_option linter.unusedVariables false
set_option linter.unusedSectionVars false
variable [Sym] [Kin] [Glob]

section
variable {P : Program} {w0 w w1 : World} {K : Nat → Prop} {ro : Nat → Bool} {β : Env} {H : Heap}

/-! ### copies -/
def cutN (x : Value) (n : Nat) : Option (Nat × Value) :=
  match x with
  | .slice none m c => if m = 0 then some (0, .slice none 0 c) else none
  | .slice (some a) m k => some (min m n, .slice (some a) (min m n) (2 * (k / 2)))
  | .string b => some (min b.size n, .string (b.extract 0 (min b.size n)))
  | _ => none
theorem SR.less {a a' : Addr} {n k c' m : Nat} (h : SR β a a' n k c') (hm : m ≤ n) : SR β a a' m (2 * (k / 2)) c' := by
  obtain ⟨h1, h2, h3, h4⟩ := h
  refine ⟨h1, by omega, fun hk => by omega, ?_⟩
  rw [show 2 * (k / 2) / 2 = k / 2 from by omega]; exact h4

def copyE (P : Program) (ro : Nat → Bool) (H : Heap) (ts : Array TypeId) (d x : Value) : Option (Value × Heap) :=
  match ts[0]? with
  | some t =>
    match P.underlying t with
    | some (.slice e) =>
      match P.info? e, d with
      | some i, .slice none n c =>
        match cutN x n with
        | some (m, _) => if m = 0 then some (goInt 0, H) else none
        | none => none
      | some i, .slice (some ⟨l, o, none⟩) n k =>
        match cutN x n with
        | some (m, y) =>
          match srcE H i.size y with
          | some (m2, cs) =>
            if m = 0 then (if m2 = 0 then some (goInt 0, H) else none)
            else match H[l]? with
              | some (some (.cells c ty z)) => if ro l = false ∧ m2 = m ∧ k / 2 = i.size ∧ o + m * i.size ≤ c.size then some (goInt m, H.set l (some (.cells (putAll c o cs) ty z))) else none
              | _ => none
          | none => none
        | none => none
      | _, _ => none
    | _ => none
  | none => none

theorem cutN_vr {x x' y : Value} {n m : Nat} (hx : VR β x x') (h : cutN x n = some (m, y)) :
    ∃ y' L, VR β y y' ∧ (∀ w, (Builtin.lenOf x').run P w = .ok L w) ∧ Nat.min L n = m ∧ (∀ s (w : World), (Builtin.firstCells s m x').run P w = (Builtin.firstCells s m y').run P w) := by
  unfold cutN at h
  split at h
  · split at h
    · rename_i hm; subst hm; cases h; cases hx; exact ⟨_, 0, .nils _ _, fun w => by simp [Builtin.lenOf], by simp, fun s w => rfl⟩
    · cases h
  · cases h
    cases hx with
    | sl g => exact ⟨_, _, .sl (g.less (Nat.min_le_left _ _)), fun w => by simp [Builtin.lenOf], rfl, fun s w => by simp [Builtin.firstCells]⟩
  · rename_i b
    cases h
    cases hx
    refine ⟨_, _, .string _, fun w => by simp [Builtin.lenOf], rfl, fun s w => ?_⟩
    have : (b.extract 0 (min b.size n)).extract 0 (min b.size n) = b.extract 0 (min b.size n) := by
      apply ByteArray.ext
      simp [ByteArray.data_extract, Array.extract_extract]
    simp [Builtin.firstCells, this]
  · cases h

theorem copyE_run (h : M w0 K ro β H w) {ts : Array TypeId} {ty : TypeId} {d d' x x' v : Value} {H' : Heap} (hd : VR β d d') (hx : VR β x x') (he : copyE P ro H ts d x = some (v, H')) :
    ∃ w1, (Builtin.copy_ ts ty #[d', x']).run P w = .ok v w1 ∧ M w0 K ro β H' w1 ∧ VR β v v := by
  unfold copyE at he
  split at he
  case h_2 => cases he
  rename_i t h0
  split at he
  case h_2 => cases he
  rename_i e hu
  have g0 : (#[d', x'] : Array Value)[0]? = some d' := rfl
  have g1 : (#[d', x'] : Array Value)[1]? = some x' := rfl
  split at he
  · rename_i i n c hi
    have hsz : (Go.sizeOf e).run P w = .ok i.size w := by simp [Go.sizeOf, typeInfo, hi]
    split at he
    · rename_i m y hcut
      split at he
      · rename_i hm
        subst hm
        cases he
        cases hd
        obtain ⟨y', L, c1, c2, c3, c4⟩ := cutN_vr (P := P) hx hcut
        have hf : ∃ news, (Builtin.firstCells i.size 0 x').run P w = .ok news w := by
          unfold cutN at hcut
          split at hcut
          · cases hx; exact ⟨#[], by simp [Builtin.firstCells]⟩
          · cases hx; exact ⟨#[], by simp [Builtin.firstCells, loadCells, loadCellsFrom]⟩
          · cases hx; exact ⟨_, by simp only [Builtin.firstCells]; rfl⟩
          · cases hcut
        obtain ⟨news, hf⟩ := hf
        refine ⟨w, ?_, h, .int _ _⟩
        have c3' : Nat.min L n = 0 := c3
        simp [Builtin.copy_, h0, run_underlying hu, c2, c3', hsz, hf, goInt]
      · cases he
    · cases he
  · rename_i i l o n k hi
    have hsz : (Go.sizeOf e).run P w = .ok i.size w := by simp [Go.sizeOf, typeInfo, hi]
    cases hd with
    | sl g =>
    rename_i a' cap
    split at he
    · rename_i m y hcut
      obtain ⟨y', L, c1, c2, c3, c4⟩ := cutN_vr (P := P) hx hcut
      have c3' : Nat.min L n = m := c3
      split at he
      · rename_i m2 cs hsrc
        obtain ⟨cs', a1, a2, a3, a4, a5⟩ := srcE_run (P := P) h c1 hsrc
        split at he
        · rename_i hm
          subst hm
          split at he
          · rename_i hm2
            subst hm2
            cases he
            have e : cs' = [] := List.eq_nil_of_length_eq_zero (by rw [← a3.1, a4]; simp)
            subst e
            refine ⟨w, ?_, h, .int _ _⟩
            have hf := (c4 i.size w).trans a2
            simp [Builtin.copy_, h0, run_underlying hu, c2, c3', hsz, hf, goInt, storeCells]
          · cases he
        · rename_i hm
          split at he
          · rename_i c tt z hl
            split at he
            · rename_i hc
              obtain ⟨hro, rfl, e2, e3⟩ := hc
              cases he
              obtain ⟨p, c', t', fz, q1, q2, q3, q4⟩ := h.cells (o := o) hl
              have hn : 0 < n := by have : Nat.min L n ≤ n := Nat.min_le_right _ _; omega
              obtain ⟨_, rfl⟩ := (g.ar hn).live q1
              have hs := q3.size
              have hle := q3.le
              have hlen : cs'.length = m2 * i.size := by rw [← a3.1, a4]
              obtain ⟨w1, b1, b2, b3⟩ := run_storeCells_blk P (s := p.s + o) cs' 0 c' w q2 (by rw [hlen]; omega) a5
                (fun j hj => by
                  have := q3.fz (o + j) (by rw [hlen] at hj; omega)
                  rwa [show p.s + o + 0 + j = p.s + (o + j) from by omega])
              refine ⟨w1, ?_, h.turn q1 hro _ _ b2 b3 (.cells ?_ q4), .int _ _⟩
              · have hf := (c4 i.size w).trans a2
                simp [Builtin.copy_, h0, run_underlying hu, c2, c3', hsz, hf, goInt, b1]
              · have := CR.putAll _ _ _ _ o q3 a3 (by rw [a4]; omega)
                simpa [Nat.add_assoc] using this
            · cases he
          · cases he
      · cases he
    · cases he
  · cases he

/-! ### cells that are cleared -/
def clearE (P : Program) (ro : Nat → Bool) (H : Heap) (ts : Array TypeId) (x : Value) : Option Heap :=
  match ts[0]? with
  | some t =>
    match P.underlying t, x with
    | some (.slice e), .slice none _ _ => some H
    | some (.slice e), .slice (some ⟨l, o, none⟩) n k =>
      if n = 0 then some H
      else match P.info? e, zeroE P e, H[l]? with
        | some i, some z, some (some (.cells c ty zz)) =>
          if ro l = false ∧ k / 2 = i.size ∧ z.size = i.size ∧ (Builtin.zeroCells z n).all bare = true ∧ o + n * i.size ≤ c.size then some (H.set l (some (.cells (putAll c o (Builtin.zeroCells z n).toList) ty zz))) else none
        | _, _, _ => none
    | _, _ => none
  | none => none
theorem clearE_run (h : M w0 K ro β H w) {ts : Array TypeId} {ty : TypeId} {x x' : Value} {H' : Heap} (hx : VR β x x') (he : clearE P ro H ts x = some H') :
    ∃ w1, (Builtin.clear_ ts ty #[x']).run P w = .ok (.tuple #[]) w1 ∧ M w0 K ro β H' w1 := by
  unfold clearE at he
  split at he
  case h_2 => cases he
  rename_i t h0
  split at he
  · rename_i e n c hu
    cases he
    cases hx
    exact ⟨w, by simp [Builtin.clear_, h0, run_underlying hu], h⟩
  · rename_i e l o n k hu
    cases hx with
    | sl g =>
    rename_i a' cap
    split at he
    · rename_i hn
      subst hn
      cases he
      exact ⟨w, by simp [Builtin.clear_, h0, run_underlying hu], h⟩
    · rename_i hn
      split at he
      · rename_i i z c tt zz hi hz hl
        split at he
        · rename_i hc
          obtain ⟨hro, c1, c2, c3, c4⟩ := hc
          cases he
          obtain ⟨zv, rfl, hzr, hzb⟩ := zeroE_run hz
          obtain ⟨p, c', t', fz, q1, q2, q3, q4⟩ := h.cells (o := o) hl
          obtain ⟨_, rfl⟩ := (g.ar (by omega)).live q1
          have hs := q3.size
          have hle := q3.le
          have hlen : (Builtin.zeroCells zv.cells n).toList.length = n * i.size := by rw [Array.length_toList, size_zeroCells, c2]
          obtain ⟨w1, b1, b2, b3⟩ := run_storeCells_blk P (s := p.s + o) (Builtin.zeroCells zv.cells n).toList 0 c' w q2 (by rw [hlen]; omega)
            (fun v hv => bare_one (Array.all_eq_true_iff_forall_mem.1 c3 v (by simpa using hv)))
            (fun j hj => by
              have := q3.fz (o + j) (by rw [hlen] at hj; omega)
              rwa [show p.s + o + 0 + j = p.s + (o + j) from by omega])
          refine ⟨w1, ?_, h.turn q1 hro _ _ b2 b3 (.cells ?_ q4)⟩
          · obtain ⟨n, rfl⟩ := Nat.exists_eq_succ_of_ne_zero hn
            simp [Builtin.clear_, h0, run_underlying hu, hzr, b1]
          · have := CR.putAll _ _ _ _ o q3 (AsR.toList (all_bare_asr (β := β) c3)) (by rw [hlen]; omega)
            simpa [Nat.add_assoc] using this
        · cases he
      · cases he
  · cases he

/-! ### conversions -/
def u8s : List Value → Option (List Int)
  | [] => some []
  | .int .u8 n :: r => (u8s r).map (n :: ·)
  | _ => none
theorem u8s_eq : ∀ {l : List Value} {ns : List Int}, u8s l = some ns → l = ns.map (Value.int .u8) := by
  intro l
  induction l with
  | nil => intro ns h; cases h; rfl
  | cons v r ih =>
    intro ns h
    unfold u8s at h
    split at h
    · rename_i e; cases e
    · rename_i n r' e
      cases e
      cases hr : u8s r with
      | none => rw [hr] at h; cases h
      | some q => rw [hr] at h; cases h; rw [ih hr]; rfl
    · cases h

def convE (P : Program) (ro : Nat → Bool) (H : Heap) (src dst : TypeId) (x : Value) : Option (Value × Heap) :=
  match P.underlying src, P.underlying dst, x with
  | some _, some (.int k), .int _ n => some (.int k (k.wrap n), H)
  | some .string, some .string, .string s => some (.string s, H)
  | some .string, some (.slice e), .string s =>
    match P.underlying e with
    | some (.int .u8) => some (.slice (some ⟨H.length, 0, none⟩) s.size 2, H ++ [some (.cells (s.data.toList.map fun y => Value.int .u8 y.toNat).toArray e (1, 1))])
    | _ => none
  | some (.slice _), some (.slice e), .slice (some ⟨l, o, none⟩) n k =>
    match src == dst, P.underlying e, H[l]?, ro l with
    | true, some (.int .u8), some (some (.cells c ty (0, 0))), false => some (.slice (some ⟨l, o, none⟩) n k, H.set l (some (.cells c ty (1, 1))))
    | _, _, _, _ => none
  | some (.slice e), some .string, .slice none _ _ =>
    match P.underlying e with
    | some (.int .u8) => some (.string .empty, H)
    | _ => none
  | some (.slice e), some .string, .slice (some a) n k =>
    match P.underlying e with
    | some (.int .u8) =>
      match srcE H 1 (.slice (some a) n k) with
      | some (_, cs) => match u8s cs with
        | some ns => some (.string (ns.foldl (fun r n => r.push (UInt8.ofNat n.toNat)) ByteArray.empty), H)
        | none => none
      | none => none
    | _ => none
  | _, _, _ => none

theorem convE_run (h : M w0 K ro β H w) {src dst : TypeId} {x x' v : Value} {H' : Heap} (hx : VR β x x') (he : convE P ro H src dst x = some (v, H')) :
    ∃ v' w1 β', (convert src dst x').run P w = .ok v' w1 ∧ Ext β β' ∧ M w0 K ro β' H' w1 ∧ VR β' v v' := by
  unfold convE at he
  split at he
  · rename_i d k n hs hd
    cases he
    cases hx
    refine ⟨_, w, β, ?_, Ext.refl β, h, .int _ _⟩
    simp only [convert, Sem.run_bind, run_underlying hs, run_underlying hd, Result.andThen_ok]
    cases d <;> rfl
  · rename_i s hs hd
    cases he
    cases hx
    exact ⟨_, w, β, by simp [convert, run_underlying hs, run_underlying hd], Ext.refl β, h, .string _⟩
  · rename_i e s hs hd
    split at he
    · rename_i hu
      cases he
      cases hx
      have hb := run_bytes_of_string (P := P) w src dst e s hs hd hu
      have hsz : (bytesRow s (grownCap w s.size 0 e)).size = grownCap w s.size 0 e := by
        have := grownCap_ge w s.size 0 e
        simp only [bytesRow, Array.size_append, Array.size_map, Array.size_replicate]
        have h2 : s.data.size = s.size := rfl
        omega
      refine ⟨_, _, β ++ [some ⟨w.heap.size, 0, grownCap w s.size 0 e⟩], hb, Ext.push _ _, ?_, ?_⟩
      · refine h.drew.alloc (grownCap w s.size 0 e) _ _ (.cells ⟨by rw [hsz]; simp, ?_, fun i y hy => ?_, fun i hi => by have hi : i < grownCap w s.size 0 e := hi; simp only; rw [hsz]; omega⟩ (fun e => by simp at e))
        · have := grownCap_ge w s.size 0 e
          simp only [List.size_toArray, List.length_map, Array.length_toList]
          exact this
        · simp only [List.getElem?_toArray, List.getElem?_map, Array.getElem?_toList] at hy
          rcases Nat.lt_or_ge i s.data.size with hi | hi
          · rw [Array.getElem?_eq_getElem hi] at hy
            cases hy
            exact ⟨_, by rw [Nat.zero_add]; exact bytesRow_at s _ i hi, .int _ _⟩
          · rw [Array.getElem?_eq_none hi] at hy; cases hy
      · exact .sl ⟨rfl, grownCap_ge _ _ _ _, fun hk => by simp at hk, .inl ⟨⟨w.heap.size, 0, grownCap w s.size 0 e⟩, by rw [← h.len]; simp, rfl, rfl, .inl rfl, by simp⟩⟩
    · cases he
  · rename_i e1 e l o n k hs hd
    split at he
    · rename_i c tt hsd hu hl hro
      cases he
      cases hx with
      | sl g =>
        rename_i a' cap
        obtain ⟨p, c', t', fz, q1, q2, q3, q4⟩ := h.cells (o := o) hl
        have q4 := q4 rfl
        subst q4
        have hb : a'.block = p.b := by
          obtain ⟨_, _, _, ⟨q, g4, g5, _⟩ | g4⟩ := g
          · rw [q1] at g4; cases g4; exact g5
          · rw [q1] at g4; cases g4
        have hsz := q3.size
        have hsh : w.shape? p.b = some (t', c'.size) := by simp [World.shape?, q2]
        have hsd' : src = dst := by simpa using hsd
        have hbb : (w.freeze ⟨p.b, c'.size, none⟩ 1).heap[p.b]? = some (.cells c' t' (c'.size, c'.size + 1)) := by
          simp [World.freeze, Array.getElem?_modify, q2]
        refine ⟨.slice (some a') n cap, w.freeze ⟨p.b, c'.size, none⟩ 1, β, ?_, Ext.refl β, h.turn q1 hro _ _ ⟨rfl, rfl, rfl, by simp [World.freeze], fun k hk hne => ?_⟩ hbb (.cells ⟨q3.size, q3.le, q3.at_, fun i hi => by simp only; omega⟩ (fun e => by simp at e)), .sl g⟩
        · simp [convert, run_underlying hd, run_underlying hu, hsd', markStringish, hb, hsh]
        · simp only [World.freeze, Nat.succ_ne_zero, if_false, Array.getElem?_modify]
          rw [if_neg (fun e => hne e.symm)]
    · cases he
  · rename_i e n c hs hd
    split at he
    · rename_i hu
      cases he
      cases hx
      exact ⟨_, w, β, by simp [convert, run_underlying hs, run_underlying hd, run_underlying hu, Conv.bytesToString], Ext.refl β, h, .string _⟩
    · cases he
  · rename_i e a n k hs hd
    split at he
    · rename_i hu
      split at he
      · rename_i m cs hsrc
        split at he
        · rename_i ns hn
          cases he
          obtain ⟨cs', a1, a2, a3, a4, a5⟩ := srcE_run (P := P) h hx hsrc
          have e1 := u8s_eq hn
          have e2 : cs' = cs := by
            refine ints_eq ?_ a3
            rw [e1]
            unfold ints
            rw [List.all_eq_true]
            intro y hy
            obtain ⟨z, _, rfl⟩ := List.mem_map.1 hy
            rfl
          cases hx with
          | sl g =>
            rename_i a' cap
            have hm : m = n := by
              simp only [Builtin.lenOf, Sem.run_pure, Result.ok.injEq, and_true] at a1
              exact a1.symm
            subst hm
            simp only [Builtin.firstCells, Nat.mul_one] at a2
            have := run_bytesToString (P := P) w a' m cap ns (by rw [a2, e2, e1])
            exact ⟨_, w, β, by simp [convert, run_underlying hs, run_underlying hd, run_underlying hu, this], Ext.refl β, h, .string _⟩
        · cases he
      · cases he
    · cases he
  · cases he

end
end Go.Proofs.YthbkjhacnnoolaaDoorZev
end

/- Maps in a small world of labels. No condition. -/
section
namespace Go.Proofs.YthbkjhacnnoolaaDoorZev
open Go.RowKit
set_option linter.unusedVariables false
set_option linter.unusedSectionVars false
variable [Sym] [Kin] [Glob]

section
variable {P : Program} {w0 w w1 : World} {K : Nat → Prop} {ro : Nat → Bool} {β : Env} {H : Heap}

/-! ### maps -/
theorem Q.checkKey (b : Bool) : ∀ (d : Nat) (t : TypeId) (x : Value), flat x = true → Q P (Instr.checkKey b d t x) := by
  intro d
  induction d with
  | zero => intro t x _; exact Q.unsup _
  | succ d ih =>
    intro t x hx
    unfold Instr.checkKey
    refine (Q.underlying t).bind fun u => ?_
    split <;> first
      | exact Q.pure _
      | exact Q.stuck _
      | (simp [flat, bare] at hx; done)
      | skip
    · simp only [flat] at hx
      refine Q.bind (Q.forIn_range _ (fun f b => ?_) _ _) fun r => Q.pure _
      refine (Q.sizeOf _).bind fun n => Q.bind_part hx fun b1 h1 => (ih _ _ h1).bind fun r => Q.pure _
    · simp only [flat] at hx
      refine Q.bind (Q.forIn_array _ (fun f b => ?_) _ _) fun r => Q.pure _
      refine Q.ite ?_ (Q.pure _)
      exact Q.bind_part hx fun b1 h1 => (ih _ _ h1).bind fun r => Q.pure _

/-- two lists of entries with the same keys -/
def KsR (l l' : List MapEntry) : Prop := l.map (·.key) = l'.map (·.key)


def Same (l l' : List MapEntry) (i : Nat) (r r' : Option (Nat × Value)) : Prop :=
  (r = none ∧ r' = none) ∨ ∃ j e e', r = some (j, e.val) ∧ r' = some (j, e'.val) ∧ i ≤ j ∧ l[j - i]? = some e ∧ l'[j - i]? = some e'
theorem Same.cons {l l' : List MapEntry} {i : Nat} {r r' : Option (Nat × Value)} (h : Same l l' (i + 1) r r') (e e' : MapEntry) : Same (e :: l) (e' :: l') i r r' := by
  rcases h with h | ⟨j, a, a', h1, h2, h3, h4, h5⟩
  · exact .inl h
  · refine .inr ⟨j, a, a', h1, h2, by omega, ?_, ?_⟩
    · rw [show j - i = (j - (i + 1)) + 1 from by omega, List.getElem?_cons_succ]; exact h4
    · rw [show j - i = (j - (i + 1)) + 1 from by omega, List.getElem?_cons_succ]; exact h5
theorem findNow_same (kd : TypeDesc) (k : Value) : ∀ (l l' : List MapEntry) (i : Nat), KsR l l' →
    (Instr.findNow kd k l i = none → Instr.findNow kd k l' i = none) ∧ (∀ r, Instr.findNow kd k l i = some r → ∃ r', Instr.findNow kd k l' i = some r' ∧ Same l l' i r r') := by
  intro l
  induction l with
  | nil =>
    intro l' i h
    have : l' = [] := List.eq_nil_of_length_eq_zero (by have := congrArg List.length h; simp at this; omega)
    subst this
    exact ⟨fun h => h, fun r hr => ⟨r, hr, by simp only [Instr.findNow, Option.some.injEq] at hr; subst hr; exact .inl ⟨rfl, rfl⟩⟩⟩
  | cons e l ih =>
    intro l' i h
    cases l' with
    | nil => have := congrArg List.length h; simp at this
    | cons e' l' =>
      simp only [KsR, List.map_cons, List.cons.injEq] at h
      obtain ⟨h1, h2⟩ := h
      simp only [Instr.findNow, ← h1]
      cases hs : Instr.sameNow kd k e.key with
      | none => exact ⟨fun _ => rfl, fun r hr => by cases hr⟩
      | some b =>
        cases b with
        | true => exact ⟨fun hr => (by cases hr), fun r hr => ⟨_, rfl, .inr ⟨i, e, e', by cases hr; rfl, rfl, Nat.le_refl _, by simp, by simp⟩⟩⟩
        | false =>
          obtain ⟨a, b⟩ := ih l' (i + 1) h2
          exact ⟨a, fun r hr => let ⟨r', x, y⟩ := b r hr; ⟨r', x, y.cons e e'⟩⟩
theorem findAsking_same {kt : TypeId} {k : Value} (hk : flat k = true) : ∀ (l l' : List MapEntry) (i : Nat), KsR l l' → (∀ e ∈ l, flat e.key = true) →
    ∀ r w2, (Instr.findAsking kt k l i).run P default = .ok r w2 → ∃ r', Same l l' i r r' ∧ ∀ w, (Instr.findAsking kt k l' i).run P w = .ok r' w := by
  intro l
  induction l with
  | nil =>
    intro l' i h _ r w2 hr
    have : l' = [] := List.eq_nil_of_length_eq_zero (by have := congrArg List.length h; simp at this; omega)
    subst this
    simp only [Instr.findAsking, Sem.run_pure, Result.ok.injEq] at hr
    exact ⟨none, .inl ⟨hr.1.symm, rfl⟩, fun w => rfl⟩
  | cons e l ih =>
    intro l' i h hf r w2 hr
    cases l' with
    | nil => have := congrArg List.length h; simp at this
    | cons e' l' =>
      simp only [KsR, List.map_cons, List.cons.injEq] at h
      obtain ⟨h1, h2⟩ := h
      simp only [Instr.findAsking, Sem.run_bind] at hr
      have hq := Q.equal (P := P) kt hk (hf e (by simp))
      cases hx : (Op.equal kt k e.key).run P default with
      | halt y w3 => rw [hx] at hr; cases hr
      | ok b w3 =>
        have hq' := hq b w3 hx
        have hd := hq' default
        rw [hx] at hd
        simp only [Result.ok.injEq, true_and] at hd
        rw [hx, Result.andThen_ok] at hr
        cases b with
        | true =>
          simp only [if_true, Sem.run_pure, Result.ok.injEq] at hr
          refine ⟨some (i, e'.val), .inr ⟨i, e, e', hr.1.symm, rfl, Nat.le_refl _, by simp, by simp⟩, fun w => ?_⟩
          simp only [Instr.findAsking, Sem.run_bind, ← h1, hq' w, Result.andThen_ok, if_true, Sem.run_pure]
        | false =>
          simp only [Bool.false_eq_true, if_false] at hr
          rw [hd] at hr
          obtain ⟨r', a, b⟩ := ih l' (i + 1) h2 (fun x hx => hf x (by simp [hx])) r w2 hr
          refine ⟨r', a.cons e e', fun w => ?_⟩
          simp only [Instr.findAsking, Sem.run_bind, ← h1, hq' w, Result.andThen_ok, Bool.false_eq_true, if_false, b w]

theorem findKey_same {kt : TypeId} {k : Value} (hk : flat k = true) {l l' : List MapEntry} (h : KsR l l') (hf : ∀ e ∈ l, flat e.key = true) {r : Option (Nat × Value)}
    (hr : pureRun P (Instr.findKey kt k l) = some r) : ∃ r', Same l l' 0 r r' ∧ ∀ w, (Instr.findKey kt k l').run P w = .ok r' w := by
  unfold pureRun at hr
  split at hr
  case h_2 => cases hr
  rename_i a w2 hx
  cases hr
  unfold Instr.findKey at hx ⊢
  rw [Sem.run_bind] at hx
  have hq := Q.underlying (P := P) kt
  cases hu : (underlying kt).run P default with
  | halt y w3 => rw [hu] at hx; cases hx
  | ok d w3 =>
    have hq' := hq d w3 hu
    have hd := hq' default
    rw [hu] at hd
    simp only [Result.ok.injEq, true_and] at hd
    rw [hu, Result.andThen_ok, hd] at hx
    obtain ⟨s1, s2⟩ := findNow_same d k l l' 0 h
    cases hn : Instr.findNow d k l 0 with
    | none =>
      rw [hn] at hx
      obtain ⟨r', a, b⟩ := findAsking_same hk l l' 0 h hf _ _ hx
      exact ⟨r', a, fun w => by rw [Sem.run_bind, hq' w, Result.andThen_ok, s1 hn]; exact b w⟩
    | some q =>
      rw [hn] at hx
      simp only [Sem.run_pure, Result.ok.injEq] at hx
      obtain ⟨r', a, b⟩ := s2 q hn
      rw [hx.1] at b
      exact ⟨r', b, fun w => by rw [Sem.run_bind, hq' w, Result.andThen_ok, a]; rfl⟩

/-- a map's entries, their keys nowhere -/
def mapE (H : Heap) (x : Value) : Option (List MapEntry) :=
  match x with
  | .map none => some []
  | .map (some l) => match H[l]? with
    | some (some (.map es _)) => if es.toList.all (fun e => flat e.key) then some es.toList else none
    | _ => none
  | _ => none
def zeroV (P : Program) (t : TypeId) : Option Value :=
  match P.info? t with
  | some i => match i.zero with
    | some z => if still z then some z else none
    | none => none
  | none => none
theorem zeroV_run {t : TypeId} {z : Value} (h : zeroV P t = some z) : (∀ w, (zeroValue t).run P w = .ok z w) ∧ still z = true := by
  unfold zeroV at h
  split at h
  · rename_i i hi
    split at h
    · rename_i z hz
      split at h
      · rename_i hb; cases h; exact ⟨fun w => by simp [zeroValue, typeInfo, hi, hz], hb⟩
      · cases h
    · cases h
  · cases h

def lookE (P : Program) (H : Heap) (t : TypeId) (x ix : Value) (ok : Bool) : Option Value :=
  match P.underlying t with
  | some (.map kt et) =>
    match mapE H x with
    | some l =>
      if flat ix = true then
        match pureRun P (Instr.checkKey l.isEmpty 10000 kt ix), pureRun P (Instr.findKey kt ix l) with
        | some _, some none => match zeroV P et with
          | some z => some (if ok then .tuple #[z, .bool false] else z)
          | none => none
        | some _, some (some (_, v)) => some (if ok then .tuple #[v, .bool true] else v)
        | _, _ => none
      else none
    | none => none
  | _ => none

/-- what a map holds, here and there -/
theorem mapE_run (h : M w0 K ro β H w) {x x' : Value} {l : List MapEntry} (hx : VR β x x') (he : mapE H x = some l) :
    ∃ l', KsR l l' ∧ l.length = l'.length ∧ (∀ e ∈ l, flat e.key = true) ∧ (∀ (i : Nat) (e e' : MapEntry), l[i]? = some e → l'[i]? = some e' → VR β e.val e'.val ∧ e'.born = e.born) ∧
      (x' = .map none ∧ l' = [] ∨ ∃ b es k, x' = .map (some b) ∧ w.heap[b]? = some (.map es k) ∧ es.toList = l') := by
  unfold mapE at he
  split at he
  · cases he; cases hx; exact ⟨[], rfl, rfl, by simp, by simp, .inl ⟨rfl, rfl⟩⟩
  · split at he
    · rename_i la es k hl
      split at he
      · rename_i hf
        cases he
        cases hx with
        | map hb =>
          obtain ⟨p, es', a1, a2, a3, a4, a5⟩ := h.map hl hb
          have hf' : ∀ e ∈ es.toList, flat e.key = true := fun e he => List.all_eq_true.1 hf e he
          refine ⟨es'.toList, ?_, by simpa using a4, hf', fun i e e' h1 h2 => ?_, .inr ⟨_, es', k, rfl, a3, rfl⟩⟩
          · apply List.ext_getElem?
            intro i
            rw [List.getElem?_map, List.getElem?_map]
            rcases Nat.lt_or_ge i es.size with hi | hi
            · have hi' : i < es'.size := by omega
              have e1 : es.toList[i]? = some es[i] := by simp [hi]
              have e2 : es'.toList[i]? = some es'[i] := by simp [hi']
              rw [e1, e2]
              have := (a5 i es[i] es'[i] (Array.getElem?_eq_getElem hi) (Array.getElem?_eq_getElem hi')).2.1
              simp only [Option.map_some]
              rw [flat_eq (hf' es[i] (by simp)) this]
            · rw [List.getElem?_eq_none (by simpa using hi), List.getElem?_eq_none (by simp; omega)]
          · rw [Array.getElem?_toList] at h1 h2
            obtain ⟨b1, b2, b3⟩ := a5 i e e' h1 h2
            exact ⟨b3, b1⟩
      · cases he
    · cases he
  · cases he

theorem lookE_run (h : M w0 K ro β H w) {t : TypeId} {x x' ix ix' v : Value} {ok : Bool} (hx : VR β x x') (hi : VR β ix ix') (he : lookE P H t x ix ok = some v) :
    ∃ v', (Instr.lookup t x' ix' ok).run P w = .ok v' w ∧ VR β v v' := by
  unfold lookE at he
  split at he
  case h_2 => cases he
  rename_i kt et hu
  split at he
  case h_2 => cases he
  rename_i l hl
  split at he
  case isFalse => cases he
  rename_i hf
  have := flat_eq hf hi
  subst this
  obtain ⟨l', k1, k2, k3, k4, k5⟩ := mapE_run h hx hl
  have hemp : l.isEmpty = l'.isEmpty := by cases l <;> cases l' <;> simp at k2 ⊢
  have hrun : ∀ r', (∀ w, (Instr.checkKey l'.isEmpty 10000 kt ix').run P w = .ok () w) → (∀ w, (Instr.findKey kt ix' l').run P w = .ok r' w) →
      (Instr.lookup t x' ix' ok).run P w = ((do
        let (v, b) ← match r' with
          | some (_, v) => pure (v, true)
          | none => pure (← zeroValue et, false)
        pure (if ok then .tuple #[v, .bool b] else v) : Sem Value).run P w) := by
    intro r' c1 c2
    rcases k5 with ⟨rfl, rfl⟩ | ⟨b, es, k, rfl, hb, rfl⟩
    · have c1' : ∀ w, (Instr.checkKey true 10000 kt ix').run P w = .ok () w := c1
      simp [Instr.lookup, run_underlying hu, c1', c2]
      cases r' <;> rfl
    · have c1' : ∀ w, (Instr.checkKey es.isEmpty 10000 kt ix').run P w = .ok () w := by
        have e : es.toList.isEmpty = es.isEmpty := by cases es; simp
        rw [e] at c1; exact c1
      simp [Instr.lookup, run_underlying hu, getObj, Sem.run, hb, c1', c2]
      cases r' <;> rfl
  split at he
  · rename_i u hc hfk
    have hck := (Q.checkKey (P := P) l.isEmpty 10000 kt ix' hf).run hc
    rw [hemp] at hck
    obtain ⟨r', s1, s2⟩ := findKey_same (P := P) hf k1 k3 hfk
    split at he
    · rename_i z hz
      cases he
      obtain ⟨z1, z2⟩ := zeroV_run hz
      rcases s1 with ⟨_, rfl⟩ | ⟨j, e, e', q, _⟩
      · rw [hrun none hck s2]
        cases ok with
        | true => exact ⟨.tuple #[z, .bool false], by simp [z1], .tuple rfl fun i x y a b => by
            match i with
            | 0 => simp at a b; subst a; subst b; exact still_vr z2
            | 1 => simp at a b; subst a; subst b; exact .bool _
            | i + 2 => simp at a⟩
        | false => exact ⟨z, by simp [z1], still_vr z2⟩
      · cases q
    · cases he
  · rename_i u j v2 hc hfk
    have hck := (Q.checkKey (P := P) l.isEmpty 10000 kt ix' hf).run hc
    rw [hemp] at hck
    obtain ⟨r', s1, s2⟩ := findKey_same (P := P) hf k1 k3 hfk
    cases he
    rcases s1 with ⟨q, _⟩ | ⟨j, e, e', q, rfl, _, q2, q3⟩
    · cases q
    · cases q
      rw [hrun _ hck s2]
      have hv := (k4 _ _ _ q2 q3).1
      cases ok with
      | true => exact ⟨.tuple #[e'.val, .bool true], by simp, .tuple rfl fun i x y a b => by
          match i with
          | 0 => simp at a b; subst a; subst b; exact hv
          | 1 => simp at a b; subst a; subst b; exact .bool _
          | i + 2 => simp at a⟩
      | false => exact ⟨e'.val, by simp, hv⟩
  · cases he
end
end Go.Proofs.YthbkjhacnnoolaaDoorZev
end

/- Maps that are written, and gone through, in a small world of labels. No condition. -/
section
namespace Go.Proofs.YthbkjhacnnoolaaDoorZev
open Go.RowKit
set_option linter.unusedVariables false
set_option linter.unusedSectionVars false
variable [Sym] [Kin] [Glob]

section
variable {P : Program} {w0 w w1 : World} {K : Nat → Prop} {ro : Nat → Bool} {β : Env} {H : Heap}

inductive EsL (β : Env) : List MapEntry → List MapEntry → Prop
  | nil : EsL β [] []
  | cons {e e' : MapEntry} {l l' : List MapEntry} (hb : e'.born = e.born) (hk : VR β e.key e'.key) (hv : VR β e.val e'.val) (h : EsL β l l') : EsL β (e :: l) (e' :: l')
def EsR (β : Env) (es es' : Array MapEntry) : Prop :=
  es.size = es'.size ∧ ∀ (i : Nat) (e e' : MapEntry), es[i]? = some e → es'[i]? = some e' → e'.born = e.born ∧ VR β e.key e'.key ∧ VR β e.val e'.val

theorem EsL.of : ∀ (l l' : List MapEntry), l.length = l'.length → (∀ (i : Nat) (e e' : MapEntry), l[i]? = some e → l'[i]? = some e' → e'.born = e.born ∧ VR β e.key e'.key ∧ VR β e.val e'.val) → EsL β l l' := by
  intro l
  induction l with
  | nil => intro l' h _; have : l' = [] := List.eq_nil_of_length_eq_zero (by simpa using h.symm); subst this; exact .nil
  | cons e l ih =>
    intro l' h hr
    cases l' with
    | nil => simp at h
    | cons e' l' =>
      obtain ⟨a, b, c⟩ := hr 0 e e' rfl rfl
      exact .cons a b c (ih l' (by simpa using h) fun i x y hx hy => hr (i + 1) x y (by simpa using hx) (by simpa using hy))
theorem EsR.list {es es' : Array MapEntry} (h : EsR β es es') : EsL β es.toList es'.toList := EsL.of _ _ (by simpa using h.1) (by simpa using h.2)
theorem EsL.length {l l' : List MapEntry} (h : EsL β l l') : l.length = l'.length := by
  induction h with
  | nil => rfl
  | cons _ _ _ _ ih => simp [ih]
theorem EsL.at {l l' : List MapEntry} (h : EsL β l l') : ∀ (i : Nat) (e : MapEntry), l[i]? = some e → ∃ e', l'[i]? = some e' ∧ e'.born = e.born ∧ VR β e.key e'.key ∧ VR β e.val e'.val := by
  induction h with
  | nil => intro i e h; simp at h
  | cons a b c _ ih =>
    intro i e h
    cases i with
    | zero => simp at h; subst h; exact ⟨_, rfl, a, b, c⟩
    | succ i => simpa using ih i e (by simpa using h)
theorem EsL.filter {l l' : List MapEntry} (h : EsL β l l') (p : MapEntry → Bool) (hp : ∀ e e' : MapEntry, e'.born = e.born → p e' = p e) : EsL β (l.filter p) (l'.filter p) := by
  induction h with
  | nil => exact .nil
  | cons a b c _ ih =>
    rename_i e e' l l' _
    rw [List.filter_cons, List.filter_cons, hp e e' a]
    split
    · exact .cons a b c ih
    · exact ih
theorem EsL.append {a a' b b' : List MapEntry} (h : EsL β a a') (k : EsL β b b') : EsL β (a ++ b) (a' ++ b') := by
  induction h with
  | nil => exact k
  | cons x y z _ ih => exact .cons x y z ih
theorem EsL.all {l l' : List MapEntry} (h : EsL β l l') (p : MapEntry → Bool) (hp : ∀ e e' : MapEntry, e'.born = e.born → p e' = p e) : l'.all p = l.all p := by
  induction h with
  | nil => rfl
  | cons a _ _ _ ih => simp only [List.all_cons, ih, hp _ _ a]
theorem EsL.findIdx {l l' : List MapEntry} (h : EsL β l l') (p : MapEntry → Bool) (hp : ∀ e e' : MapEntry, e'.born = e.born → p e' = p e) : l'.findIdx? p = l.findIdx? p := by
  induction h with
  | nil => rfl
  | cons a _ _ _ ih => simp only [List.findIdx?_cons, ih, hp _ _ a]
theorem EsL.find {l l' : List MapEntry} (h : EsL β l l') (p : MapEntry → Bool) (hp : ∀ e e' : MapEntry, e'.born = e.born → p e' = p e) :
    (l.find? p = none → l'.find? p = none) ∧ ∀ e, l.find? p = some e → ∃ e', l'.find? p = some e' ∧ e'.born = e.born ∧ VR β e.key e'.key ∧ VR β e.val e'.val := by
  induction h with
  | nil => exact ⟨fun h => h, fun e h => (by cases h)⟩
  | cons a b c _ ih =>
    rename_i e e' l l' _
    rw [List.find?_cons, List.find?_cons, hp e e' a]
    cases p e with
    | true => exact ⟨fun h => (by cases h), fun x h => (by cases h; exact ⟨e', rfl, a, b, c⟩)⟩
    | false => exact ih

theorem Chg.setObj (w : World) (b : Nat) (o : Obj) : Chg b w { w with heap := w.heap.setIfInBounds b o } :=
  ⟨rfl, rfl, rfl, by simp, fun k _ hk => by simp only [Array.getElem?_setIfInBounds]; rw [if_neg (fun e => hk e.symm)]⟩
theorem setObj_at {w : World} {b : Nat} {o o' : Obj} (h : w.heap[b]? = some o') : ({ w with heap := w.heap.setIfInBounds b o } : World).heap[b]? = some o := by
  have := lt_of_heap h
  simp [this]
theorem run_setObj_map {w : World} {b : Nat} {es : Array MapEntry} {k : Nat} (h : w.heap[b]? = some (.map es k)) (o : Obj) : (setObj b o).run P w = .ok () { w with heap := w.heap.setIfInBounds b o } := by
  simp only [setObj, Sem.run, h]
theorem run_getObj_map {w : World} {b : Nat} {es : Array MapEntry} {k : Nat} (h : w.heap[b]? = some (.map es k)) : (getObj b).run P w = .ok (.map es k) w := by
  simp only [getObj, Sem.run, h]

/-- a map whose entries are turned -/
theorem M.setMap (h : M w0 K ro β H w) {l b : Nat} {es : Array MapEntry} {k : Nat} (hl : H[l]? = some (some (.map es k))) (hb : LR β l b) :
    ∃ es', w.heap[b]? = some (.map es' k) ∧ EsR β es es' ∧ ∀ es2 es2' k2, ro l = false → EsR β es2 es2' → M w0 K ro β (H.set l (some (.map es2 k2))) { w with heap := w.heap.setIfInBounds b (.map es2' k2) } := by
  obtain ⟨p, es', a1, a2, a3, a4, a5⟩ := h.map hl hb
  subst a2
  exact ⟨es', a3, ⟨a4, a5⟩, fun es2 es2' k2 hro hr => h.turn a1 hro _ _ (Chg.setObj w p.b _) (setObj_at a3) (.map hr.1 hr.2)⟩

theorem EsR.push {es es' : Array MapEntry} (h : EsR β es es') {k k' v v' : Value} (n : Nat) (hk : VR β k k') (hv : VR β v v') : EsR β (es.push ⟨k, v, n⟩) (es'.push ⟨k', v', n⟩) := by
  refine ⟨by simp [h.1], fun i e e' a b => ?_⟩
  rw [Array.getElem?_push] at a b
  rw [← h.1] at b
  split at a
  · rename_i hi
    rw [if_pos hi] at b
    cases a; cases b
    exact ⟨rfl, hk, hv⟩
  · rename_i hi
    rw [if_neg hi] at b
    exact h.2 i e e' a b
theorem EsR.set {es es' : Array MapEntry} (h : EsR β es es') {j : Nat} {e0 e1 : MapEntry} (h0 : es[j]? = some e0) {f : MapEntry → MapEntry} (hf : ∀ e0', es'[j]? = some e0' → (f e0').born = e1.born ∧ VR β e1.key (f e0').key ∧ VR β e1.val (f e0').val) :
    EsR β (es.setIfInBounds j e1) (es'.modify j f) := by
  have hj := (Array.getElem?_eq_some_iff.1 h0).1
  refine ⟨by simp [h.1], fun i e e' a b => ?_⟩
  rw [Array.getElem?_modify] at b
  by_cases hij : j = i
  · subst hij
    rw [Array.getElem?_setIfInBounds_self_of_lt hj] at a
    cases a
    have hj' : j < es'.size := by rw [← h.1]; exact hj
    rw [if_pos rfl, Array.getElem?_eq_getElem hj'] at b
    simp only [Option.map_some, Option.some.injEq] at b
    subst b
    exact hf _ (Array.getElem?_eq_getElem hj')
  · rw [if_neg hij] at b
    rw [Array.getElem?_setIfInBounds_ne hij] at a
    exact h.2 i e e' a b
theorem EsR.keys {es es' : Array MapEntry} (h : EsR β es es') (hf : ∀ e ∈ es.toList, flat e.key = true) : KsR es.toList es'.toList := by
  apply List.ext_getElem?
  intro i
  rw [List.getElem?_map, List.getElem?_map]
  have hs := h.1
  rcases Nat.lt_or_ge i es.size with hi | hi
  · have hi' : i < es'.size := by omega
    have e1 : es.toList[i]? = some es[i] := by simp [hi]
    have e2 : es'.toList[i]? = some es'[i] := by simp [hi']
    rw [e1, e2]
    have := (h.2 i es[i] es'[i] (Array.getElem?_eq_getElem hi) (Array.getElem?_eq_getElem hi')).2.1
    simp only [Option.map_some]
    rw [flat_eq (hf es[i] (by simp)) this]
  · rw [List.getElem?_eq_none (by simpa using hi), List.getElem?_eq_none (by simp; omega)]

/-- where a key is -/
def seekE (P : Program) (kt : TypeId) (b : Bool) (k : Value) (es : Array MapEntry) : Option (Option (Nat × Value)) :=
  if flat k = true ∧ es.toList.all (fun e => flat e.key) = true then
    match pureRun P (Instr.checkKey b 10000 kt k), pureRun P (Instr.findKey kt k es.toList) with
    | some _, some r => some r
    | _, _ => none
  else none
theorem seekE_run {kt : TypeId} {b : Bool} {k k' : Value} {es es' : Array MapEntry} {r : Option (Nat × Value)} (he : EsR β es es') (hk : VR β k k') (hs : seekE P kt b k es = some r) :
    k' = k ∧ (∀ w, (Instr.checkKey b 10000 kt k).run P w = .ok () w) ∧ (∃ r', (∀ w, (Instr.findKey kt k es'.toList).run P w = .ok r' w) ∧
      ((r = none ∧ r' = none) ∨ ∃ j e e', r = some (j, e.val) ∧ r' = some (j, e'.val) ∧ es[j]? = some e ∧ es'[j]? = some e' ∧ e'.key = e.key ∧ e'.born = e.born ∧ VR β e.val e'.val)) := by
  unfold seekE at hs
  split at hs
  case isFalse => cases hs
  rename_i hc
  obtain ⟨c1, c2⟩ := hc
  have hf : ∀ e ∈ es.toList, flat e.key = true := fun e he => List.all_eq_true.1 c2 e he
  split at hs
  case h_2 => cases hs
  rename_i u r2 h1 h2
  cases hs
  obtain ⟨r', a, b⟩ := findKey_same (P := P) c1 (he.keys hf) hf h2
  refine ⟨flat_eq c1 hk, (Q.checkKey (P := P) _ 10000 kt k c1).run h1, r', b, ?_⟩
  rcases a with a | ⟨j, e, e', q1, q2, _, q3, q4⟩
  · exact .inl a
  · rw [Nat.sub_zero, Array.getElem?_toList] at q3 q4
    obtain ⟨x, y, z⟩ := he.2 j e e' q3 q4
    exact .inr ⟨j, e, e', q1, q2, q3, q4, flat_eq (hf e (by simpa using Array.mem_of_getElem? q3)) y, x, z⟩

def updE (P : Program) (ro : Nat → Bool) (H : Heap) (t : TypeId) (m k v : Value) : Option Heap :=
  match P.underlying t, m with
  | some (.map kt _), .map (some l) =>
    match H[l]?, ro l with
    | some (some (.map es c)), false =>
      match seekE P kt false k es with
      | some none => some (H.set l (some (.map (es.push ⟨k, v, c⟩) (c + 1))))
      | some (some (j, _)) => match es[j]? with
        | some e => if Instr.sameBits 10000 e.key k = true then some (H.set l (some (.map (es.setIfInBounds j ⟨k, v, e.born⟩) c))) else none
        | none => none
      | none => none
    | _, _ => none
  | _, _ => none
theorem updE_run (h : M w0 K ro β H w) {t : TypeId} {m m' k k' v v' : Value} {H' : Heap} (hm : VR β m m') (hk : VR β k k') (hv : VR β v v') (he : updE P ro H t m k v = some H') :
    ∃ w1, (Instr.mapUpdate t m' k' v').run P w = .ok () w1 ∧ M w0 K ro β H' w1 := by
  unfold updE at he
  split at he
  case h_2 => cases he
  rename_i kt et l hu
  split at he
  case h_2 => cases he
  rename_i es c hl hro
  cases hm with
  | map hb =>
  obtain ⟨es', a1, a2, a3⟩ := h.setMap hl hb
  split at he
  · rename_i hs
    cases he
    obtain ⟨rfl, b1, r', b2, b3⟩ := seekE_run (P := P) a2 hk hs
    rcases b3 with ⟨_, rfl⟩ | ⟨j, e, e', q, _⟩
    · exact ⟨_, by simp [Instr.mapUpdate, run_underlying hu, run_getObj_map a1, b1, b2, run_setObj_map a1], a3 _ _ _ hro (a2.push c hk hv)⟩
    · cases q
  · rename_i j v2 hs
    split at he
    · rename_i e hj
      split at he
      · rename_i hsb
        cases he
        obtain ⟨rfl, b1, r', b2, b3⟩ := seekE_run (P := P) a2 hk hs
        rcases b3 with ⟨q, _⟩ | ⟨j2, e2, e2', q, rfl, q3, q4, q5, q6, q7⟩
        · cases q
        · cases q
          rw [hj] at q3; cases q3
          have hkey : ((es'[j]?).map (·.key)).getD k' = e.key := by rw [q4]; exact q5
          have hst : ∀ w, (Instr.keyThatStays (((es'[j]?).map (·.key)).getD k') k').run P w = .ok k' w := fun w => by
            rw [hkey]; simp [Instr.keyThatStays, hsb]
          refine ⟨_, ?_, a3 _ _ _ hro (a2.set hj (e1 := ⟨k', v, e.born⟩) (f := fun e => { e with key := k', val := v' }) fun e0' h0 => ?_)⟩
          · simp only [Instr.mapUpdate, Sem.run_bind, run_underlying hu, Result.andThen_ok, run_getObj_map a1, b1, b2, hst, run_setObj_map a1]
          · rw [q4] at h0; cases h0
            exact ⟨q6, hk, hv⟩
      · cases he
    · cases he
  · cases he

def delE (P : Program) (ro : Nat → Bool) (H : Heap) (ts : Array TypeId) (m k : Value) : Option Heap :=
  match ts[0]? with
  | some t => match P.underlying t, m with
    | some (.map kt _), .map (some l) =>
      match H[l]?, ro l with
      | some (some (.map es c)), false =>
        match seekE P kt es.isEmpty k es with
        | some none => some H
        | some (some (j, _)) => some (H.set l (some (.map (es.toList.eraseIdx j).toArray c)))
        | none => none
      | _, _ => none
    | _, _ => none
  | none => none
theorem EsL.erase {l l' : List MapEntry} (h : EsL β l l') : ∀ j, EsL β (l.eraseIdx j) (l'.eraseIdx j) := by
  induction h with
  | nil => intro j; exact .nil
  | cons a b c k ih =>
    intro j
    cases j with
    | zero => exact k
    | succ j => exact .cons a b c (ih j)
theorem EsL.arr {l l' : List MapEntry} (h : EsL β l l') : EsR β l.toArray l'.toArray := by
  refine ⟨by simpa using h.length, fun i e e' a b => ?_⟩
  rw [List.getElem?_toArray] at a b
  obtain ⟨x, q1, q2⟩ := h.at i e a
  rw [b] at q1; cases q1; exact q2
theorem delE_run (h : M w0 K ro β H w) {ts : Array TypeId} {ty : TypeId} {m m' k k' : Value} {H' : Heap} (hm : VR β m m') (hk : VR β k k') (he : delE P ro H ts m k = some H') :
    ∃ w1, (Builtin.delete_ ts ty #[m', k']).run P w = .ok (.tuple #[]) w1 ∧ M w0 K ro β H' w1 := by
  unfold delE at he
  split at he
  case h_2 => cases he
  rename_i t h0
  split at he
  case h_2 => cases he
  rename_i kt et l hu
  split at he
  case h_2 => cases he
  rename_i es c hl hro
  cases hm with
  | map hb =>
  rename_i b
  obtain ⟨es', a1, a2, a3⟩ := h.setMap hl hb
  have hemp : es'.isEmpty = es.isEmpty := by have := a2.1; simp [Array.isEmpty, this]
  split at he
  · rename_i hs
    cases he
    obtain ⟨rfl, b1, r', b2, b3⟩ := seekE_run (P := P) a2 hk hs
    rcases b3 with ⟨_, rfl⟩ | ⟨j, e, e', q, _⟩
    · refine ⟨{ w with heap := w.heap.setIfInBounds b (.map es' c) }, ?_, h.of_heap ?_ rfl rfl rfl⟩
      · simp [Builtin.delete_, h0, run_underlying hu, run_getObj_map a1, hemp, b1, b2, run_setObj_map a1]
      · apply Array.ext_getElem?
        intro i
        simp only [Array.getElem?_setIfInBounds]
        split
        · rename_i hi; subst hi
          rw [if_pos (lt_of_heap a1), a1]
        · rfl
    · cases q
  · rename_i j v2 hs
    cases he
    obtain ⟨rfl, b1, r', b2, b3⟩ := seekE_run (P := P) a2 hk hs
    rcases b3 with ⟨q, _⟩ | ⟨j2, e2, e2', q, rfl, q3, q4, _⟩
    · cases q
    · cases q
      refine ⟨{ w with heap := w.heap.setIfInBounds b (.map (es'.eraseIdxIfInBounds j) c) }, ?_, a3 _ _ _ hro ?_⟩
      · simp [Builtin.delete_, h0, run_underlying hu, run_getObj_map a1, hemp, b1, b2, run_setObj_map a1]
      · have hx := (a2.list.erase j).arr
        have hj : j < es'.size := (Array.getElem?_eq_some_iff.1 q4).1
        have e1 : es'.eraseIdxIfInBounds j = (es'.toList.eraseIdx j).toArray := by
          apply Array.ext'
          rw [Array.eraseIdxIfInBounds, dif_pos hj]
          simp
        rw [e1]; exact hx
  · cases he
end
end Go.Proofs.YthbkjhacnnoolaaDoorZev
end

/- Entries of maps, going through maps and texts, in a small world of labels. No condition. -/
section
namespace Go.Proofs.YthbkjhacnnoolaaDoorZev
open Go.RowKit
set_option linter.unusedVariables false
set_option linter.unusedSectionVars false
variable [Sym] [Kin] [Glob]

section
variable {P : Program} {w0 w w1 : World} {K : Nat → Prop} {ro : Nat → Bool} {β : Env} {H : Heap}

def mapEntE (P : Program) (ro : Nat → Bool) (H : Heap) (t : TypeId) (m k : Value) : Option (Value × Heap) :=
  match P.underlying t, m with
  | some (.map kt et), .map (some l) =>
    match H[l]?, ro l with
    | some (some (.map es c)), false =>
      match seekE P kt false k es with
      | some none => match zeroV P et with
        | some z => some (.tuple #[z, goInt c], H.set l (some (.map (es.push ⟨k, z, c⟩) (c + 1))))
        | none => none
      | some (some (j, v)) => match es[j]? with
        | some e => if Instr.sameBits 10000 e.key k = true then some (.tuple #[e.val, goInt e.born], H.set l (some (.map (es.setIfInBounds j ⟨k, e.val, e.born⟩) c))) else none
        | none => none
      | none => none
    | _, _ => none
  | _, _ => none
theorem tuple2_vr {a a' b b' : Value} (h : VR β a a') (k : VR β b b') : VR β (.tuple #[a, b]) (.tuple #[a', b']) :=
  .tuple rfl fun i x y p q => by
    match i with
    | 0 => simp at p q; subst p; subst q; exact h
    | 1 => simp at p q; subst p; subst q; exact k
    | i + 2 => simp at p
theorem mapEntE_run (h : M w0 K ro β H w) {t : TypeId} {m m' k k' v : Value} {H' : Heap} (hm : VR β m m') (hk : VR β k k') (he : mapEntE P ro H t m k = some (v, H')) :
    ∃ v' w1, (Instr.mapEntry t m' k').run P w = .ok v' w1 ∧ M w0 K ro β H' w1 ∧ VR β v v' := by
  unfold mapEntE at he
  split at he
  case h_2 => cases he
  rename_i kt et l hu
  split at he
  case h_2 => cases he
  rename_i es c hl hro
  cases hm with
  | map hb =>
  obtain ⟨es', a1, a2, a3⟩ := h.setMap hl hb
  split at he
  · rename_i hs
    split at he
    · rename_i z hz
      cases he
      obtain ⟨z1, z2⟩ := zeroV_run hz
      obtain ⟨rfl, b1, r', b2, b3⟩ := seekE_run (P := P) a2 hk hs
      rcases b3 with ⟨_, rfl⟩ | ⟨j, e, e', q, _⟩
      · exact ⟨_, _, by simp [Instr.mapEntry, run_underlying hu, run_getObj_map a1, b1, b2, z1, run_setObj_map a1, goInt], a3 _ _ _ hro (a2.push c hk (still_vr z2)), tuple2_vr (still_vr z2) (.int _ _)⟩
      · cases q
    · cases he
  · rename_i j v2 hs
    split at he
    · rename_i e hj
      split at he
      · rename_i hsb
        cases he
        obtain ⟨rfl, b1, r', b2, b3⟩ := seekE_run (P := P) a2 hk hs
        rcases b3 with ⟨q, _⟩ | ⟨j2, e2, e2', q, rfl, q3, q4, q5, q6, q7⟩
        · cases q
        · cases q
          rw [hj] at q3; cases q3
          have hkey : ((es'[j]?).map (·.key)).getD k' = e.key := by rw [q4]; exact q5
          have hst : ∀ w, (Instr.keyThatStays (((es'[j]?).map (·.key)).getD k') k').run P w = .ok k' w := fun w => by
            rw [hkey]; simp [Instr.keyThatStays, hsb]
          have hborn : ((es'[j]?).map (fun x => (x.born : Int))).getD 0 = e.born := by rw [q4]; simp [q6]
          refine ⟨.tuple #[e2'.val, goInt e.born], _, ?_, a3 _ _ _ hro (a2.set hj (e1 := ⟨k', e.val, e.born⟩) (f := fun e => { e with key := k' }) fun e0' h0 => ?_), tuple2_vr q7 (.int _ _)⟩
          · simp only [Instr.mapEntry, Sem.run_bind, run_underlying hu, Result.andThen_ok, run_getObj_map a1, b1, b2, hst, run_setObj_map a1, Sem.run_pure]
            have hb2 : (((es'[j]?).map (·.born)).getD 0 : Int) = e.born := by rw [q4]; simp [q6]
            simp [hb2]
          · rw [q4] at h0; cases h0
            exact ⟨q6, hk, q7⟩
      · cases he
    · cases he
  · cases he

def entStoreE (ro : Nat → Bool) (H : Heap) (m s v : Value) : Option Heap :=
  match m, s with
  | .map (some l), .int _ n =>
    match H[l]?, ro l with
    | some (some (.map es c)), false =>
      match es.toList.findIdx? (fun e => (e.born : Int) == n) with
      | some j => match es[j]? with
        | some e => some (H.set l (some (.map (es.setIfInBounds j ⟨e.key, v, e.born⟩) c)))
        | none => none
      | none => none
    | _, _ => none
  | _, _ => none
theorem entStoreE_run (h : M w0 K ro β H w) {t : TypeId} {m m' s s' v v' : Value} {H' : Heap} (hm : VR β m m') (hs : VR β s s') (hv : VR β v v') (he : entStoreE ro H m s v = some H') :
    ∃ w1, (Instr.entryStore t m' s' v').run P w = .ok () w1 ∧ M w0 K ro β H' w1 := by
  unfold entStoreE at he
  split at he
  case h_2 => cases he
  rename_i l kk n
  split at he
  case h_2 => cases he
  rename_i es c hl hro
  cases hs
  cases hm with
  | map hb =>
  obtain ⟨es', a1, a2, a3⟩ := h.setMap hl hb
  split at he
  case h_2 => cases he
  rename_i j hj
  split at he
  case h_2 => cases he
  rename_i e he2
  cases he
  have hj' : es'.findIdx? (fun e => (e.born : Int) == n) = some j := by
    have e1 : es'.findIdx? (fun e => (e.born : Int) == n) = es'.toList.findIdx? (fun e => (e.born : Int) == n) := by cases es'; simp
    rw [e1, a2.list.findIdx _ (fun e e' hb => by rw [hb])]; exact hj
  refine ⟨_, ?_, a3 _ _ _ hro (a2.set he2 (e1 := ⟨e.key, v, e.born⟩) (f := fun e => { e with val := v' }) fun e0' h0 => ?_)⟩
  · simp only [Instr.entryStore, Sem.run_bind, run_getObj_map a1, Result.andThen_ok, asInt, asIntOf, Sem.run_pure, hj', run_setObj_map a1]
  · obtain ⟨x, y, z⟩ := a2.2 j e e0' he2 h0
    exact ⟨x, y, hv⟩

/-! ### going through -/
def rangeE (P : Program) (H : Heap) (t : TypeId) (x : Value) : Option (Value × Heap) :=
  match P.underlying t, x with
  | some .string, .string s => some (.pointer (some ⟨H.length, 0, none⟩), H ++ [some (.stringIter s 0)])
  | some (.map _ _), .map none => some (.pointer (some ⟨H.length, 0, none⟩), H ++ [some (.mapIter none 0 #[] 0)])
  | some (.map _ _), .map (some l) =>
    match H[l]? with
    | some (some (.map _ c)) => some (.pointer (some ⟨H.length, 0, none⟩), H ++ [some (.mapIter (some l) c #[] c)])
    | _ => none
  | _, _ => none
theorem rangeE_run (h : M w0 K ro β H w) {t : TypeId} {x x' v : Value} {H' : Heap} (hx : VR β x x') (he : rangeE P H t x = some (v, H')) :
    ∃ v' w1 β', (Instr.range t x').run P w = .ok v' w1 ∧ Ext β β' ∧ M w0 K ro β' H' w1 ∧ VR β' v v' := by
  unfold rangeE at he
  split at he
  · rename_i s hu
    cases he
    cases hx
    exact ⟨_, w.alloc (.stringIter s 0), _, by simp [Instr.range, run_underlying hu], Ext.push _ _, h.alloc 0 _ _ (.stringIter s 0 rfl), new_ptr h _⟩
  · rename_i hu
    cases he
    cases hx
    exact ⟨_, w.alloc (.mapIter none 0 #[] 0), _, by simp [Instr.range, run_underlying hu], Ext.push _ _, h.alloc 0 _ _ (.mapIterN rfl), new_ptr h _⟩
  · rename_i l hu
    split at he
    · rename_i es c hl
      cases he
      cases hx with
      | map hb =>
        rename_i b
        obtain ⟨es', a1, a2, a3⟩ := h.setMap hl hb
        exact ⟨_, w.alloc (.mapIter (some b) c #[] c), _, by simp [Instr.range, run_underlying hu, run_getObj_map a1], Ext.push _ _, h.alloc 0 _ _ (.mapIter rfl (hb.mono (Ext.push _ _))), new_ptr h _⟩
    · cases he
  · cases he


theorem OR.iter {p : Spot} {o o' : Obj} (h : OR β p o o') (ho : (∃ s k, o = .stringIter s k) ∨ ∃ m a b c, o = .mapIter m a b c) : p.s = 0 := by
  rcases ho with ⟨s, k, rfl⟩ | ⟨m, a, b, c, rfl⟩
  · cases h; assumption
  · cases h <;> assumption

def nextE (ro : Nat → Bool) (H : Heap) (it : Value) (str : Bool) : Option (Value × Heap) :=
  match it with
  | .pointer (some ⟨r, 0, none⟩) =>
    match H[r]?, str with
    | some (some (.stringIter s pos)), true =>
      if pos < s.size ∧ ro r = false then some (.tuple #[.bool true, goInt pos, .int .i32 (Utf8.decode s pos).1], H.set r (some (.stringIter s (pos + (Utf8.decode s pos).2))))
      else if pos < s.size then none else some (.tuple #[.bool false], H)
    | some (some (.mapIter none _ _ _)), false => some (.tuple #[.bool false], H)
    | some (some (.mapIter (some m) since seen last)), false =>
      match H[m]? with
      | some (some (.map es clock)) =>
        if (!seen.isEmpty && !es.toList.isEmpty && es.toList.all (fun e => decide (e.born ≥ last))) = true then none
        else
          match (es.toList.filter fun e => !seen.contains e.born).filter (fun e => decide (e.born < since)), (es.toList.filter fun e => !seen.contains e.born).filter (fun e => decide (e.born ≥ since)) with
          | [], [] => some (.tuple #[.bool false], H)
          | [e], [] => if ro r = true then none else some (.tuple #[.bool true, e.key, e.val], H.set r (some (.mapIter (some m) since (seen.push e.born) clock)))
          | _, _ => none
      | _ => none
    | _, _ => none
  | _ => none

theorem tuple3_vr {a a' b b' c c' : Value} (h : VR β a a') (k : VR β b b') (m : VR β c c') : VR β (.tuple #[a, b, c]) (.tuple #[a', b', c']) :=
  .tuple rfl fun i x y p q => by
    match i with
    | 0 => simp at p q; subst p; subst q; exact h
    | 1 => simp at p q; subst p; subst q; exact k
    | 2 => simp at p q; subst p; subst q; exact m
    | i + 3 => simp at p
theorem tuple1_vr {a a' : Value} (h : VR β a a') : VR β (.tuple #[a]) (.tuple #[a']) :=
  .tuple rfl fun i x y p q => by
    match i with
    | 0 => simp at p q; subst p; subst q; exact h
    | i + 1 => simp at p

theorem M.iter (h : M w0 K ro β H w) {r : Nat} {o : Obj} {v' : Value} (hl : H[r]? = some (some o)) (hv : VR β (.pointer (some ⟨r, 0, none⟩)) v') (ho : (∃ s k, o = .stringIter s k) ∨ ∃ m a b c, o = .mapIter m a b c) :
    ∃ p o', β[r]? = some (some p) ∧ v' = .pointer (some ⟨p.b, 0, none⟩) ∧ w.heap[p.b]? = some o' ∧ OR β p o o' := by
  obtain ⟨p, o', h1, h2, h3⟩ := h.obj r o hl
  cases hv with
  | ptr k =>
    obtain ⟨_, rfl⟩ := k.live h1
    exact ⟨p, o', h1, by simp [h3.iter ho], h2, h3⟩

theorem EsL.nil_of {l' : List MapEntry} (h : EsL β [] l') : l' = [] := by cases h; rfl
theorem EsL.one_of {e : MapEntry} {l' : List MapEntry} (h : EsL β [e] l') : ∃ e', l' = [e'] ∧ e'.born = e.born ∧ VR β e.key e'.key ∧ VR β e.val e'.val := by
  cases h with
  | cons x y z t => cases t; exact ⟨_, rfl, x, y, z⟩
theorem nextE_run (h : M w0 K ro β H w) {it it' v : Value} {str : Bool} {t : TypeId} {H' : Heap} (hi : VR β it it') (he : nextE ro H it str = some (v, H')) :
    ∃ v' w1, (Instr.next it' str t).run P w = .ok v' w1 ∧ M w0 K ro β H' w1 ∧ VR β v v' := by
  unfold nextE at he
  split at he
  case h_2 => cases he
  rename_i r
  split at he
  · rename_i s pos hl
    obtain ⟨p, o', a1, rfl, a3, a4⟩ := h.iter hl hi (.inl ⟨_, _, rfl⟩)
    have hs := a4.iter (.inl ⟨_, _, rfl⟩)
    cases a4
    have hg : (getObj p.b).run P w = .ok (.stringIter s pos) w := by simp only [getObj, Sem.run, a3]
    split at he
    · rename_i hp
      obtain ⟨hp, hro⟩ := hp
      cases he
      refine ⟨_, { w with heap := w.heap.setIfInBounds p.b (.stringIter s (pos + (Utf8.decode s pos).2)) }, ?_, h.turn a1 hro _ _ (Chg.setObj w p.b _) (setObj_at a3) (.stringIter _ _ hs), tuple3_vr (.bool _) (.int _ _) (.int _ _)⟩
      have hso : (setObj p.b (.stringIter s (pos + (Utf8.decode s pos).2))).run P w = .ok () { w with heap := w.heap.setIfInBounds p.b (.stringIter s (pos + (Utf8.decode s pos).2)) } := by simp only [setObj, Sem.run, a3]
      simp [Instr.next, hg, hp, hso, goInt]
    · split at he
      · cases he
      rename_i hp
      cases he
      exact ⟨_, w, by simp [Instr.next, hg, hp], h, tuple1_vr (.bool _)⟩
  · rename_i a b c hl
    obtain ⟨p, o', a1, rfl, a3, a4⟩ := h.iter hl hi (.inr ⟨_, _, _, _, rfl⟩)
    cases a4
    cases he
    have hg : (getObj p.b).run P w = .ok (.mapIter none a b c) w := by simp only [getObj, Sem.run, a3]
    exact ⟨_, w, by simp [Instr.next, hg], h, tuple1_vr (.bool _)⟩
  · rename_i m since seen last hl
    obtain ⟨p, o', a1, rfl, a3, a4⟩ := h.iter hl hi (.inr ⟨_, _, _, _, rfl⟩)
    have hs := a4.iter (.inr ⟨_, _, _, _, rfl⟩)
    split at he
    case h_2 => cases he
    rename_i es clock hm
    cases a4 with
    | mapIter hs2 hb =>
    rename_i b
    obtain ⟨es', c1, c2, c3⟩ := h.setMap hm hb
    have hg : (getObj p.b).run P w = .ok (.mapIter (some b) since seen last) w := by simp only [getObj, Sem.run, a3]
    have hgm := run_getObj_map (P := P) c1
    have hL := c2.list
    have hall : es'.all (fun e => decide (e.born ≥ last)) = es.toList.all (fun e => decide (e.born ≥ last)) := by
      rw [← Array.all_toList]; exact hL.all _ (fun e e' hb => by rw [hb])
    have hemp : es'.isEmpty = es.toList.isEmpty := by
      have := c2.1
      cases es; cases es'
      rename_i l l'
      cases l <;> cases l' <;> simp at this ⊢
    split at he
    · cases he
    · rename_i hbad
      have hbad' : (!seen.isEmpty && !es'.isEmpty && es'.all (fun e => decide (e.born ≥ last))) = false := by rw [hemp, hall]; simpa using hbad
      have hleft := hL.filter (fun e => !seen.contains e.born) (fun e e' hb => by rw [hb])
      have hold := hleft.filter (fun e => decide (e.born < since)) (fun e e' hb => by rw [hb])
      have hnew := hleft.filter (fun e => decide (e.born ≥ since)) (fun e e' hb => by rw [hb])
      have eold : (es'.filter fun e => !seen.contains e.born).filter (fun e => decide (e.born < since)) = ((es'.toList.filter fun e => !seen.contains e.born).filter (fun e => decide (e.born < since))).toArray := by
        apply Array.ext'; simp
      have enew : (es'.filter fun e => !seen.contains e.born).filter (fun e => decide (e.born ≥ since)) = ((es'.toList.filter fun e => !seen.contains e.born).filter (fun e => decide (e.born ≥ since))).toArray := by
        apply Array.ext'; simp
      split at he
      · rename_i q1 q2
        cases he
        rw [q1] at hold; rw [q2] at hnew
        have o1 : (es'.toList.filter fun e => !seen.contains e.born).filter (fun e => decide (e.born < since)) = [] := hold.nil_of
        have o2 : (es'.toList.filter fun e => !seen.contains e.born).filter (fun e => decide (e.born ≥ since)) = [] := hnew.nil_of
        rw [o1] at eold; rw [o2] at enew
        refine ⟨_, w, ?_, h, tuple1_vr (.bool false)⟩
        simp only [Instr.next, Sem.run_bind, hg, Result.andThen_ok, hgm]
        rw [hbad']
        simp only [Bool.false_eq_true, if_false]
        rw [eold, enew]
        simp [choose, Sem.run, Question.forced]
      · rename_i e q1 q2
        split at he
        · cases he
        rename_i hro
        cases he
        rw [q1] at hold; rw [q2] at hnew
        obtain ⟨e', o1, b1, b2, b3⟩ : ∃ e', (es'.toList.filter fun e => !seen.contains e.born).filter (fun e => decide (e.born < since)) = [e'] ∧ e'.born = e.born ∧ VR β e.key e'.key ∧ VR β e.val e'.val := hold.one_of
        have o2 : (es'.toList.filter fun e => !seen.contains e.born).filter (fun e => decide (e.born ≥ since)) = [] := hnew.nil_of
        rw [o1] at eold; rw [o2] at enew
        have hso : (setObj p.b (.mapIter (some b) since (seen.push e.born) clock)).run P w = .ok () { w with heap := w.heap.setIfInBounds p.b (.mapIter (some b) since (seen.push e.born) clock) } := by simp only [setObj, Sem.run, a3]
        refine ⟨_, _, ?_, h.turn a1 (by simpa using hro) _ _ (Chg.setObj w p.b _) (setObj_at a3) (.mapIter hs hb), tuple3_vr (.bool true) b2 b3⟩
        simp only [Instr.next, Sem.run_bind, hg, Result.andThen_ok, hgm]
        rw [hbad']
        simp only [Bool.false_eq_true, if_false]
        rw [eold, enew]
        simp [choose, Sem.run, Question.forced, b1, hso]
      · cases he
  · cases he

def entE (H : Heap) (it : Value) : Option Value :=
  match it with
  | .pointer (some ⟨r, 0, none⟩) =>
    match H[r]? with
    | some (some (.mapIter (some m) _ seen last)) =>
      match H[m]?, seen.back? with
      | some (some (.map es clock)), some stamp =>
        if clock = last then match es.toList.find? (fun e => e.born == stamp) with
          | some e => some (.tuple #[e.key, e.val])
          | none => none
        else none
      | _, _ => none
    | _ => none
  | _ => none
theorem entE_run (h : M w0 K ro β H w) {it it' v : Value} (hi : VR β it it') (he : entE H it = some v) : ∃ v', (Instr.entry it').run P w = .ok v' w ∧ VR β v v' := by
  unfold entE at he
  split at he
  case h_2 => cases he
  rename_i r
  split at he
  case h_2 => cases he
  rename_i m since seen last hl
  obtain ⟨p, o', a1, rfl, a3, a4⟩ := h.iter hl hi (.inr ⟨_, _, _, _, rfl⟩)
  split at he
  case h_2 => cases he
  rename_i es clock stamp hm hst
  split at he
  case isFalse => cases he
  rename_i hc
  split at he
  case h_2 => cases he
  rename_i e hf
  cases he
  cases a4 with
  | mapIter hs2 hb =>
  rename_i b
  obtain ⟨es', c1, c2, c3⟩ := h.setMap hm hb
  have hg : (getObj p.b).run P w = .ok (.mapIter (some b) since seen last) w := by simp only [getObj, Sem.run, a3]
  have hgm := run_getObj_map (P := P) c1
  obtain ⟨e', f1, f2, f3, f4⟩ := (c2.list.find (fun e => e.born == stamp) (fun e e' hb => by rw [hb])).2 e hf
  have f1' : es'.find? (fun e => e.born == stamp) = some e' := by rw [← Array.find?_toList]; exact f1
  refine ⟨_, ?_, tuple2_vr f3 f4⟩
  simp [Instr.entry, hg, hst, hgm, hc, f1']
end
end Go.Proofs.YthbkjhacnnoolaaDoorZev
end

/- Maps whose keys are rows of whole numbers, some of them symbols. No condition. -/
section
namespace Go.Proofs.YthbkjhacnnoolaaDoorZev
open Go.RowKit
set_option linter.unusedVariables false
set_option linter.unusedSectionVars false
variable [Sym] [Kin] [Glob]

section
variable {P : Program} {w0 w w1 : World} {K : Nat → Prop} {ro : Nat → Bool} {β : Env} {H : Heap}

theorem EsL.vals {l l' : List MapEntry} (h : EsL β l l') : EsV β l l' := by
  induction h with
  | nil => exact .nil
  | cons _ b _ _ ih => exact .cons b ih

/-- a map's entries -/
def mapES (H : Heap) (x : Value) : Option (List MapEntry) :=
  match x with
  | .map none => some []
  | .map (some l) => match H[l]? with
    | some (some (.map es _)) => some es.toList
    | _ => none
  | _ => none
theorem mapES_run (h : M w0 K ro β H w) {x x' : Value} {l : List MapEntry} (hx : VR β x x') (he : mapES H x = some l) :
    ∃ l', EsL β l l' ∧ (x' = .map none ∧ l' = [] ∨ ∃ b es k, x' = .map (some b) ∧ w.heap[b]? = some (.map es k) ∧ es.toList = l') := by
  unfold mapES at he
  split at he
  · cases he; cases hx; exact ⟨[], .nil, .inl ⟨rfl, rfl⟩⟩
  · split at he
    · rename_i la es k hl
      cases he
      cases hx with
      | map hb =>
        obtain ⟨es', a1, a2, a3⟩ := h.setMap hl hb
        exact ⟨es'.toList, a2.list, .inr ⟨_, es', k, rfl, a1, rfl⟩⟩
    · cases he
  · cases he

def lookS (P : Program) (H : Heap) (t : TypeId) (x ix : Value) (ok : Bool) : Option Value :=
  match P.underlying t with
  | some (.map kt et) =>
    match mapES H x with
    | some l =>
      if rowKey P kt ix = true then
        match findS P kt ix l 0 with
        | some none => match zeroV P et with
          | some z => some (if ok then .tuple #[z, .bool false] else z)
          | none => none
        | some (some (_, v)) => some (if ok then .tuple #[v, .bool true] else v)
        | none => none
      else none
    | none => none
  | _ => none
theorem lookS_run (h : M w0 K ro β H w) {t : TypeId} {x x' ix ix' v : Value} {ok : Bool} (hx : VR β x x') (hi : VR β ix ix') (he : lookS P H t x ix ok = some v) :
    ∃ v', (Instr.lookup t x' ix' ok).run P w = .ok v' w ∧ VR β v v' := by
  unfold lookS at he
  split at he
  case h_2 => cases he
  rename_i kt et hu
  split at he
  case h_2 => cases he
  rename_i l hl
  split at he
  case isFalse => cases he
  rename_i hf
  obtain ⟨l', k1, k5⟩ := mapES_run h hx hl
  have hrun : ∀ r', (∀ b w, (Instr.checkKey b 10000 kt ix').run P w = .ok () w) → (∀ w, (Instr.findKey kt ix' l').run P w = .ok r' w) →
      (Instr.lookup t x' ix' ok).run P w = ((do
        let (v, b) ← match r' with
          | some (_, v) => pure (v, true)
          | none => pure (← zeroValue et, false)
        pure (if ok then .tuple #[v, .bool b] else v) : Sem Value).run P w) := by
    intro r' c1 c2
    rcases k5 with ⟨rfl, rfl⟩ | ⟨b, es, k, rfl, hb, rfl⟩
    · simp [Instr.lookup, run_underlying hu, c1, c2]
      cases r' <;> rfl
    · simp [Instr.lookup, run_underlying hu, getObj, Sem.run, hb, c1, c2]
      cases r' <;> rfl
  split at he
  · rename_i hfk
    split at he
    · rename_i z hz
      cases he
      obtain ⟨z1, z2⟩ := zeroV_run hz
      obtain ⟨c1, r', c2, c3⟩ := findKeyS_run hi hf k1.vals hfk
      rcases c3 with ⟨_, rfl⟩ | ⟨j, e, e', q, _⟩
      · rw [hrun none c1 c2]
        cases ok with
        | true => exact ⟨.tuple #[z, .bool false], by simp [z1], tuple2_vr (still_vr z2) (.bool _)⟩
        | false => exact ⟨z, by simp [z1], still_vr z2⟩
      · cases q
    · cases he
  · rename_i j v2 hfk
    cases he
    obtain ⟨c1, r', c2, c3⟩ := findKeyS_run hi hf k1.vals hfk
    rcases c3 with ⟨q, _⟩ | ⟨j, e, e', q, rfl, q2, q3, _⟩
    · cases q
    · cases q
      rw [hrun _ c1 c2]
      obtain ⟨e2, p1, p2, p3, p4⟩ := k1.at j e q2
      rw [q3] at p1; cases p1
      cases ok with
      | true => exact ⟨.tuple #[e'.val, .bool true], by simp, tuple2_vr p4 (.bool _)⟩
      | false => exact ⟨e'.val, by simp, p4⟩
  · cases he

/-- where a key is, and that it is the same there -/
theorem seekS_run {kt : TypeId} {k k' : Value} {es es' : Array MapEntry} {r : Option (Nat × Value)} (he : EsR β es es') (hk : VR β k k') (hr : rowKey P kt k = true) (hs : findS P kt k es.toList 0 = some r) :
    (∀ b w, (Instr.checkKey b 10000 kt k').run P w = .ok () w) ∧ (∃ r', (∀ w, (Instr.findKey kt k' es'.toList).run P w = .ok r' w) ∧
      ((r = none ∧ r' = none) ∨ ∃ j e e', r = some (j, e.val) ∧ r' = some (j, e'.val) ∧ es[j]? = some e ∧ es'[j]? = some e' ∧ e'.key = k' ∧ Instr.sameBits 10000 k' k' = true ∧ e'.born = e.born ∧ VR β e.val e'.val)) := by
  obtain ⟨c1, r', c2, c3⟩ := findKeyS_run hk hr he.list.vals hs
  refine ⟨c1, r', c2, ?_⟩
  rcases c3 with c3 | ⟨j, e, e', q1, q2, q3, q4, q5⟩
  · exact .inl c3
  · rw [Array.getElem?_toList] at q3 q4
    obtain ⟨x, y, z⟩ := he.2 j e e' q3 q4
    obtain ⟨s1, kk, c, zz, s2, s3⟩ := eqS_same hk y q5
    exact .inr ⟨j, e, e', q1, q2, q3, q4, s1.symm, by rw [s2]; exact sameBits_row s3, x, z⟩

def updS (P : Program) (ro : Nat → Bool) (H : Heap) (t : TypeId) (m k v : Value) : Option Heap :=
  match P.underlying t, m with
  | some (.map kt _), .map (some l) =>
    match H[l]?, ro l with
    | some (some (.map es c)), false =>
      if rowKey P kt k = true then
        match findS P kt k es.toList 0 with
        | some none => some (H.set l (some (.map (es.push ⟨k, v, c⟩) (c + 1))))
        | some (some (j, _)) => match es[j]? with
          | some e => some (H.set l (some (.map (es.setIfInBounds j ⟨k, v, e.born⟩) c)))
          | none => none
        | none => none
      else none
    | _, _ => none
  | _, _ => none
theorem updS_run (h : M w0 K ro β H w) {t : TypeId} {m m' k k' v v' : Value} {H' : Heap} (hm : VR β m m') (hk : VR β k k') (hv : VR β v v') (he : updS P ro H t m k v = some H') :
    ∃ w1, (Instr.mapUpdate t m' k' v').run P w = .ok () w1 ∧ M w0 K ro β H' w1 := by
  unfold updS at he
  split at he
  case h_2 => cases he
  rename_i kt et l hu
  split at he
  case h_2 => cases he
  rename_i es c hl hro
  split at he
  case isFalse => cases he
  rename_i hf
  cases hm with
  | map hb =>
  obtain ⟨es', a1, a2, a3⟩ := h.setMap hl hb
  split at he
  · rename_i hs
    cases he
    obtain ⟨b1, r', b2, b3⟩ := seekS_run (P := P) a2 hk hf hs
    rcases b3 with ⟨_, rfl⟩ | ⟨j, e, e', q, _⟩
    · exact ⟨_, by simp [Instr.mapUpdate, run_underlying hu, run_getObj_map a1, b1, b2, run_setObj_map a1], a3 _ _ _ hro (a2.push c hk hv)⟩
    · cases q
  · rename_i j v2 hs
    split at he
    · rename_i e hj
      cases he
      obtain ⟨b1, r', b2, b3⟩ := seekS_run (P := P) a2 hk hf hs
      rcases b3 with ⟨q, _⟩ | ⟨j2, e2, e2', q, rfl, q3, q4, q5, q6, q7, q8⟩
      · cases q
      · cases q
        rw [hj] at q3; cases q3
        have hkey : ((es'[j]?).map (·.key)).getD k' = k' := by rw [q4]; exact q5
        have hst : ∀ w, (Instr.keyThatStays (((es'[j]?).map (·.key)).getD k') k').run P w = .ok k' w := fun w => by
          rw [hkey]; simp [Instr.keyThatStays, q6]
        refine ⟨_, ?_, a3 _ _ _ hro (a2.set hj (e1 := ⟨k, v, e.born⟩) (f := fun e => { e with key := k', val := v' }) fun e0' h0 => ?_)⟩
        · simp only [Instr.mapUpdate, Sem.run_bind, run_underlying hu, Result.andThen_ok, run_getObj_map a1, b1, b2, hst, run_setObj_map a1]
        · rw [q4] at h0; cases h0
          exact ⟨q7, hk, hv⟩
    · cases he
  · cases he

def mapEntS (P : Program) (ro : Nat → Bool) (H : Heap) (t : TypeId) (m k : Value) : Option (Value × Heap) :=
  match P.underlying t, m with
  | some (.map kt et), .map (some l) =>
    match H[l]?, ro l with
    | some (some (.map es c)), false =>
      if rowKey P kt k = true then
        match findS P kt k es.toList 0 with
        | some none => match zeroV P et with
          | some z => some (.tuple #[z, goInt c], H.set l (some (.map (es.push ⟨k, z, c⟩) (c + 1))))
          | none => none
        | some (some (j, v)) => match es[j]? with
          | some e => some (.tuple #[e.val, goInt e.born], H.set l (some (.map (es.setIfInBounds j ⟨k, e.val, e.born⟩) c)))
          | none => none
        | none => none
      else none
    | _, _ => none
  | _, _ => none
theorem mapEntS_run (h : M w0 K ro β H w) {t : TypeId} {m m' k k' v : Value} {H' : Heap} (hm : VR β m m') (hk : VR β k k') (he : mapEntS P ro H t m k = some (v, H')) :
    ∃ v' w1, (Instr.mapEntry t m' k').run P w = .ok v' w1 ∧ M w0 K ro β H' w1 ∧ VR β v v' := by
  unfold mapEntS at he
  split at he
  case h_2 => cases he
  rename_i kt et l hu
  split at he
  case h_2 => cases he
  rename_i es c hl hro
  split at he
  case isFalse => cases he
  rename_i hf
  cases hm with
  | map hb =>
  obtain ⟨es', a1, a2, a3⟩ := h.setMap hl hb
  split at he
  · rename_i hs
    split at he
    · rename_i z hz
      cases he
      obtain ⟨z1, z2⟩ := zeroV_run hz
      obtain ⟨b1, r', b2, b3⟩ := seekS_run (P := P) a2 hk hf hs
      rcases b3 with ⟨_, rfl⟩ | ⟨j, e, e', q, _⟩
      · exact ⟨_, _, by simp [Instr.mapEntry, run_underlying hu, run_getObj_map a1, b1, b2, z1, run_setObj_map a1, goInt], a3 _ _ _ hro (a2.push c hk (still_vr z2)), tuple2_vr (still_vr z2) (.int _ _)⟩
      · cases q
    · cases he
  · rename_i j v2 hs
    split at he
    · rename_i e hj
      cases he
      obtain ⟨b1, r', b2, b3⟩ := seekS_run (P := P) a2 hk hf hs
      rcases b3 with ⟨q, _⟩ | ⟨j2, e2, e2', q, rfl, q3, q4, q5, q6, q7, q8⟩
      · cases q
      · cases q
        rw [hj] at q3; cases q3
        have hkey : ((es'[j]?).map (·.key)).getD k' = k' := by rw [q4]; exact q5
        have hst : ∀ w, (Instr.keyThatStays (((es'[j]?).map (·.key)).getD k') k').run P w = .ok k' w := fun w => by
          rw [hkey]; simp [Instr.keyThatStays, q6]
        have hb2 : (((es'[j]?).map (·.born)).getD 0 : Int) = e.born := by rw [q4]; simp [q7]
        refine ⟨.tuple #[e2'.val, goInt e.born], _, ?_, a3 _ _ _ hro (a2.set hj (e1 := ⟨k, e.val, e.born⟩) (f := fun e => { e with key := k' }) fun e0' h0 => ?_), tuple2_vr q8 (.int _ _)⟩
        · simp only [Instr.mapEntry, Sem.run_bind, run_underlying hu, Result.andThen_ok, run_getObj_map a1, b1, b2, hst, run_setObj_map a1, Sem.run_pure]
          simp [hb2]
        · rw [q4] at h0; cases h0
          exact ⟨q7, hk, q8⟩
    · cases he
  · cases he

def delS (P : Program) (ro : Nat → Bool) (H : Heap) (ts : Array TypeId) (m k : Value) : Option Heap :=
  match ts[0]? with
  | some t => match P.underlying t, m with
    | some (.map kt _), .map (some l) =>
      match H[l]?, ro l with
      | some (some (.map es c)), false =>
        if rowKey P kt k = true then
          match findS P kt k es.toList 0 with
          | some none => some H
          | some (some (j, _)) => some (H.set l (some (.map (es.toList.eraseIdx j).toArray c)))
          | none => none
        else none
      | _, _ => none
    | _, _ => none
  | none => none
theorem delS_run (h : M w0 K ro β H w) {ts : Array TypeId} {ty : TypeId} {m m' k k' : Value} {H' : Heap} (hm : VR β m m') (hk : VR β k k') (he : delS P ro H ts m k = some H') :
    ∃ w1, (Builtin.delete_ ts ty #[m', k']).run P w = .ok (.tuple #[]) w1 ∧ M w0 K ro β H' w1 := by
  unfold delS at he
  split at he
  case h_2 => cases he
  rename_i t h0
  split at he
  case h_2 => cases he
  rename_i kt et l hu
  split at he
  case h_2 => cases he
  rename_i es c hl hro
  split at he
  case isFalse => cases he
  rename_i hf
  cases hm with
  | map hb =>
  rename_i b
  obtain ⟨es', a1, a2, a3⟩ := h.setMap hl hb
  split at he
  · rename_i hs
    cases he
    obtain ⟨b1, r', b2, b3⟩ := seekS_run (P := P) a2 hk hf hs
    rcases b3 with ⟨_, rfl⟩ | ⟨j, e, e', q, _⟩
    · refine ⟨{ w with heap := w.heap.setIfInBounds b (.map es' c) }, ?_, h.of_heap ?_ rfl rfl rfl⟩
      · simp [Builtin.delete_, h0, run_underlying hu, run_getObj_map a1, b1, b2, run_setObj_map a1]
      · apply Array.ext_getElem?
        intro i
        simp only [Array.getElem?_setIfInBounds]
        split
        · rename_i hi; subst hi
          rw [if_pos (lt_of_heap a1), a1]
        · rfl
    · cases q
  · rename_i j v2 hs
    cases he
    obtain ⟨b1, r', b2, b3⟩ := seekS_run (P := P) a2 hk hf hs
    rcases b3 with ⟨q, _⟩ | ⟨j2, e2, e2', q, rfl, q3, q4, _⟩
    · cases q
    · cases q
      refine ⟨{ w with heap := w.heap.setIfInBounds b (.map (es'.eraseIdxIfInBounds j) c) }, ?_, a3 _ _ _ hro ?_⟩
      · simp [Builtin.delete_, h0, run_underlying hu, run_getObj_map a1, b1, b2, run_setObj_map a1]
      · have hx := (a2.list.erase j).arr
        have hj : j < es'.size := (Array.getElem?_eq_some_iff.1 q4).1
        have e1 : es'.eraseIdxIfInBounds j = (es'.toList.eraseIdx j).toArray := by
          apply Array.ext'
          rw [Array.eraseIdxIfInBounds, dif_pos hj]
          simp
        rw [e1]; exact hx
  · cases he
end
end Go.Proofs.YthbkjhacnnoolaaDoorZev
end
