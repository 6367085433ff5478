/- Maps whose keys are rows of whole numbers, some of them symbols. No condition. -/
import Derived.Test.YtfolamkjlgpgmaaDoorZev12
namespace Go.Proofs.YtfolamkjlgpgmaaDoorZev
open Go.RowKit
set_option linter.unusedVariables false
set_option linter.unusedSectionVars false
variable [Sym] [Kin] [Glob]

section
variable {P : Program} {w0 w w1 : World} {K : Nat → Prop} {ro : Nat → Bool} {β : Env} {H : Heap}

theorem EsL.vals {l l' : List MapEntry} (h : EsL β l l') : EsV β l l' := by
  induction h with
  | nil => exact .nil
  | cons _ b _ _ ih => exact .cons b ih

/-- a map's entries -/
def mapES (H : Heap) (x : Value) : Option (List MapEntry) :=
  match x with
  | .map none => some []
  | .map (some l) => match H[l]? with
    | some (some (.map es _)) => some es.toList
    | _ => none
  | _ => none
theorem mapES_run (h : M w0 K ro β H w) {x x' : Value} {l : List MapEntry} (hx : VR β x x') (he : mapES H x = some l) :
    ∃ l', EsL β l l' ∧ (x' = .map none ∧ l' = [] ∨ ∃ b es k, x' = .map (some b) ∧ w.heap[b]? = some (.map es k) ∧ es.toList = l') := by
  unfold mapES at he
  split at he
  · cases he; cases hx; exact ⟨[], .nil, .inl ⟨rfl, rfl⟩⟩
  · split at he
    · rename_i la es k hl
      cases he
      cases hx with
      | map hb =>
        obtain ⟨es', a1, a2, a3⟩ := h.setMap hl hb
        exact ⟨es'.toList, a2.list, .inr ⟨_, es', k, rfl, a1, rfl⟩⟩
    · cases he
  · cases he

def lookS (P : Program) (H : Heap) (t : TypeId) (x ix : Value) (ok : Bool) : Option Value :=
  match P.underlying t with
  | some (.map kt et) =>
    match mapES H x with
    | some l =>
      if rowKey P kt ix = true then
        match findS P kt ix l 0 with
        | some none => match zeroV P et with
          | some z => some (if ok then .tuple #[z, .bool false] else z)
          | none => none
        | some (some (_, v)) => some (if ok then .tuple #[v, .bool true] else v)
        | none => none
      else none
    | none => none
  | _ => none
theorem lookS_run (h : M w0 K ro β H w) {t : TypeId} {x x' ix ix' v : Value} {ok : Bool} (hx : VR β x x') (hi : VR β ix ix') (he : lookS P H t x ix ok = some v) :
    ∃ v', (Instr.lookup t x' ix' ok).run P w = .ok v' w ∧ VR β v v' := by
  unfold lookS at he
  split at he
  case h_2 => cases he
  rename_i kt et hu
  split at he
  case h_2 => cases he
  rename_i l hl
  split at he
  case isFalse => cases he
  rename_i hf
  obtain ⟨l', k1, k5⟩ := mapES_run h hx hl
  have hrun : ∀ r', (∀ b w, (Instr.checkKey b 10000 kt ix').run P w = .ok () w) → (∀ w, (Instr.findKey kt ix' l').run P w = .ok r' w) →
      (Instr.lookup t x' ix' ok).run P w = ((do
        let (v, b) ← match r' with
          | some (_, v) => pure (v, true)
          | none => pure (← zeroValue et, false)
        pure (if ok then .tuple #[v, .bool b] else v) : Sem Value).run P w) := by
    intro r' c1 c2
    rcases k5 with ⟨rfl, rfl⟩ | ⟨b, es, k, rfl, hb, rfl⟩
    · simp [Instr.lookup, run_underlying hu, c1, c2]
      cases r' <;> rfl
    · simp [Instr.lookup, run_underlying hu, getObj, Sem.run, hb, c1, c2]
      cases r' <;> rfl
  split at he
  · rename_i hfk
    split at he
    · rename_i z hz
      cases he
      obtain ⟨z1, z2⟩ := zeroV_run hz
      obtain ⟨c1, r', c2, c3⟩ := findKeyS_run hi hf k1.vals hfk
      rcases c3 with ⟨_, rfl⟩ | ⟨j, e, e', q, _⟩
      · rw [hrun none c1 c2]
        cases ok with
        | true => exact ⟨.tuple #[z, .bool false], by simp [z1], tuple2_vr (still_vr z2) (.bool _)⟩
        | false => exact ⟨z, by simp [z1], still_vr z2⟩
      · cases q
    · cases he
  · rename_i j v2 hfk
    cases he
    obtain ⟨c1, r', c2, c3⟩ := findKeyS_run hi hf k1.vals hfk
    rcases c3 with ⟨q, _⟩ | ⟨j, e, e', q, rfl, q2, q3, _⟩
    · cases q
    · cases q
      rw [hrun _ c1 c2]
      obtain ⟨e2, p1, p2, p3, p4⟩ := k1.at j e q2
      rw [q3] at p1; cases p1
      cases ok with
      | true => exact ⟨.tuple #[e'.val, .bool true], by simp, tuple2_vr p4 (.bool _)⟩
      | false => exact ⟨e'.val, by simp, p4⟩
  · cases he

/-- where a key is, and that it is the same there -/
theorem seekS_run {kt : TypeId} {k k' : Value} {es es' : Array MapEntry} {r : Option (Nat × Value)} (he : EsR β es es') (hk : VR β k k') (hr : rowKey P kt k = true) (hs : findS P kt k es.toList 0 = some r) :
    (∀ b w, (Instr.checkKey b 10000 kt k').run P w = .ok () w) ∧ (∃ r', (∀ w, (Instr.findKey kt k' es'.toList).run P w = .ok r' w) ∧
      ((r = none ∧ r' = none) ∨ ∃ j e e', r = some (j, e.val) ∧ r' = some (j, e'.val) ∧ es[j]? = some e ∧ es'[j]? = some e' ∧ e'.key = k' ∧ Instr.sameBits 10000 k' k' = true ∧ e'.born = e.born ∧ VR β e.val e'.val)) := by
  obtain ⟨c1, r', c2, c3⟩ := findKeyS_run hk hr he.list.vals hs
  refine ⟨c1, r', c2, ?_⟩
  rcases c3 with c3 | ⟨j, e, e', q1, q2, q3, q4, q5⟩
  · exact .inl c3
  · rw [Array.getElem?_toList] at q3 q4
    obtain ⟨x, y, z⟩ := he.2 j e e' q3 q4
    obtain ⟨s1, kk, c, zz, s2, s3⟩ := eqS_same hk y q5
    exact .inr ⟨j, e, e', q1, q2, q3, q4, s1.symm, by rw [s2]; exact sameBits_row s3, x, z⟩

def updS (P : Program) (ro : Nat → Bool) (H : Heap) (t : TypeId) (m k v : Value) : Option Heap :=
  match P.underlying t, m with
  | some (.map kt _), .map (some l) =>
    match H[l]?, ro l with
    | some (some (.map es c)), false =>
      if rowKey P kt k = true then
        match findS P kt k es.toList 0 with
        | some none => some (H.set l (some (.map (es.push ⟨k, v, c⟩) (c + 1))))
        | some (some (j, _)) => match es[j]? with
          | some e => some (H.set l (some (.map (es.setIfInBounds j ⟨k, v, e.born⟩) c)))
          | none => none
        | none => none
      else none
    | _, _ => none
  | _, _ => none
theorem updS_run (h : M w0 K ro β H w) {t : TypeId} {m m' k k' v v' : Value} {H' : Heap} (hm : VR β m m') (hk : VR β k k') (hv : VR β v v') (he : updS P ro H t m k v = some H') :
    ∃ w1, (Instr.mapUpdate t m' k' v').run P w = .ok () w1 ∧ M w0 K ro β H' w1 := by
  unfold updS at he
  split at he
  case h_2 => cases he
  rename_i kt et l hu
  split at he
  case h_2 => cases he
  rename_i es c hl hro
  split at he
  case isFalse => cases he
  rename_i hf
  cases hm with
  | map hb =>
  obtain ⟨es', a1, a2, a3⟩ := h.setMap hl hb
  split at he
  · rename_i hs
    cases he
    obtain ⟨b1, r', b2, b3⟩ := seekS_run (P := P) a2 hk hf hs
    rcases b3 with ⟨_, rfl⟩ | ⟨j, e, e', q, _⟩
    · exact ⟨_, by simp [Instr.mapUpdate, run_underlying hu, run_getObj_map a1, b1, b2, run_setObj_map a1], a3 _ _ _ hro (a2.push c hk hv)⟩
    · cases q
  · rename_i j v2 hs
    split at he
    · rename_i e hj
      cases he
      obtain ⟨b1, r', b2, b3⟩ := seekS_run (P := P) a2 hk hf hs
      rcases b3 with ⟨q, _⟩ | ⟨j2, e2, e2', q, rfl, q3, q4, q5, q6, q7, q8⟩
      · cases q
      · cases q
        rw [hj] at q3; cases q3
        have hkey : ((es'[j]?).map (·.key)).getD k' = k' := by rw [q4]; exact q5
        have hst : ∀ w, (Instr.keyThatStays (((es'[j]?).map (·.key)).getD k') k').run P w = .ok k' w := fun w => by
          rw [hkey]; simp [Instr.keyThatStays, q6]
        refine ⟨_, ?_, a3 _ _ _ hro (a2.set hj (e1 := ⟨k, v, e.born⟩) (f := fun e => { e with key := k', val := v' }) fun e0' h0 => ?_)⟩
        · simp only [Instr.mapUpdate, Sem.run_bind, run_underlying hu, Result.andThen_ok, run_getObj_map a1, b1, b2, hst, run_setObj_map a1]
        · rw [q4] at h0; cases h0
          exact ⟨q7, hk, hv⟩
    · cases he
  · cases he

def mapEntS (P : Program) (ro : Nat → Bool) (H : Heap) (t : TypeId) (m k : Value) : Option (Value × Heap) :=
  match P.underlying t, m with
  | some (.map kt et), .map (some l) =>
    match H[l]?, ro l with
    | some (some (.map es c)), false =>
      if rowKey P kt k = true then
        match findS P kt k es.toList 0 with
        | some none => match zeroV P et with
          | some z => some (.tuple #[z, goInt c], H.set l (some (.map (es.push ⟨k, z, c⟩) (c + 1))))
          | none => none
        | some (some (j, v)) => match es[j]? with
          | some e => some (.tuple #[e.val, goInt e.born], H.set l (some (.map (es.setIfInBounds j ⟨k, e.val, e.born⟩) c)))
          | none => none
        | none => none
      else none
    | _, _ => none
  | _, _ => none
theorem mapEntS_run (h : M w0 K ro β H w) {t : TypeId} {m m' k k' v : Value} {H' : Heap} (hm : VR β m m') (hk : VR β k k') (he : mapEntS P ro H t m k = some (v, H')) :
    ∃ v' w1, (Instr.mapEntry t m' k').run P w = .ok v' w1 ∧ M w0 K ro β H' w1 ∧ VR β v v' := by
  unfold mapEntS at he
  split at he
  case h_2 => cases he
  rename_i kt et l hu
  split at he
  case h_2 => cases he
  rename_i es c hl hro
  split at he
  case isFalse => cases he
  rename_i hf
  cases hm with
  | map hb =>
  obtain ⟨es', a1, a2, a3⟩ := h.setMap hl hb
  split at he
  · rename_i hs
    split at he
    · rename_i z hz
      cases he
      obtain ⟨z1, z2⟩ := zeroV_run hz
      obtain ⟨b1, r', b2, b3⟩ := seekS_run (P := P) a2 hk hf hs
      rcases b3 with ⟨_, rfl⟩ | ⟨j, e, e', q, _⟩
      · exact ⟨_, _, by simp [Instr.mapEntry, run_underlying hu, run_getObj_map a1, b1, b2, z1, run_setObj_map a1, goInt], a3 _ _ _ hro (a2.push c hk (still_vr z2)), tuple2_vr (still_vr z2) (.int _ _)⟩
      · cases q
    · cases he
  · rename_i j v2 hs
    split at he
    · rename_i e hj
      cases he
      obtain ⟨b1, r', b2, b3⟩ := seekS_run (P := P) a2 hk hf hs
      rcases b3 with ⟨q, _⟩ | ⟨j2, e2, e2', q, rfl, q3, q4, q5, q6, q7, q8⟩
      · cases q
      · cases q
        rw [hj] at q3; cases q3
        have hkey : ((es'[j]?).map (·.key)).getD k' = k' := by rw [q4]; exact q5
        have hst : ∀ w, (Instr.keyThatStays (((es'[j]?).map (·.key)).getD k') k').run P w = .ok k' w := fun w => by
          rw [hkey]; simp [Instr.keyThatStays, q6]
        have hb2 : (((es'[j]?).map (·.born)).getD 0 : Int) = e.born := by rw [q4]; simp [q7]
        refine ⟨.tuple #[e2'.val, goInt e.born], _, ?_, a3 _ _ _ hro (a2.set hj (e1 := ⟨k, e.val, e.born⟩) (f := fun e => { e with key := k' }) fun e0' h0 => ?_), tuple2_vr q8 (.int _ _)⟩
        · simp only [Instr.mapEntry, Sem.run_bind, run_underlying hu, Result.andThen_ok, run_getObj_map a1, b1, b2, hst, run_setObj_map a1, Sem.run_pure]
          simp [hb2]
        · rw [q4] at h0; cases h0
          exact ⟨q7, hk, q8⟩
    · cases he
  · cases he

def delS (P : Program) (ro : Nat → Bool) (H : Heap) (ts : Array TypeId) (m k : Value) : Option Heap :=
  match ts[0]? with
  | some t => match P.underlying t, m with
    | some (.map kt _), .map (some l) =>
      match H[l]?, ro l with
      | some (some (.map es c)), false =>
        if rowKey P kt k = true then
          match findS P kt k es.toList 0 with
          | some none => some H
          | some (some (j, _)) => some (H.set l (some (.map (es.toList.eraseIdx j).toArray c)))
          | none => none
        else none
      | _, _ => none
    | _, _ => none
  | none => none
theorem delS_run (h : M w0 K ro β H w) {ts : Array TypeId} {ty : TypeId} {m m' k k' : Value} {H' : Heap} (hm : VR β m m') (hk : VR β k k') (he : delS P ro H ts m k = some H') :
    ∃ w1, (Builtin.delete_ ts ty #[m', k']).run P w = .ok (.tuple #[]) w1 ∧ M w0 K ro β H' w1 := by
  unfold delS at he
  split at he
  case h_2 => cases he
  rename_i t h0
  split at he
  case h_2 => cases he
  rename_i kt et l hu
  split at he
  case h_2 => cases he
  rename_i es c hl hro
  split at he
  case isFalse => cases he
  rename_i hf
  cases hm with
  | map hb =>
  rename_i b
  obtain ⟨es', a1, a2, a3⟩ := h.setMap hl hb
  split at he
  · rename_i hs
    cases he
    obtain ⟨b1, r', b2, b3⟩ := seekS_run (P := P) a2 hk hf hs
    rcases b3 with ⟨_, rfl⟩ | ⟨j, e, e', q, _⟩
    · refine ⟨{ w with heap := w.heap.setIfInBounds b (.map es' c) }, ?_, h.of_heap ?_ rfl rfl rfl⟩
      · simp [Builtin.delete_, h0, run_underlying hu, run_getObj_map a1, b1, b2, run_setObj_map a1]
      · apply Array.ext_getElem?
        intro i
        simp only [Array.getElem?_setIfInBounds]
        split
        · rename_i hi; subst hi
          rw [if_pos (lt_of_heap a1), a1]
        · rfl
    · cases q
  · rename_i j v2 hs
    cases he
    obtain ⟨b1, r', b2, b3⟩ := seekS_run (P := P) a2 hk hf hs
    rcases b3 with ⟨q, _⟩ | ⟨j2, e2, e2', q, rfl, q3, q4, _⟩
    · cases q
    · cases q
      refine ⟨{ w with heap := w.heap.setIfInBounds b (.map (es'.eraseIdxIfInBounds j) c) }, ?_, a3 _ _ _ hro ?_⟩
      · simp [Builtin.delete_, h0, run_underlying hu, run_getObj_map a1, b1, b2, run_setObj_map a1]
      · have hx := (a2.list.erase j).arr
        have hj : j < es'.size := (Array.getElem?_eq_some_iff.1 q4).1
        have e1 : es'.eraseIdxIfInBounds j = (es'.toList.eraseIdx j).toArray := by
          apply Array.ext'
          rw [Array.eraseIdxIfInBounds, dif_pos hj]
          simp
        rw [e1]; exact hx
  · cases he
end
end Go.Proofs.YtfolamkjlgpgmaaDoorZev
