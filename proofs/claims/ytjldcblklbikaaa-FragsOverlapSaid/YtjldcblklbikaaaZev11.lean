/- Maps that are written, and gone through, in a small world of labels. No condition. -/
import Derived.Test.YtjldcblklbikaaaZev10
namespace Go.Proofs.YtjldcblklbikaaaZev
open Go.RowKit
set_option linter.unusedVariables false

section
variable {P : Program} {w0 w w1 : World} {K : Nat → Prop} {ro : Nat → Bool} {β : Env} {H : Heap}

inductive EsL (β : Env) : List MapEntry → List MapEntry → Prop
  | nil : EsL β [] []
  | cons {e e' : MapEntry} {l l' : List MapEntry} (hb : e'.born = e.born) (hk : VR β e.key e'.key) (hv : VR β e.val e'.val) (h : EsL β l l') : EsL β (e :: l) (e' :: l')
def EsR (β : Env) (es es' : Array MapEntry) : Prop :=
  es.size = es'.size ∧ ∀ (i : Nat) (e e' : MapEntry), es[i]? = some e → es'[i]? = some e' → e'.born = e.born ∧ VR β e.key e'.key ∧ VR β e.val e'.val

theorem EsL.of : ∀ (l l' : List MapEntry), l.length = l'.length → (∀ (i : Nat) (e e' : MapEntry), l[i]? = some e → l'[i]? = some e' → e'.born = e.born ∧ VR β e.key e'.key ∧ VR β e.val e'.val) → EsL β l l' := by
  intro l
  induction l with
  | nil => intro l' h _; have : l' = [] := List.eq_nil_of_length_eq_zero (by simpa using h.symm); subst this; exact .nil
  | cons e l ih =>
    intro l' h hr
    cases l' with
    | nil => simp at h
    | cons e' l' =>
      obtain ⟨a, b, c⟩ := hr 0 e e' rfl rfl
      exact .cons a b c (ih l' (by simpa using h) fun i x y hx hy => hr (i + 1) x y (by simpa using hx) (by simpa using hy))
theorem EsR.list {es es' : Array MapEntry} (h : EsR β es es') : EsL β es.toList es'.toList := EsL.of _ _ (by simpa using h.1) (by simpa using h.2)
theorem EsL.length {l l' : List MapEntry} (h : EsL β l l') : l.length = l'.length := by
  induction h with
  | nil => rfl
  | cons _ _ _ _ ih => simp [ih]
theorem EsL.at {l l' : List MapEntry} (h : EsL β l l') : ∀ (i : Nat) (e : MapEntry), l[i]? = some e → ∃ e', l'[i]? = some e' ∧ e'.born = e.born ∧ VR β e.key e'.key ∧ VR β e.val e'.val := by
  induction h with
  | nil => intro i e h; simp at h
  | cons a b c _ ih =>
    intro i e h
    cases i with
    | zero => simp at h; subst h; exact ⟨_, rfl, a, b, c⟩
    | succ i => simpa using ih i e (by simpa using h)
theorem EsL.filter {l l' : List MapEntry} (h : EsL β l l') (p : MapEntry → Bool) (hp : ∀ e e' : MapEntry, e'.born = e.born → p e' = p e) : EsL β (l.filter p) (l'.filter p) := by
  induction h with
  | nil => exact .nil
  | cons a b c _ ih =>
    rename_i e e' l l' _
    rw [List.filter_cons, List.filter_cons, hp e e' a]
    split
    · exact .cons a b c ih
    · exact ih
theorem EsL.append {a a' b b' : List MapEntry} (h : EsL β a a') (k : EsL β b b') : EsL β (a ++ b) (a' ++ b') := by
  induction h with
  | nil => exact k
  | cons x y z _ ih => exact .cons x y z ih
theorem EsL.all {l l' : List MapEntry} (h : EsL β l l') (p : MapEntry → Bool) (hp : ∀ e e' : MapEntry, e'.born = e.born → p e' = p e) : l'.all p = l.all p := by
  induction h with
  | nil => rfl
  | cons a _ _ _ ih => simp only [List.all_cons, ih, hp _ _ a]
theorem EsL.findIdx {l l' : List MapEntry} (h : EsL β l l') (p : MapEntry → Bool) (hp : ∀ e e' : MapEntry, e'.born = e.born → p e' = p e) : l'.findIdx? p = l.findIdx? p := by
  induction h with
  | nil => rfl
  | cons a _ _ _ ih => simp only [List.findIdx?_cons, ih, hp _ _ a]
theorem EsL.find {l l' : List MapEntry} (h : EsL β l l') (p : MapEntry → Bool) (hp : ∀ e e' : MapEntry, e'.born = e.born → p e' = p e) :
    (l.find? p = none → l'.find? p = none) ∧ ∀ e, l.find? p = some e → ∃ e', l'.find? p = some e' ∧ e'.born = e.born ∧ VR β e.key e'.key ∧ VR β e.val e'.val := by
  induction h with
  | nil => exact ⟨fun h => h, fun e h => (by cases h)⟩
  | cons a b c _ ih =>
    rename_i e e' l l' _
    rw [List.find?_cons, List.find?_cons, hp e e' a]
    cases p e with
    | true => exact ⟨fun h => (by cases h), fun x h => (by cases h; exact ⟨e', rfl, a, b, c⟩)⟩
    | false => exact ih

theorem Chg.setObj (w : World) (b : Nat) (o : Obj) : Chg b w { w with heap := w.heap.setIfInBounds b o } :=
  ⟨rfl, rfl, rfl, by simp, fun k _ hk => by simp only [Array.getElem?_setIfInBounds]; rw [if_neg (fun e => hk e.symm)]⟩
theorem setObj_at {w : World} {b : Nat} {o o' : Obj} (h : w.heap[b]? = some o') : ({ w with heap := w.heap.setIfInBounds b o } : World).heap[b]? = some o := by
  have := lt_of_heap h
  simp [this]
theorem run_setObj_map {w : World} {b : Nat} {es : Array MapEntry} {k : Nat} (h : w.heap[b]? = some (.map es k)) (o : Obj) : (setObj b o).run P w = .ok () { w with heap := w.heap.setIfInBounds b o } := by
  simp only [setObj, Sem.run, h]
theorem run_getObj_map {w : World} {b : Nat} {es : Array MapEntry} {k : Nat} (h : w.heap[b]? = some (.map es k)) : (getObj b).run P w = .ok (.map es k) w := by
  simp only [getObj, Sem.run, h]

/-- a map whose entries are turned -/
theorem M.setMap (h : M w0 K ro β H w) {l b : Nat} {es : Array MapEntry} {k : Nat} (hl : H[l]? = some (some (.map es k))) (hb : LR β l b) :
    ∃ es', w.heap[b]? = some (.map es' k) ∧ EsR β es es' ∧ ∀ es2 es2' k2, ro l = false → EsR β es2 es2' → M w0 K ro β (H.set l (some (.map es2 k2))) { w with heap := w.heap.setIfInBounds b (.map es2' k2) } := by
  obtain ⟨p, es', a1, a2, a3, a4, a5⟩ := h.map hl hb
  subst a2
  exact ⟨es', a3, ⟨a4, a5⟩, fun es2 es2' k2 hro hr => h.turn a1 hro _ _ (Chg.setObj w p.b _) (setObj_at a3) (.map hr.1 hr.2)⟩

theorem EsR.push {es es' : Array MapEntry} (h : EsR β es es') {k k' v v' : Value} (n : Nat) (hk : VR β k k') (hv : VR β v v') : EsR β (es.push ⟨k, v, n⟩) (es'.push ⟨k', v', n⟩) := by
  refine ⟨by simp [h.1], fun i e e' a b => ?_⟩
  rw [Array.getElem?_push] at a b
  rw [← h.1] at b
  split at a
  · rename_i hi
    rw [if_pos hi] at b
    cases a; cases b
    exact ⟨rfl, hk, hv⟩
  · rename_i hi
    rw [if_neg hi] at b
    exact h.2 i e e' a b
theorem EsR.set {es es' : Array MapEntry} (h : EsR β es es') {j : Nat} {e0 e1 : MapEntry} (h0 : es[j]? = some e0) {f : MapEntry → MapEntry} (hf : ∀ e0', es'[j]? = some e0' → (f e0').born = e1.born ∧ VR β e1.key (f e0').key ∧ VR β e1.val (f e0').val) :
    EsR β (es.setIfInBounds j e1) (es'.modify j f) := by
  have hj := (Array.getElem?_eq_some_iff.1 h0).1
  refine ⟨by simp [h.1], fun i e e' a b => ?_⟩
  rw [Array.getElem?_modify] at b
  by_cases hij : j = i
  · subst hij
    rw [Array.getElem?_setIfInBounds_self_of_lt hj] at a
    cases a
    have hj' : j < es'.size := by rw [← h.1]; exact hj
    rw [if_pos rfl, Array.getElem?_eq_getElem hj'] at b
    simp only [Option.map_some, Option.some.injEq] at b
    subst b
    exact hf _ (Array.getElem?_eq_getElem hj')
  · rw [if_neg hij] at b
    rw [Array.getElem?_setIfInBounds_ne hij] at a
    exact h.2 i e e' a b
theorem EsR.keys {es es' : Array MapEntry} (h : EsR β es es') (hf : ∀ e ∈ es.toList, flat e.key = true) : KsR es.toList es'.toList := by
  apply List.ext_getElem?
  intro i
  rw [List.getElem?_map, List.getElem?_map]
  have hs := h.1
  rcases Nat.lt_or_ge i es.size with hi | hi
  · have hi' : i < es'.size := by omega
    have e1 : es.toList[i]? = some es[i] := by simp [hi]
    have e2 : es'.toList[i]? = some es'[i] := by simp [hi']
    rw [e1, e2]
    have := (h.2 i es[i] es'[i] (Array.getElem?_eq_getElem hi) (Array.getElem?_eq_getElem hi')).2.1
    simp only [Option.map_some]
    rw [flat_eq (hf es[i] (by simp)) this]
  · rw [List.getElem?_eq_none (by simpa using hi), List.getElem?_eq_none (by simp; omega)]

/-- where a key is -/
def seekE (P : Program) (kt : TypeId) (b : Bool) (k : Value) (es : Array MapEntry) : Option (Option (Nat × Value)) :=
  if flat k = true ∧ es.toList.all (fun e => flat e.key) = true then
    match pureRun P (Instr.checkKey b 10000 kt k), pureRun P (Instr.findKey kt k es.toList) with
    | some _, some r => some r
    | _, _ => none
  else none
theorem seekE_run {kt : TypeId} {b : Bool} {k k' : Value} {es es' : Array MapEntry} {r : Option (Nat × Value)} (he : EsR β es es') (hk : VR β k k') (hs : seekE P kt b k es = some r) :
    k' = k ∧ (∀ w, (Instr.checkKey b 10000 kt k).run P w = .ok () w) ∧ (∃ r', (∀ w, (Instr.findKey kt k es'.toList).run P w = .ok r' w) ∧
      ((r = none ∧ r' = none) ∨ ∃ j e e', r = some (j, e.val) ∧ r' = some (j, e'.val) ∧ es[j]? = some e ∧ es'[j]? = some e' ∧ e'.key = e.key ∧ e'.born = e.born ∧ VR β e.val e'.val)) := by
  unfold seekE at hs
  split at hs
  case isFalse => cases hs
  rename_i hc
  obtain ⟨c1, c2⟩ := hc
  have hf : ∀ e ∈ es.toList, flat e.key = true := fun e he => List.all_eq_true.1 c2 e he
  split at hs
  case h_2 => cases hs
  rename_i u r2 h1 h2
  cases hs
  obtain ⟨r', a, b⟩ := findKey_same (P := P) c1 (he.keys hf) hf h2
  refine ⟨flat_eq c1 hk, (Q.checkKey (P := P) _ 10000 kt k c1).run h1, r', b, ?_⟩
  rcases a with a | ⟨j, e, e', q1, q2, _, q3, q4⟩
  · exact .inl a
  · rw [Nat.sub_zero, Array.getElem?_toList] at q3 q4
    obtain ⟨x, y, z⟩ := he.2 j e e' q3 q4
    exact .inr ⟨j, e, e', q1, q2, q3, q4, flat_eq (hf e (by simpa using Array.mem_of_getElem? q3)) y, x, z⟩

def updE (P : Program) (ro : Nat → Bool) (H : Heap) (t : TypeId) (m k v : Value) : Option Heap :=
  match P.underlying t, m with
  | some (.map kt _), .map (some l) =>
    match H[l]?, ro l with
    | some (some (.map es c)), false =>
      match seekE P kt false k es with
      | some none => some (H.set l (some (.map (es.push ⟨k, v, c⟩) (c + 1))))
      | some (some (j, _)) => match es[j]? with
        | some e => if Instr.sameBits 10000 e.key k = true then some (H.set l (some (.map (es.setIfInBounds j ⟨k, v, e.born⟩) c))) else none
        | none => none
      | none => none
    | _, _ => none
  | _, _ => none
theorem updE_run (h : M w0 K ro β H w) {t : TypeId} {m m' k k' v v' : Value} {H' : Heap} (hm : VR β m m') (hk : VR β k k') (hv : VR β v v') (he : updE P ro H t m k v = some H') :
    ∃ w1, (Instr.mapUpdate t m' k' v').run P w = .ok () w1 ∧ M w0 K ro β H' w1 := by
  unfold updE at he
  split at he
  case h_2 => cases he
  rename_i kt et l hu
  split at he
  case h_2 => cases he
  rename_i es c hl hro
  cases hm with
  | map hb =>
  obtain ⟨es', a1, a2, a3⟩ := h.setMap hl hb
  split at he
  · rename_i hs
    cases he
    obtain ⟨rfl, b1, r', b2, b3⟩ := seekE_run (P := P) a2 hk hs
    rcases b3 with ⟨_, rfl⟩ | ⟨j, e, e', q, _⟩
    · exact ⟨_, by simp [Instr.mapUpdate, run_underlying hu, run_getObj_map a1, b1, b2, run_setObj_map a1], a3 _ _ _ hro (a2.push c hk hv)⟩
    · cases q
  · rename_i j v2 hs
    split at he
    · rename_i e hj
      split at he
      · rename_i hsb
        cases he
        obtain ⟨rfl, b1, r', b2, b3⟩ := seekE_run (P := P) a2 hk hs
        rcases b3 with ⟨q, _⟩ | ⟨j2, e2, e2', q, rfl, q3, q4, q5, q6, q7⟩
        · cases q
        · cases q
          rw [hj] at q3; cases q3
          have hkey : ((es'[j]?).map (·.key)).getD k' = e.key := by rw [q4]; exact q5
          have hst : ∀ w, (Instr.keyThatStays (((es'[j]?).map (·.key)).getD k') k').run P w = .ok k' w := fun w => by
            rw [hkey]; simp [Instr.keyThatStays, hsb]
          refine ⟨_, ?_, a3 _ _ _ hro (a2.set hj (e1 := ⟨k', v, e.born⟩) (f := fun e => { e with key := k', val := v' }) fun e0' h0 => ?_)⟩
          · simp only [Instr.mapUpdate, Sem.run_bind, run_underlying hu, Result.andThen_ok, run_getObj_map a1, b1, b2, hst, run_setObj_map a1]
          · rw [q4] at h0; cases h0
            exact ⟨q6, hk, hv⟩
      · cases he
    · cases he
  · cases he

def delE (P : Program) (ro : Nat → Bool) (H : Heap) (ts : Array TypeId) (m k : Value) : Option Heap :=
  match ts[0]? with
  | some t => match P.underlying t, m with
    | some (.map kt _), .map (some l) =>
      match H[l]?, ro l with
      | some (some (.map es c)), false =>
        match seekE P kt es.isEmpty k es with
        | some none => some H
        | some (some (j, _)) => some (H.set l (some (.map (es.toList.eraseIdx j).toArray c)))
        | none => none
      | _, _ => none
    | _, _ => none
  | none => none
theorem EsL.erase {l l' : List MapEntry} (h : EsL β l l') : ∀ j, EsL β (l.eraseIdx j) (l'.eraseIdx j) := by
  induction h with
  | nil => intro j; exact .nil
  | cons a b c k ih =>
    intro j
    cases j with
    | zero => exact k
    | succ j => exact .cons a b c (ih j)
theorem EsL.arr {l l' : List MapEntry} (h : EsL β l l') : EsR β l.toArray l'.toArray := by
  refine ⟨by simpa using h.length, fun i e e' a b => ?_⟩
  rw [List.getElem?_toArray] at a b
  obtain ⟨x, q1, q2⟩ := h.at i e a
  rw [b] at q1; cases q1; exact q2
theorem delE_run (h : M w0 K ro β H w) {ts : Array TypeId} {ty : TypeId} {m m' k k' : Value} {H' : Heap} (hm : VR β m m') (hk : VR β k k') (he : delE P ro H ts m k = some H') :
    ∃ w1, (Builtin.delete_ ts ty #[m', k']).run P w = .ok (.tuple #[]) w1 ∧ M w0 K ro β H' w1 := by
  unfold delE at he
  split at he
  case h_2 => cases he
  rename_i t h0
  split at he
  case h_2 => cases he
  rename_i kt et l hu
  split at he
  case h_2 => cases he
  rename_i es c hl hro
  cases hm with
  | map hb =>
  rename_i b
  obtain ⟨es', a1, a2, a3⟩ := h.setMap hl hb
  have hemp : es'.isEmpty = es.isEmpty := by have := a2.1; simp [Array.isEmpty, this]
  split at he
  · rename_i hs
    cases he
    obtain ⟨rfl, b1, r', b2, b3⟩ := seekE_run (P := P) a2 hk hs
    rcases b3 with ⟨_, rfl⟩ | ⟨j, e, e', q, _⟩
    · refine ⟨{ w with heap := w.heap.setIfInBounds b (.map es' c) }, ?_, h.of_heap ?_ rfl rfl rfl⟩
      · simp [Builtin.delete_, h0, run_underlying hu, run_getObj_map a1, hemp, b1, b2, run_setObj_map a1]
      · apply Array.ext_getElem?
        intro i
        simp only [Array.getElem?_setIfInBounds]
        split
        · rename_i hi; subst hi
          rw [if_pos (lt_of_heap a1), a1]
        · rfl
    · cases q
  · rename_i j v2 hs
    cases he
    obtain ⟨rfl, b1, r', b2, b3⟩ := seekE_run (P := P) a2 hk hs
    rcases b3 with ⟨q, _⟩ | ⟨j2, e2, e2', q, rfl, q3, q4, _⟩
    · cases q
    · cases q
      refine ⟨{ w with heap := w.heap.setIfInBounds b (.map (es'.eraseIdxIfInBounds j) c) }, ?_, a3 _ _ _ hro ?_⟩
      · simp [Builtin.delete_, h0, run_underlying hu, run_getObj_map a1, hemp, b1, b2, run_setObj_map a1]
      · have hx := (a2.list.erase j).arr
        have hj : j < es'.size := (Array.getElem?_eq_some_iff.1 q4).1
        have e1 : es'.eraseIdxIfInBounds j = (es'.toList.eraseIdx j).toArray := by
          apply Array.ext'
          rw [Array.eraseIdxIfInBounds, dif_pos hj]
          simp
        rw [e1]; exact hx
  · cases he
end
end Go.Proofs.YtjldcblklbikaaaZev
