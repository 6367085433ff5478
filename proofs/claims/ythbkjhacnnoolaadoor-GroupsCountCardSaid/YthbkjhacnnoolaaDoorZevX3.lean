/- Several texts in one: Zev13, ZevA. No condition beyond those that each part names. -/
import Derived.Test.YthbkjhacnnoolaaDoorZevX2
import GoSem.Extern.Atomic
import GoSem.Extern.BytealgCount
import GoSem.Extern.BytealgIndexByte
import GoSem.Extern.Table
import Derived.Laws.Externs
/- One operation in a small world of labels. No condition. -/
section
namespace Go.Proofs.YthbkjhacnnoolaaDoorZev
open Go.RowKit
set_option linter.unusedVariables false
set_option linter.unusedSectionVars false
variable [Sym] [Kin] [Glob]

section
variable {P : Program} {w0 w w1 : World} {K : Nat → Prop} {ro : Nat → Bool} {β : Env} {H : Heap}

def oopd (T : List Value) : Option Operand → Option (Option Value)
  | none => some none
  | some x => match opd T x with
    | some v => some (some v)
    | none => none
theorem oopd_vr (hg : GlobOk β) {T : List Value} {a : Act} (h : LsR β T a.tmps.toList) {x : Option Operand} {v : Option Value} (hx : oopd T x = some v) : OptR β v (x.map a.eval) := by
  cases x with
  | none => cases hx; exact .none
  | some x =>
    simp only [oopd] at hx
    split at hx
    · rename_i u hu; cases hx; exact .some (opd_vr hg h hu)
    · cases hx

def keep (H : Heap) : Option Value → Option (Value × Heap)
  | some v => some (v, H)
  | none => none
def done : Option Heap → Option (Value × Heap)
  | some H => some (undef, H)
  | none => none

def pickE (c a b : Value) : Option Value :=
  match c, a, b with
  | .bool p, .bool x, .bool y => some (.bool (bif p then x else y))
  | .bool true, a, _ => some a
  | .bool false, _, b => some b
  | _, _, _ => none

def orE {α : Type} (a b : Option α) : Option α :=
  match a with
  | some x => some x
  | none => b
theorem orE_some {α : Type} {a b : Option α} {x : α} (h : orE a b = some x) : a = some x ∨ b = some x := by
  cases a with
  | none => exact .inr h
  | some y => exact .inl h

def opE (P : Program) (ro : Nat → Bool) (T : List Value) (H : Heap) (o : Oper) : Option (Value × Heap) :=
  match o.op with
  | .move x => keep H (opd T x)
  | .assign x => keep H (opd T x)
  | .pick c a b => match opd T c, opd T a, opd T b with
    | some c, some a, some b => keep H (pickE c a b)
    | _, _, _ => none
  | .alloc t => match zeroE P t with
    | some c => some (newE H c t)
    | none => none
  | .box t x => match opd T x with
    | some v => some (newE H v.cells t)
    | none => none
  | .build t ps => match partsE T ps.toList with
    | some ps => keep H (buildE P t ps)
    | none => none
  | .buildSlice t n ps => match partsE T ps.toList with
    | some ps => buildSliceE P H t n ps
    | none => none
  | .load t a => match opd T a with
    | some a => keep H (loadE P H t a)
    | none => none
  | .store t a x => match opd T a, opd T x with
    | some a, some x => done (storeE P ro H t a x)
    | _, _ => none
  | .nilCheck x => match opd T x with
    | some x => keep H (nilE x)
    | none => none
  | .binOp op t x y _ => match opd T x, opd T y with
    | some a, some b => if guardE P op t x y a b = true then keep H (binE P H op t a b) else none
    | _, _ => none
  | .unOp op _ x => match opd T x with
    | some x => keep H (unE P op x)
    | none => none
  | .convert s d x => match opd T x with
    | some x => convE P ro H s d x
    | none => none
  | .sliceToArrayPointer t x => match opd T x with
    | some x => keep H (arrayAtE P t x)
    | none => none
  | .makeInterface t x => match opd T x with
    | some x => keep H (ifaceE P t x)
    | none => none
  | .makeFunc fn f c => match opds T f.toList, opds T c.toList with
    | some f, some c => if calmFn fn = true then some (.func fn f.toArray c.toArray, H) else none
    | _, _ => none
  | .makeMap t r => match oopd T r with
    | some r => makeMapE P H t r
    | none => none
  | .makeSlice t l c => match opd T l, opd T c with
    | some l, some c => makeSliceE P H t l c
    | _, _ => none
  | .slice t x lo hi mx => match opd T x, oopd T lo, oopd T hi, oopd T mx with
    | some x, some lo, some hi, some mx => keep H (sliceE P H t x lo hi mx)
    | _, _, _, _ => none
  | .fieldAddr t x f => match opd T x with
    | some x => keep H (fieldAtE P t x f)
    | none => none
  | .field t x f => match opd T x with
    | some x => keep H (fieldE P t x f)
    | none => none
  | .indexAddr t x i => match opd T x, opd T i with
    | some x, some i => keep H (indexAtE P t x i)
    | _, _ => none
  | .index t x i => match opd T x, opd T i with
    | some x, some i => keep H (indexE P t x i)
    | _, _ => none
  | .lookup t x i ok => match opd T x, opd T i with
    | some x, some i => keep H (orE (lookE P H t x i ok) (lookS P H t x i ok))
    | _, _ => none
  | .mapUpdate t m k v => match opd T m, opd T k, opd T v with
    | some m, some k, some v => done (orE (updE P ro H t m k v) (updS P ro H t m k v))
    | _, _, _ => none
  | .insert t m k v => match opd T m, opd T k, opd T v with
    | some m, some k, some v => done (orE (updE P ro H t m k v) (updS P ro H t m k v))
    | _, _, _ => none
  | .mapEntry t m k => match opd T m, opd T k with
    | some m, some k => orE (mapEntE P ro H t m k) (mapEntS P ro H t m k)
    | _, _ => none
  | .entryStore t m s v => match opd T m, opd T s, opd T v with
    | some m, some s, some v => done (entStoreE ro H m s v)
    | _, _, _ => none
  | .range t x => match opd T x with
    | some x => rangeE P H t x
    | none => none
  | .next it s => match opd T it with
    | some it => nextE ro H it s
    | none => none
  | .entry it => match opd T it with
    | some it => keep H (entE H it)
    | none => none
  | .extract x i => match opd T x with
    | some x => keep H (extractE x i)
    | none => none
  | .call { callee := .builtin b, args, argTypes } =>
    match b, opds T args.toList with
    | .append, some [s, x] => appE P ro H argTypes s x
    | .copy, some [d, x] => copyE P ro H argTypes d x
    | .delete, some [m, k] => match orE (delE P ro H argTypes m k) (delS P ro H argTypes m k) with
      | some H => some (undef, H)
      | none => none
    | .clear, some [x] => match clearE P ro H argTypes x with
      | some H => some (undef, H)
      | none => none
    | .len, some [x] => match argTypes[0]? with
      | some t => keep H (lenE P H t x)
      | none => none
    | .cap, some [x] => match argTypes[0]? with
      | some t => keep H (capE P t x)
      | none => none
    | .min, some l => if ints l = true then keep H (minL false l) else none
    | .max, some l => if ints l = true then keep H (minL true l) else none
    | _, _ => none
  | _ => none

theorem keep_some {o : Option Value} {v : Value} {H' : Heap} (h : keep H o = some (v, H')) : o = some v ∧ H' = H := by
  cases o with
  | none => cases h
  | some u => simp only [keep, Option.some.injEq, Prod.mk.injEq] at h; exact ⟨by rw [h.1], h.2.symm⟩
theorem done_some {o : Option Heap} {v : Value} {H' : Heap} (h : done o = some (v, H')) : o = some H' ∧ v = undef := by
  cases o with
  | none => cases h
  | some u => simp only [done, Option.some.injEq, Prod.mk.injEq] at h; exact ⟨by rw [h.2], h.1.symm⟩

/-- what an operation gives here, and in a world -/
def OpOk (P : Program) (w0 : World) (K : Nat → Prop) (ro : Nat → Bool) (β : Env) (w : World) (a : Act) (o : Oper) (v : Value) (H' : Heap) : Prop :=
  ∃ nx v' w1 β', (execOp a.eval o).run P w = .ok nx w1 ∧ (nx = .value v' ∨ nx = .skip ∧ v' = undef) ∧ Ext β β' ∧ M w0 K ro β' H' w1 ∧ VR β' v v'

theorem lsr2 {x y : Value} {l : List Value} (h : LsR β [x, y] l) : ∃ x' y', l = [x', y'] ∧ VR β x x' ∧ VR β y y' := by
  have h1 := h.1
  match l with
  | [x', y'] => exact ⟨x', y', rfl, h.2 0 _ _ rfl rfl, h.2 1 _ _ rfl rfl⟩
  | [] => simp at h1
  | [_] => simp at h1
  | _ :: _ :: _ :: _ => simp at h1
theorem lsr1 {x : Value} {l : List Value} (h : LsR β [x] l) : ∃ x', l = [x'] ∧ VR β x x' := by
  have h1 := h.1
  match l with
  | [x'] => exact ⟨x', rfl, h.2 0 _ _ rfl rfl⟩
  | [] => simp at h1
  | _ :: _ :: _ => simp at h1

theorem pickE_run {c c' a a' b b' v : Value} (hc : VR β c c') (ha : VR β a a') (hb : VR β b b') (he : pickE c a b = some v) :
    ∃ v', (∀ w, ((do pure (.value (if ← asBool c' then a' else b')) : Sem Next)).run P w = .ok (.value v') w) ∧ VR β v v' := by
  unfold pickE at he
  split at he
  · cases he; cases hc; cases ha; cases hb
    rename_i p x y
    exact ⟨.bool (bif p then x else y), fun w => by cases p <;> simp [asBool], .bool _⟩
  · cases he; cases hc; exact ⟨_, fun w => by simp [asBool], ha⟩
  · cases he; cases hc; exact ⟨_, fun w => by simp [asBool], hb⟩
  · cases he

set_option maxHeartbeats 1000000 in
theorem opE_run (h : M w0 K ro β H w) {T : List Value} {a : Act} (hT : LsR β T a.tmps.toList) {o : Oper} {v : Value} {H' : Heap} (he : opE P ro T H o = some (v, H')) : OpOk P w0 K ro β w a o v H' := by
  have fin1 : ∀ {s : Sem Value} {v : Value}, execOp a.eval o = (do pure (.value (← s))) → (∃ v', s.run P w = .ok v' w ∧ VR β v v') → OpOk P w0 K ro β w a o v H := by
    intro s v e ⟨v', h1, h2⟩
    exact ⟨_, v', w, β, by rw [e]; simp [h1], .inl rfl, Ext.refl β, h, h2⟩
  have fin1' : ∀ {s : Sem Value} {v : Value}, execOp a.eval o = (do pure (.value (← s))) → (∃ v', (∀ w, s.run P w = .ok v' w) ∧ VR β v v') → OpOk P w0 K ro β w a o v H := by
    intro s v e ⟨v', h1, h2⟩
    exact fin1 e ⟨v', h1 w, h2⟩
  have fin2 : ∀ {s : Sem Value} {v : Value} {H' : Heap}, execOp a.eval o = (do pure (.value (← s))) → (∃ v' w1 β', s.run P w = .ok v' w1 ∧ Ext β β' ∧ M w0 K ro β' H' w1 ∧ VR β' v v') → OpOk P w0 K ro β w a o v H' := by
    intro s v H' e ⟨v', w1, β', h1, h2, h3, h4⟩
    exact ⟨_, v', w1, β', by rw [e]; simp [h1], .inl rfl, h2, h3, h4⟩
  have fin3 : ∀ {s : Sem Unit} {H' : Heap}, execOp a.eval o = (do s; pure .skip) → (∃ w1, s.run P w = .ok () w1 ∧ M w0 K ro β H' w1) → OpOk P w0 K ro β w a o undef H' := by
    intro s H' e ⟨w1, h1, h2⟩
    exact ⟨_, undef, w1, β, by rw [e]; simp [h1], .inr ⟨rfl, rfl⟩, Ext.refl β, h2, undef_vr β⟩
  have fin4 : ∀ {s : Sem Value} {v : Value} {H' : Heap}, execOp a.eval o = (do pure (.value (← s))) → (∃ v' w1, s.run P w = .ok v' w1 ∧ M w0 K ro β H' w1 ∧ VR β v v') → OpOk P w0 K ro β w a o v H' := by
    intro s v H' e ⟨v', w1, h1, h3, h4⟩
    exact ⟨_, v', w1, β, by rw [e]; simp [h1], .inl rfl, Ext.refl β, h3, h4⟩
  obtain ⟨dst, op, type, pos, after, guard⟩ := o
  unfold opE at he
  cases op <;> simp only at he
  case move x =>
    obtain ⟨e, rfl⟩ := keep_some he
    exact ⟨_, _, w, β, rfl, .inl rfl, Ext.refl β, h, opd_vr h.glob hT e⟩
  case assign x =>
    obtain ⟨e, rfl⟩ := keep_some he
    exact ⟨_, _, w, β, rfl, .inl rfl, Ext.refl β, h, opd_vr h.glob hT e⟩
  case pick c x y =>
    split at he
    · rename_i c1 x1 y1 e1 e2 e3
      obtain ⟨e, rfl⟩ := keep_some he
      obtain ⟨v', q1, q2⟩ := pickE_run (P := P) (opd_vr h.glob hT e1) (opd_vr h.glob hT e2) (opd_vr h.glob hT e3) e
      exact ⟨_, v', w, β, q1 w, .inl rfl, Ext.refl β, h, q2⟩
    · cases he
  case alloc t =>
    split at he
    · rename_i c e1; cases he; exact fin2 rfl (allocE_run h e1)
    · cases he
  case box t x =>
    split at he
    · rename_i c e1; cases he; exact fin2 rfl (boxE_run h (opd_vr h.glob hT e1))
    · cases he
  case build t ps =>
    split at he
    · rename_i c e1
      obtain ⟨e, rfl⟩ := keep_some he
      exact fin1' rfl (buildE_run (by simpa using partsE_vr h.glob hT _ _ e1) e)
    · cases he
  case buildSlice t n ps =>
    split at he
    · rename_i c e1; exact fin2 rfl (buildSliceE_run h (by simpa using partsE_vr h.glob hT _ _ e1) he)
    · cases he
  case load t x =>
    split at he
    · rename_i c e1
      obtain ⟨e, rfl⟩ := keep_some he
      obtain ⟨x', l1, l2⟩ := loadE_run (P := P) h (opd_vr h.glob hT e1) e
      exact fin1 rfl ⟨x', l1 w (fun _ _ _ _ => rfl), l2⟩
    · cases he
  case store t x y =>
    split at he
    · rename_i c d e1 e2
      obtain ⟨e, rfl⟩ := done_some he
      exact fin3 rfl (storeE_run h (opd_vr h.glob hT e1) (opd_vr h.glob hT e2) e)
    · cases he
  case nilCheck x =>
    split at he
    · rename_i c e1
      obtain ⟨e, rfl⟩ := keep_some he
      obtain ⟨q1, q2⟩ := nilE_run (P := P) (opd_vr h.glob hT e1) e (ρ := a.eval) (o := ⟨dst, .nilCheck x, type, pos, after, guard⟩) rfl rfl w
      exact ⟨_, _, w, β, q1, .inl rfl, Ext.refl β, h, q2⟩
    · cases he
  case binOp op t x y yt =>
    split at he
    · rename_i c d e1 e2
      split at he
      · rename_i hg
        obtain ⟨e, rfl⟩ := keep_some he
        obtain ⟨q1, q2⟩ := binE_run h (opd_vr h.glob hT e1) (opd_vr h.glob hT e2) e
        refine fin1 (s := do eqGuard op t x y (a.eval x) (a.eval y); binOp op t (a.eval x) (a.eval y)) rfl ⟨_, ?_, q2⟩
        rw [Sem.run_bind, guardE_run (opd_vr h.glob hT e1) (opd_vr h.glob hT e2) hg w, Result.andThen_ok, q1]
      · cases he
    · cases he
  case unOp op t x =>
    split at he
    · rename_i c e1
      obtain ⟨e, rfl⟩ := keep_some he
      obtain ⟨q1, q2⟩ := unE_run (P := P) (opd_vr h.glob hT e1) e w
      exact fin1 rfl ⟨_, q1, q2⟩
    · cases he
  case convert s d x =>
    split at he
    · rename_i c e1; exact fin2 rfl (convE_run h (opd_vr h.glob hT e1) he)
    · cases he
  case sliceToArrayPointer t x =>
    split at he
    · rename_i c e1
      obtain ⟨e, rfl⟩ := keep_some he
      exact fin1' rfl (arrayAtE_run (opd_vr h.glob hT e1) e)
    · cases he
  case makeInterface t x =>
    split at he
    · rename_i c e1
      obtain ⟨e, rfl⟩ := keep_some he
      exact fin1' rfl (ifaceE_run (opd_vr h.glob hT e1) e)
    · cases he
  case makeFunc fn f c =>
    split at he
    · rename_i f1 c1 e1 e2
      split at he
      case isFalse => cases he
      rename_i hcalm
      cases he
      have q1 := opds_vr h.glob hT _ _ e1
      have q2 := opds_vr h.glob hT _ _ e2
      refine fin1 (s := Instr.makeFunc fn (f.map a.eval) (c.map a.eval)) rfl ⟨_, rfl, .func hcalm ?_ ?_ ?_ ?_⟩
      · have := q1.1; simpa using this
      · intro i x x' p q; exact q1.2 i x x' (by simpa using p) (by simpa using q)
      · have := q2.1; simpa using this
      · intro i x x' p q; exact q2.2 i x x' (by simpa using p) (by simpa using q)
    · cases he
  case makeMap t r =>
    split at he
    · rename_i c e1; exact fin2 rfl (makeMapE_run h (oopd_vr h.glob hT e1) he)
    · cases he
  case makeSlice t l c =>
    split at he
    · rename_i l1 c1 e1 e2; exact fin2 rfl (makeSliceE_run h (opd_vr h.glob hT e1) (opd_vr h.glob hT e2) he)
    · cases he
  case slice t x lo hi mx =>
    split at he
    · rename_i x1 l1 h1 m1 e1 e2 e3 e4
      obtain ⟨e, rfl⟩ := keep_some he
      exact fin1' rfl (sliceE_run h (opd_vr h.glob hT e1) (oopd_vr h.glob hT e2) (oopd_vr h.glob hT e3) (oopd_vr h.glob hT e4) e)
    · cases he
  case fieldAddr t x f =>
    split at he
    · rename_i c e1
      obtain ⟨e, rfl⟩ := keep_some he
      exact fin1' rfl (fieldAtE_run (opd_vr h.glob hT e1) e)
    · cases he
  case field t x f =>
    split at he
    · rename_i c e1
      obtain ⟨e, rfl⟩ := keep_some he
      exact fin1' rfl (fieldE_run (opd_vr h.glob hT e1) e)
    · cases he
  case indexAddr t x i =>
    split at he
    · rename_i c d e1 e2
      obtain ⟨e, rfl⟩ := keep_some he
      exact fin1' rfl (indexAtE_run (opd_vr h.glob hT e1) (opd_vr h.glob hT e2) e)
    · cases he
  case index t x i =>
    split at he
    · rename_i c d e1 e2
      obtain ⟨e, rfl⟩ := keep_some he
      exact fin1' rfl (indexE_run (opd_vr h.glob hT e1) (opd_vr h.glob hT e2) e)
    · cases he
  case lookup t x i ok =>
    split at he
    · rename_i c d e1 e2
      obtain ⟨e, rfl⟩ := keep_some he
      rcases orE_some e with e | e
      · exact fin1 rfl (lookE_run h (opd_vr h.glob hT e1) (opd_vr h.glob hT e2) e)
      · exact fin1 rfl (lookS_run h (opd_vr h.glob hT e1) (opd_vr h.glob hT e2) e)
    · cases he
  case mapUpdate t m k u =>
    split at he
    · rename_i c d f e1 e2 e3
      obtain ⟨e, rfl⟩ := done_some he
      rcases orE_some e with e | e
      · exact fin3 rfl (updE_run h (opd_vr h.glob hT e1) (opd_vr h.glob hT e2) (opd_vr h.glob hT e3) e)
      · exact fin3 rfl (updS_run h (opd_vr h.glob hT e1) (opd_vr h.glob hT e2) (opd_vr h.glob hT e3) e)
    · cases he
  case insert t m k u =>
    split at he
    · rename_i c d f e1 e2 e3
      obtain ⟨e, rfl⟩ := done_some he
      rcases orE_some e with e | e
      · exact fin3 rfl (updE_run h (opd_vr h.glob hT e1) (opd_vr h.glob hT e2) (opd_vr h.glob hT e3) e)
      · exact fin3 rfl (updS_run h (opd_vr h.glob hT e1) (opd_vr h.glob hT e2) (opd_vr h.glob hT e3) e)
    · cases he
  case mapEntry t m k =>
    split at he
    · rename_i c d e1 e2
      rcases orE_some he with he | he
      · exact fin4 rfl (mapEntE_run h (opd_vr h.glob hT e1) (opd_vr h.glob hT e2) he)
      · exact fin4 rfl (mapEntS_run h (opd_vr h.glob hT e1) (opd_vr h.glob hT e2) he)
    · cases he
  case entryStore t m s u =>
    split at he
    · rename_i c d f e1 e2 e3
      obtain ⟨e, rfl⟩ := done_some he
      exact fin3 rfl (entStoreE_run h (opd_vr h.glob hT e1) (opd_vr h.glob hT e2) (opd_vr h.glob hT e3) e)
    · cases he
  case range t x =>
    split at he
    · rename_i c e1; exact fin2 rfl (rangeE_run h (opd_vr h.glob hT e1) he)
    · cases he
  case next it s =>
    split at he
    · rename_i c e1; exact fin4 rfl (nextE_run h (opd_vr h.glob hT e1) he)
    · cases he
  case entry it =>
    split at he
    · rename_i c e1
      obtain ⟨e, rfl⟩ := keep_some he
      exact fin1 rfl (entE_run h (opd_vr h.glob hT e1) e)
    · cases he
  case extract x i =>
    split at he
    · rename_i c e1
      obtain ⟨e, rfl⟩ := keep_some he
      exact fin1' rfl (extractE_run (opd_vr h.glob hT e1) e)
    · cases he
  case call c =>
    obtain ⟨callee, args, argTypes⟩ := c
    cases callee <;> simp only at he <;> try (cases he; done)
    rename_i b
    have hx : execOp a.eval ⟨dst, .call ⟨.builtin b, args, argTypes⟩, type, pos, after, guard⟩ = builtin b argTypes type (args.map fun | .const _ => true | _ => false) (args.map a.eval) := rfl
    cases hop : opds T args.toList with
    | none => rw [hop] at he; cases b <;> cases he
    | some vs =>
      rw [hop] at he
      have hl := opds_vr h.glob hT _ _ hop
      have harr : args.map a.eval = (args.toList.map a.eval).toArray := by apply Array.ext'; simp
      split at he
      · rename_i s x e1
        cases e1
        obtain ⟨s', x', e2, q1, q2⟩ := lsr2 hl
        rw [e2] at harr
        exact fin2 (by rw [hx, harr]; rfl) (appE_run h q1 q2 he)
      · rename_i s x e1
        cases e1
        obtain ⟨s', x', e2, q1, q2⟩ := lsr2 hl
        rw [e2] at harr
        obtain ⟨w1, r1, r2, r3⟩ := copyE_run (P := P) (ty := type) h q1 q2 he
        exact fin4 (by rw [hx, harr]; rfl) ⟨_, w1, r1, r2, r3⟩
      · rename_i s x e1
        cases e1
        obtain ⟨s', x', e2, q1, q2⟩ := lsr2 hl
        rw [e2] at harr
        split at he
        · rename_i H2 hd
          cases he
          rcases orE_some hd with hd | hd
          · obtain ⟨w1, r1, r2⟩ := delE_run (P := P) (ty := type) h q1 q2 hd
            exact fin4 (by rw [hx, harr]; rfl) ⟨_, w1, r1, r2, undef_vr β⟩
          · obtain ⟨w1, r1, r2⟩ := delS_run (P := P) (ty := type) h q1 q2 hd
            exact fin4 (by rw [hx, harr]; rfl) ⟨_, w1, r1, r2, undef_vr β⟩
        · cases he
      · rename_i x e1
        cases e1
        obtain ⟨x', e2, q1⟩ := lsr1 hl
        rw [e2] at harr
        split at he
        · rename_i H2 hd
          cases he
          obtain ⟨w1, r1, r2⟩ := clearE_run (P := P) (ty := type) h q1 hd
          exact fin4 (by rw [hx, harr]; rfl) ⟨_, w1, r1, r2, undef_vr β⟩
        · cases he
      · rename_i x e1
        cases e1
        obtain ⟨x', e2, q1⟩ := lsr1 hl
        rw [e2] at harr
        split at he
        · rename_i t ht
          obtain ⟨e, rfl⟩ := keep_some he
          obtain ⟨r1, r2⟩ := lenE_run (P := P) (ty := type) h ht q1 e
          exact fin1 (by rw [hx, harr]; rfl) ⟨_, r1, r2⟩
        · cases he
      · rename_i x e1
        cases e1
        obtain ⟨x', e2, q1⟩ := lsr1 hl
        rw [e2] at harr
        split at he
        · rename_i t ht
          obtain ⟨e, rfl⟩ := keep_some he
          obtain ⟨r1, r2⟩ := capE_run (P := P) (ty := type) ht q1 e w
          exact fin1 (by rw [hx, harr]; rfl) ⟨_, r1, r2⟩
        · cases he
      · rename_i l e1
        cases e1
        split at he
        · rename_i hi
          obtain ⟨e, rfl⟩ := keep_some he
          have hl2 := ints_eq hi hl
          obtain ⟨r1, r2⟩ := minL_run (P := P) (β := β) e w argTypes type (args.map a.eval) (by simpa using hl2)
          exact fin1 (by rw [hx]; rfl) ⟨_, r1, r2⟩
        · cases he
      · rename_i l e1
        cases e1
        split at he
        · rename_i hi
          obtain ⟨e, rfl⟩ := keep_some he
          have hl2 := ints_eq hi hl
          obtain ⟨r1, r2⟩ := maxL_run (P := P) (β := β) e w argTypes type (args.map a.eval) (by simpa using hl2)
          exact fin1 (by rw [hx]; rfl) ⟨_, r1, r2⟩
        · cases he
      · cases he
  all_goals cases he
end
end Go.Proofs.YthbkjhacnnoolaaDoorZev
end

/- Functions without a Go body: the atomic addition, the count of a byte. No condition. -/
section
namespace Go.Proofs.YthbkjhacnnoolaaDoorZev
open Go.RowKit
set_option linter.unusedVariables false
set_option linter.unusedSectionVars false
variable [Sym] [Kin] [Glob]

def atomE (ro : Nat → Bool) (H : Heap) : List Value → Option (Value × Heap)
  | [.pointer (some ⟨l, o, none⟩), .int .u64 d] =>
    match H[l]? with
    | some (some (.cells c ty z)) => match c[o]? with
      | some (.int .u64 old) => if ro l = false then some (.int .u64 (IntKind.wrap .u64 (old + d)), H.set l (some (.cells (putAll c o [.int .u64 (IntKind.wrap .u64 (old + d))]) ty z))) else none
      | _ => none
    | _ => none
  | _ => none

theorem atomE_run {P : Program} {w0 w : World} {K : Nat → Prop} {ro : Nat → Bool} {β : Env} {H : Heap} (h : M w0 K ro β H w) {args args' : List Value} {v : Value} {H' : Heap} (ha : LsR β args args') (he : atomE ro H args = some (v, H')) :
    ∃ w1, (Extern.Atomic.update (Op.intArith .add) .u64 true args'.toArray).run P w = .ok v w1 ∧ M w0 K ro β H' w1 ∧ VR β v v := by
  unfold atomE at he
  split at he
  · rename_i l o d
    split at he
    · rename_i c ty z hl
      split at he
      · rename_i old ho
        split at he
        · rename_i hro
          cases he
          obtain ⟨p, c', t', fz, h1, h2, h3, hz⟩ := h.cells (o := o) hl
          obtain ⟨x', y', rfl, q1, q2⟩ := lsr2 ha
          cases q2
          cases q1 with
          | ptr k =>
            obtain ⟨_, rfl⟩ := k.live h1
            obtain ⟨u, hu, hv⟩ := h3.at_ o _ ho
            cases hv
            have hlt : o < c.size := (Array.getElem?_eq_some_iff.1 ho).1
            have hle := h3.le
            have hsz := h3.size
            have hc : w.cell? ⟨p.b, p.s + o, none⟩ = some (.int .u64 old) := by
              rw [cell_of_row w p.b _ c' t' fz h2]; exact hu
            have hf : w.frozen? ⟨p.b, p.s + o, none⟩ = false := by
              have := h3.fz o (by omega)
              simp only [World.frozen?, h2]
              simpa using this
            refine ⟨w.setCell ⟨p.b, p.s + o, none⟩ (.int .u64 (IntKind.wrap .u64 (old + d))), ?_, h.turn h1 hro _ _ (Chg.setCell w p.b _ _) (heap_setCell_blk h2 _ _) (.cells ?_ hz), .int _ _⟩
            · show (do
                let a ← asAddr (.pointer (some ⟨p.b, p.s + o, none⟩))
                let old ← Extern.Atomic.read (.int .u64) a
                let new ← Op.intArith .add .u64 (← asInt old) (← asInt (.int .u64 d))
                store a new .atomic
                pure (if true then new else old) : Sem Value).run P w = _
              have hs : (store ⟨p.b, p.s + o, none⟩ (.int .u64 (IntKind.wrap .u64 (old + d))) .atomic).run P w = .ok () (w.setCell ⟨p.b, p.s + o, none⟩ (.int .u64 (IntKind.wrap .u64 (old + d)))) := by
                rw [run_store P w _ _ _ rfl, hc]; simp [hf]
              simp [Extern.Atomic.read, asAddr, asInt, asIntOf, Op.intArith, hc, hs]
            · have := CR.putAll [Value.int .u64 (IntKind.wrap .u64 (old + d))] [Value.int .u64 (IntKind.wrap .u64 (old + d))] c c' o h3 ⟨rfl, fun i x x' a b => by rw [a] at b; cases b; cases i <;> simp at a; subst a; exact .int _ _⟩ (by simp; omega)
              simpa [putAll] using this
        · cases he
      · cases he
    · cases he
  · cases he

/-! ### functions without a body -/
inductive Outs where
  | add64
  | countStr
  | idxStr
def Outs.sem : Outs → Array Value → Sem Value
  | .add64 => Extern.Atomic.update (Op.intArith .add) .u64 true
  | .countStr => Extern.BytealgCount.count
  | .idxStr => Extern.BytealgIndexByte.indexByte
def cntE (H : Heap) : List Value → Option (Value × Heap)
  | [.string s, .int .u8 c] => some (goInt (s.foldl (fun n x => if x == c.toNat.toUInt8 then n + 1 else n) (0 : Nat)), H)
  | _ => none
def idxN (s : ByteArray) (c : Int) : Int := match (List.range s.size).find? fun i => s[i]! == c.toNat.toUInt8 with
  | some i => (i : Int)
  | none => -1
def idxE (H : Heap) : List Value → Option (Value × Heap)
  | [.string s, .int .u8 c] => some (goInt (idxN s c), H)
  | _ => none
def Outs.run (ro : Nat → Bool) (H : Heap) : Outs → List Value → Option (Value × Heap)
  | .add64, l => atomE ro H l
  | .countStr, l => cntE H l
  | .idxStr, l => idxE H l
theorem cntE_run {P : Program} {w0 w : World} {K : Nat → Prop} {ro : Nat → Bool} {β : Env} {H : Heap} (h : M w0 K ro β H w) {args args' : List Value} {v : Value} {H' : Heap} (ha : LsR β args args') (he : cntE H args = some (v, H')) :
    ∃ w1, (Extern.BytealgCount.count args'.toArray).run P w = .ok v w1 ∧ M w0 K ro β H' w1 ∧ VR β v v := by
  unfold cntE at he
  split at he
  · rename_i s c
    cases he
    obtain ⟨x', y', rfl, q1, q2⟩ := lsr2 ha
    cases q1; cases q2
    exact ⟨w, rfl, h, .int _ _⟩
  · cases he
theorem idxE_run {P : Program} {w0 w : World} {K : Nat → Prop} {ro : Nat → Bool} {β : Env} {H : Heap} (h : M w0 K ro β H w) {args args' : List Value} {v : Value} {H' : Heap} (ha : LsR β args args') (he : idxE H args = some (v, H')) :
    ∃ w1, (Extern.BytealgIndexByte.indexByte args'.toArray).run P w = .ok v w1 ∧ M w0 K ro β H' w1 ∧ VR β v v := by
  unfold idxE at he
  split at he
  · rename_i s c
    cases he
    obtain ⟨x', y', rfl, q1, q2⟩ := lsr2 ha
    cases q1; cases q2
    refine ⟨w, ?_, h, .int _ _⟩
    unfold idxN
    show (match (List.range s.size).find? fun i => s[i]! == c.toNat.toUInt8 with
      | some i => pure (goInt i)
      | none => pure (goInt (-1)) : Sem Value).run P w = _
    cases (List.range s.size).find? fun i => s[i]! == c.toNat.toUInt8 <;> rfl
  · cases he
theorem Outs.run_ok {P : Program} {w0 w : World} {K : Nat → Prop} {ro : Nat → Bool} {β : Env} {H : Heap} (h : M w0 K ro β H w) {k : Outs} {args args' : List Value} {v : Value} {H' : Heap} (ha : LsR β args args') (he : k.run ro H args = some (v, H')) :
    ∃ w1, (k.sem args'.toArray).run P w = .ok v w1 ∧ M w0 K ro β H' w1 ∧ VR β v v := by
  cases k with
  | add64 => exact atomE_run h ha he
  | countStr => exact cntE_run h ha he
  | idxStr => exact idxE_run h ha he
/-- these functions are what they are told to be -/
def ExtOk (P : Program) (xf : FuncId → Option Outs) : Prop :=
  ∀ g k, xf g = some k → ∃ fn, P.funcs[g]? = some fn ∧ (fn.name == "runtime.NumGoroutine") = false ∧ fn.body.isNone = true ∧ Extern.findNext fn = none ∧ Extern.find fn = some k.sem
def extE (xf : FuncId → Option Outs) (ro : Nat → Bool) (T : List Value) (H : Heap) (o : Oper) : Option (Value × Heap) :=
  match o.op with
  | .call { callee := .value f, args, .. } =>
    match opd T f, opds T args.toList with
    | some (.func (.func g) first captured), some as => match xf g with
      | some k => k.run ro H (first.toList ++ as ++ captured.toList)
      | none => none
    | _, _ => none
  | _ => none
theorem extE_run {P : Program} {w0 w : World} {K : Nat → Prop} {ro : Nat → Bool} {β : Env} {H : Heap} {xf : FuncId → Option Outs} (hX : ExtOk P xf) (h : M w0 K ro β H w) {T : List Value} {a : Act} (hT : LsR β T a.tmps.toList) {o : Oper} {v : Value} {H' : Heap} (he : extE xf ro T H o = some (v, H')) :
    OpOk P w0 K ro β w a o v H' := by
  unfold extE at he
  split at he
  case h_2 => cases he
  rename_i fo as ts ho
  split at he
  case h_2 => cases he
  rename_i g first captured al e1 e2
  split at he
  case h_2 => cases he
  rename_i k hk
  obtain ⟨fn, h1, h2, h3, h4, h5⟩ := hX g k hk
  have hv := opd_vr h.glob hT e1
  have hl := opds_vr h.glob hT _ _ e2
  generalize hfe : a.eval fo = fv at hv
  cases hv with
  | func h0 p1 p2 p3 p4 =>
  rename_i first' captured'
  have q1 := AsR.toList (β := β) (c := first) (c' := first') ⟨p1, p2⟩
  have q2 := AsR.toList (β := β) (c := captured) (c' := captured') ⟨p3, p4⟩
  obtain ⟨w1, r1, r2, r3⟩ := Outs.run_ok (P := P) h ((q1.append hl).append q2) he
  refine ⟨.value v, v, w1, β, ?_, .inl rfl, Ext.refl β, r2, r3⟩
  have harr : first' ++ as.map a.eval ++ captured' = (first'.toList ++ List.map a.eval as.toList ++ captured'.toList).toArray := by apply Array.ext'; simp
  unfold execOp
  simp only [ho, resolve, Sem.run_bind, hfe, Deferred.ofValue, Sem.run_pure, Result.andThen_ok, invoke]
  rw [harr, run_callFunc_extern h1 h2 h3 h4 h5, r1]
  rfl

/-! ### assertions of types -/
def isIfaceD : TypeDesc → Bool
  | .interface _ => true
  | _ => false
def asrtE (P : Program) (T : List Value) (H : Heap) (o : Oper) : Option (Value × Heap) :=
  match o.op with
  | .typeAssert x _ asserted ok =>
    match opd T x, P.underlying asserted with
    | some (.iface t v), some d =>
      if isIfaceD d then
        match d, P.info? t with
        | .interface want, some i => match Instr.missingMethod want i.methods with
          | none => some (if ok then .tuple #[.iface t v, .bool true] else .iface t v, H)
          | some _ => if ok then (match zeroV P asserted with | some z => some (.tuple #[z, .bool false], H) | none => none) else none
        | _, _ => none
      else if t = asserted then some (if ok then .tuple #[v, .bool true] else v, H)
      else if ok then (match zeroV P asserted with | some z => some (.tuple #[z, .bool false], H) | none => none) else none
    | some .nilIface, some d => if ok then (match zeroV P asserted with | some z => some (.tuple #[z, .bool false], H) | none => none) else none
    | _, _ => none
  | _ => none
theorem asrtE_run {P : Program} {w0 w : World} {K : Nat → Prop} {ro : Nat → Bool} {β : Env} {H : Heap} (h : M w0 K ro β H w) {T : List Value} {a : Act} (hT : LsR β T a.tmps.toList) {o : Oper} {v : Value} {H' : Heap} (he : asrtE P T H o = some (v, H')) :
    OpOk P w0 K ro β w a o v H' := by
  unfold asrtE at he
  split at he
  case h_2 => cases he
  rename_i x xt asserted ok ho
  have fin : ∀ {v v' : Value}, (Instr.typeAssert (a.eval x) xt asserted ok).run P w = .ok v' w → VR β v v' → OpOk P w0 K ro β w a o v H := by
    intro v v' h1 h2
    refine ⟨.value v', v', w, β, ?_, .inl rfl, Ext.refl β, h, h2⟩
    unfold execOp
    simp only [ho, Sem.run_bind, h1, Result.andThen_ok, Sem.run_pure]
  split at he
  · rename_i t u d e1 hu
    have hv := opd_vr h.glob hT e1
    generalize a.eval x = xv at hv fin
    cases hv with
    | iface hv =>
    rename_i v'
    split at he
    · rename_i hif
      split at he
      case h_2 => cases he
      rename_i want i hi
      have hti : (typeInfo t).run P w = .ok i w := by simp [typeInfo, hi]
      split at he
      · rename_i hm
        cases he
        cases ok with
        | true => exact fin (v' := .tuple #[.iface t v', .bool true]) (by simp [Instr.typeAssert, run_underlying hu, hti, hm]) (tuple2_vr (.iface hv) (.bool _))
        | false => exact fin (v' := .iface t v') (by simp [Instr.typeAssert, run_underlying hu, hti, hm]) (.iface hv)
      · rename_i m hm
        split at he
        case isFalse => cases he
        rename_i hok
        subst hok
        split at he
        · rename_i z hz
          cases he
          obtain ⟨z1, z2⟩ := zeroV_run hz
          exact fin (v' := .tuple #[z, .bool false]) (by simp [Instr.typeAssert, run_underlying hu, hti, hm, z1]) (tuple2_vr (still_vr z2) (.bool _))
        · cases he
    · rename_i hif
      have hrun : (Instr.typeAssert (.iface t v') xt asserted ok).run P w = ((if t = asserted then pure (if ok then .tuple #[v', .bool true] else v') else if ok then (do pure (.tuple #[← zeroValue asserted, .bool false])) else runtimePanic (.typeAssertion (some xt) (some t) asserted "") : Sem Value)).run P w := by
        unfold Instr.typeAssert
        rw [Sem.run_bind, run_underlying hu, Result.andThen_ok]
        cases d <;> first
          | (simp [isIfaceD] at hif; done)
          | rfl
      rw [hrun] at fin
      split at he
      · rename_i ht
        cases he
        cases ok with
        | true => exact fin (v' := .tuple #[v', .bool true]) (by simp [ht]) (tuple2_vr hv (.bool _))
        | false => exact fin (v' := v') (by simp [ht]) hv
      · rename_i ht
        split at he
        case isFalse => cases he
        rename_i hok
        subst hok
        split at he
        · rename_i z hz
          cases he
          obtain ⟨z1, z2⟩ := zeroV_run hz
          exact fin (v' := .tuple #[z, .bool false]) (by simp [ht, z1]) (tuple2_vr (still_vr z2) (.bool _))
        · cases he
  · rename_i d e1 hu
    have hv := opd_vr h.glob hT e1
    generalize a.eval x = xv at hv fin
    cases hv
    split at he
    case isFalse => cases he
    rename_i hok
    subst hok
    split at he
    · rename_i z hz
      cases he
      obtain ⟨z1, z2⟩ := zeroV_run hz
      refine fin (v' := .tuple #[z, .bool false]) ?_ (tuple2_vr (still_vr z2) (.bool _))
      unfold Instr.typeAssert
      rw [Sem.run_bind, run_underlying hu, Result.andThen_ok]
      cases d <;> simp [z1]
    · cases he
  · cases he

/-- how many cells a row has -/
def rowE (P : Program) (T : List Value) (H : Heap) (o : Oper) : Option (Value × Heap) :=
  match o.op with
  | .call { callee := .builtin .len, args, argTypes } => match opds T args.toList, argTypes[0]? with
    | some [.complex _ j _], some t => match P.underlying t with
      | some (.slice _) => some (.chan (some j), H)
      | _ => none
    | _, _ => none
  | _ => none
theorem rowE_run {P : Program} {w0 w : World} {K : Nat → Prop} {ro : Nat → Bool} {β : Env} {H : Heap} (h : M w0 K ro β H w) {T : List Value} {a : Act} (hT : LsR β T a.tmps.toList) {o : Oper} {v : Value} {H' : Heap} (he : rowE P T H o = some (v, H')) :
    OpOk P w0 K ro β w a o v H' := by
  unfold rowE at he
  split at he
  case h_2 => cases he
  rename_i args argTypes ho
  split at he
  case h_2 => cases he
  rename_i k j l t ha ht
  split at he
  case h_2 => cases he
  rename_i e hu
  cases he
  obtain ⟨x', hl, hx⟩ := lsr1 (opds_vr h.glob hT args.toList _ ha)
  cases hx with
  | row k r =>
    obtain ⟨ad, n, c, rfl, r2, r3, r4, r5⟩ := r
    have harr : args.map a.eval = #[.slice (some ad) n c] := by
      apply Array.ext'
      simpa using hl
    refine ⟨.value (goInt n), goInt n, w, β, ?_, .inl rfl, Ext.refl β, h, .sym j r3.symm rfl r4⟩
    obtain ⟨dst, op, ty, pos, after, guard⟩ := o
    cases ho
    have hx : execOp a.eval ⟨dst, .call ⟨.builtin .len, args, argTypes⟩, ty, pos, after, guard⟩ = builtin .len argTypes ty (args.map fun | .const _ => true | _ => false) (args.map a.eval) := rfl
    rw [hx, harr]
    show (do pure (.value (← Builtin.len_ argTypes ty #[.slice (some ad) n c])) : Sem Next).run P w = _
    simp [Builtin.len_, ht, run_underlying hu]

def opX (P : Program) (xf : FuncId → Option Outs) (ro : Nat → Bool) (T : List Value) (H : Heap) (o : Oper) : Option (Value × Heap) := orE (opE P ro T H o) (orE (extE xf ro T H o) (orE (asrtE P T H o) (rowE P T H o)))
theorem opX_run {P : Program} {w0 w : World} {K : Nat → Prop} {ro : Nat → Bool} {β : Env} {H : Heap} {xf : FuncId → Option Outs} (hX : ExtOk P xf) (h : M w0 K ro β H w) {T : List Value} {a : Act} (hT : LsR β T a.tmps.toList) {o : Oper} {v : Value} {H' : Heap} (he : opX P xf ro T H o = some (v, H')) :
    OpOk P w0 K ro β w a o v H' := by
  rcases orE_some he with he | he
  · exact opE_run h hT he
  · rcases orE_some he with he | he
    · exact extE_run hX h hT he
    · rcases orE_some he with he | he
      · exact asrtE_run h hT he
      · exact rowE_run h hT he
/-- an operation that is done is no 'defer' -/
theorem opX_noDefer {P : Program} {ro : Nat → Bool} {H : Heap} {xf : FuncId → Option Outs} {T : List Value} {o : Oper} {x : Value × Heap} (he : opX P xf ro T H o = some x) : ∀ c, o.op ≠ .defer c := by
  intro c hc
  rcases orE_some he with he | he
  · unfold opE at he; rw [hc] at he; cases he
  · rcases orE_some he with he | he
    · unfold extE at he; rw [hc] at he; cases he
    · rcases orE_some he with he | he
      · unfold asrtE at he; rw [hc] at he; cases he
      · unfold rowE at he; rw [hc] at he; cases he
end Go.Proofs.YthbkjhacnnoolaaDoorZev
end
