/- Functions without a Go body: the atomic addition, the count of a byte. No condition. -/
import Derived.Test.YtfolamkjlgpgmaaDoorZev13
import GoSem.Extern.Atomic
import GoSem.Extern.BytealgCount
import GoSem.Extern.BytealgIndexByte
import GoSem.Extern.Table
import Derived.Laws.Externs
namespace Go.Proofs.YtfolamkjlgpgmaaDoorZev
open Go.RowKit
set_option linter.unusedVariables false
set_option linter.unusedSectionVars false
variable [Sym] [Kin] [Glob]

def atomE (ro : Nat → Bool) (H : Heap) : List Value → Option (Value × Heap)
  | [.pointer (some ⟨l, o, none⟩), .int .u64 d] =>
    match H[l]? with
    | some (some (.cells c ty z)) => match c[o]? with
      | some (.int .u64 old) => if ro l = false then some (.int .u64 (IntKind.wrap .u64 (old + d)), H.set l (some (.cells (putAll c o [.int .u64 (IntKind.wrap .u64 (old + d))]) ty z))) else none
      | _ => none
    | _ => none
  | _ => none

theorem atomE_run {P : Program} {w0 w : World} {K : Nat → Prop} {ro : Nat → Bool} {β : Env} {H : Heap} (h : M w0 K ro β H w) {args args' : List Value} {v : Value} {H' : Heap} (ha : LsR β args args') (he : atomE ro H args = some (v, H')) :
    ∃ w1, (Extern.Atomic.update (Op.intArith .add) .u64 true args'.toArray).run P w = .ok v w1 ∧ M w0 K ro β H' w1 ∧ VR β v v := by
  unfold atomE at he
  split at he
  · rename_i l o d
    split at he
    · rename_i c ty z hl
      split at he
      · rename_i old ho
        split at he
        · rename_i hro
          cases he
          obtain ⟨p, c', t', fz, h1, h2, h3, hz⟩ := h.cells (o := o) hl
          obtain ⟨x', y', rfl, q1, q2⟩ := lsr2 ha
          cases q2
          cases q1 with
          | ptr k =>
            obtain ⟨_, rfl⟩ := k.live h1
            obtain ⟨u, hu, hv⟩ := h3.at_ o _ ho
            cases hv
            have hlt : o < c.size := (Array.getElem?_eq_some_iff.1 ho).1
            have hle := h3.le
            have hsz := h3.size
            have hc : w.cell? ⟨p.b, p.s + o, none⟩ = some (.int .u64 old) := by
              rw [cell_of_row w p.b _ c' t' fz h2]; exact hu
            have hf : w.frozen? ⟨p.b, p.s + o, none⟩ = false := by
              have := h3.fz o (by omega)
              simp only [World.frozen?, h2]
              simpa using this
            refine ⟨w.setCell ⟨p.b, p.s + o, none⟩ (.int .u64 (IntKind.wrap .u64 (old + d))), ?_, h.turn h1 hro _ _ (Chg.setCell w p.b _ _) (heap_setCell_blk h2 _ _) (.cells ?_ hz), .int _ _⟩
            · show (do
                let a ← asAddr (.pointer (some ⟨p.b, p.s + o, none⟩))
                let old ← Extern.Atomic.read (.int .u64) a
                let new ← Op.intArith .add .u64 (← asInt old) (← asInt (.int .u64 d))
                store a new .atomic
                pure (if true then new else old) : Sem Value).run P w = _
              have hs : (store ⟨p.b, p.s + o, none⟩ (.int .u64 (IntKind.wrap .u64 (old + d))) .atomic).run P w = .ok () (w.setCell ⟨p.b, p.s + o, none⟩ (.int .u64 (IntKind.wrap .u64 (old + d)))) := by
                rw [run_store P w _ _ _ rfl, hc]; simp [hf]
              simp [Extern.Atomic.read, asAddr, asInt, asIntOf, Op.intArith, hc, hs]
            · have := CR.putAll [Value.int .u64 (IntKind.wrap .u64 (old + d))] [Value.int .u64 (IntKind.wrap .u64 (old + d))] c c' o h3 ⟨rfl, fun i x x' a b => by rw [a] at b; cases b; cases i <;> simp at a; subst a; exact .int _ _⟩ (by simp; omega)
              simpa [putAll] using this
        · cases he
      · cases he
    · cases he
  · cases he

/-! ### functions without a body -/
inductive Outs where
  | add64
  | countStr
  | idxStr
def Outs.sem : Outs → Array Value → Sem Value
  | .add64 => Extern.Atomic.update (Op.intArith .add) .u64 true
  | .countStr => Extern.BytealgCount.count
  | .idxStr => Extern.BytealgIndexByte.indexByte
def cntE (H : Heap) : List Value → Option (Value × Heap)
  | [.string s, .int .u8 c] => some (goInt (s.foldl (fun n x => if x == c.toNat.toUInt8 then n + 1 else n) (0 : Nat)), H)
  | _ => none
def idxN (s : ByteArray) (c : Int) : Int := match (List.range s.size).find? fun i => s[i]! == c.toNat.toUInt8 with
  | some i => (i : Int)
  | none => -1
def idxE (H : Heap) : List Value → Option (Value × Heap)
  | [.string s, .int .u8 c] => some (goInt (idxN s c), H)
  | _ => none
def Outs.run (ro : Nat → Bool) (H : Heap) : Outs → List Value → Option (Value × Heap)
  | .add64, l => atomE ro H l
  | .countStr, l => cntE H l
  | .idxStr, l => idxE H l
theorem cntE_run {P : Program} {w0 w : World} {K : Nat → Prop} {ro : Nat → Bool} {β : Env} {H : Heap} (h : M w0 K ro β H w) {args args' : List Value} {v : Value} {H' : Heap} (ha : LsR β args args') (he : cntE H args = some (v, H')) :
    ∃ w1, (Extern.BytealgCount.count args'.toArray).run P w = .ok v w1 ∧ M w0 K ro β H' w1 ∧ VR β v v := by
  unfold cntE at he
  split at he
  · rename_i s c
    cases he
    obtain ⟨x', y', rfl, q1, q2⟩ := lsr2 ha
    cases q1; cases q2
    exact ⟨w, rfl, h, .int _ _⟩
  · cases he
theorem idxE_run {P : Program} {w0 w : World} {K : Nat → Prop} {ro : Nat → Bool} {β : Env} {H : Heap} (h : M w0 K ro β H w) {args args' : List Value} {v : Value} {H' : Heap} (ha : LsR β args args') (he : idxE H args = some (v, H')) :
    ∃ w1, (Extern.BytealgIndexByte.indexByte args'.toArray).run P w = .ok v w1 ∧ M w0 K ro β H' w1 ∧ VR β v v := by
  unfold idxE at he
  split at he
  · rename_i s c
    cases he
    obtain ⟨x', y', rfl, q1, q2⟩ := lsr2 ha
    cases q1; cases q2
    refine ⟨w, ?_, h, .int _ _⟩
    unfold idxN
    show (match (List.range s.size).find? fun i => s[i]! == c.toNat.toUInt8 with
      | some i => pure (goInt i)
      | none => pure (goInt (-1)) : Sem Value).run P w = _
    cases (List.range s.size).find? fun i => s[i]! == c.toNat.toUInt8 <;> rfl
  · cases he
theorem Outs.run_ok {P : Program} {w0 w : World} {K : Nat → Prop} {ro : Nat → Bool} {β : Env} {H : Heap} (h : M w0 K ro β H w) {k : Outs} {args args' : List Value} {v : Value} {H' : Heap} (ha : LsR β args args') (he : k.run ro H args = some (v, H')) :
    ∃ w1, (k.sem args'.toArray).run P w = .ok v w1 ∧ M w0 K ro β H' w1 ∧ VR β v v := by
  cases k with
  | add64 => exact atomE_run h ha he
  | countStr => exact cntE_run h ha he
  | idxStr => exact idxE_run h ha he
/-- these functions are what they are told to be -/
def ExtOk (P : Program) (xf : FuncId → Option Outs) : Prop :=
  ∀ g k, xf g = some k → ∃ fn, P.funcs[g]? = some fn ∧ (fn.name == "runtime.NumGoroutine") = false ∧ fn.body.isNone = true ∧ Extern.findNext fn = none ∧ Extern.find fn = some k.sem
def extE (xf : FuncId → Option Outs) (ro : Nat → Bool) (T : List Value) (H : Heap) (o : Oper) : Option (Value × Heap) :=
  match o.op with
  | .call { callee := .value f, args, .. } =>
    match opd T f, opds T args.toList with
    | some (.func (.func g) first captured), some as => match xf g with
      | some k => k.run ro H (first.toList ++ as ++ captured.toList)
      | none => none
    | _, _ => none
  | _ => none
theorem extE_run {P : Program} {w0 w : World} {K : Nat → Prop} {ro : Nat → Bool} {β : Env} {H : Heap} {xf : FuncId → Option Outs} (hX : ExtOk P xf) (h : M w0 K ro β H w) {T : List Value} {a : Act} (hT : LsR β T a.tmps.toList) {o : Oper} {v : Value} {H' : Heap} (he : extE xf ro T H o = some (v, H')) :
    OpOk P w0 K ro β w a o v H' := by
  unfold extE at he
  split at he
  case h_2 => cases he
  rename_i fo as ts ho
  split at he
  case h_2 => cases he
  rename_i g first captured al e1 e2
  split at he
  case h_2 => cases he
  rename_i k hk
  obtain ⟨fn, h1, h2, h3, h4, h5⟩ := hX g k hk
  have hv := opd_vr h.glob hT e1
  have hl := opds_vr h.glob hT _ _ e2
  generalize hfe : a.eval fo = fv at hv
  cases hv with
  | func h0 p1 p2 p3 p4 =>
  rename_i first' captured'
  have q1 := AsR.toList (β := β) (c := first) (c' := first') ⟨p1, p2⟩
  have q2 := AsR.toList (β := β) (c := captured) (c' := captured') ⟨p3, p4⟩
  obtain ⟨w1, r1, r2, r3⟩ := Outs.run_ok (P := P) h ((q1.append hl).append q2) he
  refine ⟨.value v, v, w1, β, ?_, .inl rfl, Ext.refl β, r2, r3⟩
  have harr : first' ++ as.map a.eval ++ captured' = (first'.toList ++ List.map a.eval as.toList ++ captured'.toList).toArray := by apply Array.ext'; simp
  unfold execOp
  simp only [ho, resolve, Sem.run_bind, hfe, Deferred.ofValue, Sem.run_pure, Result.andThen_ok, invoke]
  rw [harr, run_callFunc_extern h1 h2 h3 h4 h5, r1]
  rfl

/-! ### assertions of types -/
def isIfaceD : TypeDesc → Bool
  | .interface _ => true
  | _ => false
def asrtE (P : Program) (T : List Value) (H : Heap) (o : Oper) : Option (Value × Heap) :=
  match o.op with
  | .typeAssert x _ asserted ok =>
    match opd T x, P.underlying asserted with
    | some (.iface t v), some d =>
      if isIfaceD d then
        match d, P.info? t with
        | .interface want, some i => match Instr.missingMethod want i.methods with
          | none => some (if ok then .tuple #[.iface t v, .bool true] else .iface t v, H)
          | some _ => if ok then (match zeroV P asserted with | some z => some (.tuple #[z, .bool false], H) | none => none) else none
        | _, _ => none
      else if t = asserted then some (if ok then .tuple #[v, .bool true] else v, H)
      else if ok then (match zeroV P asserted with | some z => some (.tuple #[z, .bool false], H) | none => none) else none
    | some .nilIface, some d => if ok then (match zeroV P asserted with | some z => some (.tuple #[z, .bool false], H) | none => none) else none
    | _, _ => none
  | _ => none
theorem asrtE_run {P : Program} {w0 w : World} {K : Nat → Prop} {ro : Nat → Bool} {β : Env} {H : Heap} (h : M w0 K ro β H w) {T : List Value} {a : Act} (hT : LsR β T a.tmps.toList) {o : Oper} {v : Value} {H' : Heap} (he : asrtE P T H o = some (v, H')) :
    OpOk P w0 K ro β w a o v H' := by
  unfold asrtE at he
  split at he
  case h_2 => cases he
  rename_i x xt asserted ok ho
  have fin : ∀ {v v' : Value}, (Instr.typeAssert (a.eval x) xt asserted ok).run P w = .ok v' w → VR β v v' → OpOk P w0 K ro β w a o v H := by
    intro v v' h1 h2
    refine ⟨.value v', v', w, β, ?_, .inl rfl, Ext.refl β, h, h2⟩
    unfold execOp
    simp only [ho, Sem.run_bind, h1, Result.andThen_ok, Sem.run_pure]
  split at he
  · rename_i t u d e1 hu
    have hv := opd_vr h.glob hT e1
    generalize a.eval x = xv at hv fin
    cases hv with
    | iface hv =>
    rename_i v'
    split at he
    · rename_i hif
      split at he
      case h_2 => cases he
      rename_i want i hi
      have hti : (typeInfo t).run P w = .ok i w := by simp [typeInfo, hi]
      split at he
      · rename_i hm
        cases he
        cases ok with
        | true => exact fin (v' := .tuple #[.iface t v', .bool true]) (by simp [Instr.typeAssert, run_underlying hu, hti, hm]) (tuple2_vr (.iface hv) (.bool _))
        | false => exact fin (v' := .iface t v') (by simp [Instr.typeAssert, run_underlying hu, hti, hm]) (.iface hv)
      · rename_i m hm
        split at he
        case isFalse => cases he
        rename_i hok
        subst hok
        split at he
        · rename_i z hz
          cases he
          obtain ⟨z1, z2⟩ := zeroV_run hz
          exact fin (v' := .tuple #[z, .bool false]) (by simp [Instr.typeAssert, run_underlying hu, hti, hm, z1]) (tuple2_vr (still_vr z2) (.bool _))
        · cases he
    · rename_i hif
      have hrun : (Instr.typeAssert (.iface t v') xt asserted ok).run P w = ((if t = asserted then pure (if ok then .tuple #[v', .bool true] else v') else if ok then (do pure (.tuple #[← zeroValue asserted, .bool false])) else runtimePanic (.typeAssertion (some xt) (some t) asserted "") : Sem Value)).run P w := by
        unfold Instr.typeAssert
        rw [Sem.run_bind, run_underlying hu, Result.andThen_ok]
        cases d <;> first
          | (simp [isIfaceD] at hif; done)
          | rfl
      rw [hrun] at fin
      split at he
      · rename_i ht
        cases he
        cases ok with
        | true => exact fin (v' := .tuple #[v', .bool true]) (by simp [ht]) (tuple2_vr hv (.bool _))
        | false => exact fin (v' := v') (by simp [ht]) hv
      · rename_i ht
        split at he
        case isFalse => cases he
        rename_i hok
        subst hok
        split at he
        · rename_i z hz
          cases he
          obtain ⟨z1, z2⟩ := zeroV_run hz
          exact fin (v' := .tuple #[z, .bool false]) (by simp [ht, z1]) (tuple2_vr (still_vr z2) (.bool _))
        · cases he
  · rename_i d e1 hu
    have hv := opd_vr h.glob hT e1
    generalize a.eval x = xv at hv fin
    cases hv
    split at he
    case isFalse => cases he
    rename_i hok
    subst hok
    split at he
    · rename_i z hz
      cases he
      obtain ⟨z1, z2⟩ := zeroV_run hz
      refine fin (v' := .tuple #[z, .bool false]) ?_ (tuple2_vr (still_vr z2) (.bool _))
      unfold Instr.typeAssert
      rw [Sem.run_bind, run_underlying hu, Result.andThen_ok]
      cases d <;> simp [z1]
    · cases he
  · cases he

/-- how many cells a row has -/
def rowE (P : Program) (T : List Value) (H : Heap) (o : Oper) : Option (Value × Heap) :=
  match o.op with
  | .call { callee := .builtin .len, args, argTypes } => match opds T args.toList, argTypes[0]? with
    | some [.complex _ j _], some t => match P.underlying t with
      | some (.slice _) => some (.chan (some j), H)
      | _ => none
    | _, _ => none
  | _ => none
theorem rowE_run {P : Program} {w0 w : World} {K : Nat → Prop} {ro : Nat → Bool} {β : Env} {H : Heap} (h : M w0 K ro β H w) {T : List Value} {a : Act} (hT : LsR β T a.tmps.toList) {o : Oper} {v : Value} {H' : Heap} (he : rowE P T H o = some (v, H')) :
    OpOk P w0 K ro β w a o v H' := by
  unfold rowE at he
  split at he
  case h_2 => cases he
  rename_i args argTypes ho
  split at he
  case h_2 => cases he
  rename_i k j l t ha ht
  split at he
  case h_2 => cases he
  rename_i e hu
  cases he
  obtain ⟨x', hl, hx⟩ := lsr1 (opds_vr h.glob hT args.toList _ ha)
  cases hx with
  | row k r =>
    obtain ⟨ad, n, c, rfl, r2, r3, r4, r5⟩ := r
    have harr : args.map a.eval = #[.slice (some ad) n c] := by
      apply Array.ext'
      simpa using hl
    refine ⟨.value (goInt n), goInt n, w, β, ?_, .inl rfl, Ext.refl β, h, .sym j r3.symm rfl r4⟩
    obtain ⟨dst, op, ty, pos, after, guard⟩ := o
    cases ho
    have hx : execOp a.eval ⟨dst, .call ⟨.builtin .len, args, argTypes⟩, ty, pos, after, guard⟩ = builtin .len argTypes ty (args.map fun | .const _ => true | _ => false) (args.map a.eval) := rfl
    rw [hx, harr]
    show (do pure (.value (← Builtin.len_ argTypes ty #[.slice (some ad) n c])) : Sem Next).run P w = _
    simp [Builtin.len_, ht, run_underlying hu]

def opX (P : Program) (xf : FuncId → Option Outs) (ro : Nat → Bool) (T : List Value) (H : Heap) (o : Oper) : Option (Value × Heap) := orE (opE P ro T H o) (orE (extE xf ro T H o) (orE (asrtE P T H o) (rowE P T H o)))
theorem opX_run {P : Program} {w0 w : World} {K : Nat → Prop} {ro : Nat → Bool} {β : Env} {H : Heap} {xf : FuncId → Option Outs} (hX : ExtOk P xf) (h : M w0 K ro β H w) {T : List Value} {a : Act} (hT : LsR β T a.tmps.toList) {o : Oper} {v : Value} {H' : Heap} (he : opX P xf ro T H o = some (v, H')) :
    OpOk P w0 K ro β w a o v H' := by
  rcases orE_some he with he | he
  · exact opE_run h hT he
  · rcases orE_some he with he | he
    · exact extE_run hX h hT he
    · rcases orE_some he with he | he
      · exact asrtE_run h hT he
      · exact rowE_run h hT he
/-- an operation that is done is no 'defer' -/
theorem opX_noDefer {P : Program} {ro : Nat → Bool} {H : Heap} {xf : FuncId → Option Outs} {T : List Value} {o : Oper} {x : Value × Heap} (he : opX P xf ro T H o = some x) : ∀ c, o.op ≠ .defer c := by
  intro c hc
  rcases orE_some he with he | he
  · unfold opE at he; rw [hc] at he; cases he
  · rcases orE_some he with he | he
    · unfold extE at he; rw [hc] at he; cases he
    · rcases orE_some he with he | he
      · unfold asrtE at he; rw [hc] at he; cases he
      · unfold rowE at he; rw [hc] at he; cases he
end Go.Proofs.YtfolamkjlgpgmaaDoorZev
