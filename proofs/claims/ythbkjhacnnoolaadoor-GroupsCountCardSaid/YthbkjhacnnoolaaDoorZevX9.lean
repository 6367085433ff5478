/- Several texts in one: Zev16. No condition beyond those that each part names. -/
import Derived.Test.YthbkjhacnnoolaaDoorZevX8
import Derived.Test.YthbkjhacnnoolaaDoorZevX5
/- The run that is reckoned is a run. No condition. -/
section
namespace Go.Proofs.YthbkjhacnnoolaaDoorZev
open Go.RowKit
set_option linter.unusedVariables false
set_option linter.unusedSectionVars false
variable [Sym] [Kin] [Glob]

theorem decE_ds (i : Option Tmp) (t : Bool) (st : St) : (decE i t st).2.ds = st.ds := by unfold decE; split <;> rfl
theorem decS_ds (i : Nat) (d : Option Tmp) (st : St) : (decS i d st).2.ds = st.ds := by unfold decS; split <;> rfl
theorem wantE_ds (arr : Array Oper) (o : Oper) (st : St) : (wantE arr o st).2.ds = st.ds := by
  unfold wantE
  split
  · rfl
  · split
    · exact decE_ds _ _ _
    · split
      · exact decS_ds _ _ _
      · rfl
      · rfl

def XQ (r : X) (Q : Exit → Act → World → Prop) (a : Act) (w : World) : Prop :=
  match r with
  | .normal => Q .normal a w
  | .exit id => Q (.exit id) a w
  | .goto l => Q (.goto l) a w
  | .ret => Q .ret a w
  | .val _ => True

/-- a frame is as reckoned -/
def TR (β : Env) (st : St) (a : Act) : Prop := LsR β st.T a.tmps.toList ∧ DsR β st.ds a.defers

def After (w0 : World) (K : Nat → Prop) (ro : Nat → Bool) (β : Env) (st' : St) (r : X) (Q : Exit → Act → World → Prop) : Prop :=
  ∀ a' w' β', Ext β β' → M w0 K ro β' st'.H w' → TR β' st' a' → XQ r Q a' w'

def CallR (w0 : World) (K : Nat → Prop) (ro : Nat → Bool) (β : Env) (H' : Heap) (v : Value) (e : Ending) (w' : World) : Prop :=
  ∃ v' β', e = .returned v' ∧ Ext β β' ∧ M w0 K ro β' H' w' ∧ VR β' v v'

def Snd (P : Program) (w0 : World) (K : Nat → Prop) (ro : Nat → Bool) (rd : Bool) (β : Env) (w : World) (st st' : St) (r : X) : Job → Prop
  | .code c => ∀ ρ a Q, (rd = false → ρ = none) → TR β st a → After w0 K ro β st' r Q → c.wpIn (fen ρ) 0 P Q a w
  | .loop c => ∀ ρ a Q, (rd = false → ρ = none) → TR β st a → After w0 K ro β st' r Q → WithinIn ρ P (.inLoop c) c Q a w
  | .scope b c => ∀ ρ a Q, (rd = false → ρ = none) → TR β st a → After w0 K ro β st' r Q → WithinIn ρ P (.inScope b) c Q a w
  | .ops arr rest => ∀ ρ a Q, (rd = false → ρ = none) → TR β st a → After w0 K ro β st' r Q → wpLst ρ P arr Q rest a w
  | .draw n0 arr fr k listed => Region.noSelect arr = true → noDefer arr = true → fr = freeE arr → Base β w0 K n0 ro →
      ∀ ρ a Q, (rd = false → ρ = none) → TR β st a → After w0 K ro β st' r Q → wpAH ρ P .any arr (NoPan Q) (SameOld w0 K) k listed a w
  | .call f args => ∀ v, r = .val v → ∀ args' : Array Value, LsR β args args'.toList → Calls P f args' w (CallR w0 K ro β st'.H v)
  | .round l args => ∀ v, r = .val v → ∀ (b : Nat) (args' : Array Value), LR β l b → LsR β args args'.toList →
      ∃ fn tmps assign body, (Instr.yield b args').run P w = .ok (.round b fn tmps assign body) w ∧ RoundIn Fence.wide 0 P b fn tmps assign body w (CallR w0 K ro β st'.H v)

theorem After.ext {w0 : World} {K : Nat → Prop} {ro : Nat → Bool} {β β' : Env} {st' : St} {r : X} {Q : Exit → Act → World → Prop} (h : After w0 K ro β st' r Q) (k : Ext β β') : After w0 K ro β' st' r Q :=
  fun a' w' β'' e => h a' w' β'' (k.trans e)

/-- the calls of which more is known come to what is told -/
def HookOk (C : Cfg) : Prop := ∀ ro f args H n v H' obs, C.hk ro f args H n = some (v, H', obs) → (∀ p ∈ obs, p.Holds C.P) →
  ∀ (w0 : World) (K : Nat → Prop) (β : Env) (w : World), M w0 K ro β H w → ∀ args' : Array Value, LsR β args args'.toList → Calls C.P f args' w (CallR w0 K ro β H' v)

theorem M.below {w0 w w' : World} {K : Nat → Prop} {ro : Nat → Bool} {β : Env} {H : Heap} (h : M w0 K ro β H w) (hb : Below w.heap.size w w') : M w0 K ro β H w' := by
  refine ⟨h.len, fun l o hl => ?_, fun l p hl => Nat.lt_of_lt_of_le (h.lt l p hl) hb.size, h.inj, h.own, hb.os.trans h.os, hb.tape.trans h.tape, hb.output.trans h.output, Nat.le_trans h.size hb.size, fun k hk hK => ?_, h.glob, h.mem⟩
  · obtain ⟨p, o', a, b, c⟩ := h.obj l o hl
    exact ⟨p, o', a, by rw [hb.block _ (lt_of_heap b)]; exact b, c⟩
  · rw [hb.block k (Nat.lt_of_lt_of_le hk h.size)]; exact h.block k hk hK

section
variable {P : Program} {w0 w : World} {K : Nat → Prop} {ro : Nat → Bool} {rd : Bool} {β : Env} {H : Heap} {ρ : Option Nat}

/-- a call, or a round, of a frame -/
theorem job_upon (hP : NoNum P) {st st1 : St} {o : Oper} {j : Job} {v : Value} {a : Act} (hM : M w0 K ro β st.H w) (hT : LsR β st.T a.tmps.toList) (hj : jobE P st.H st.T o = some j) (hS : Snd P w0 K ro rd β w st st1 (.val v) j)
    {K' : Act → World → Prop} {Q : Exit → Act → World → Prop} (hK : ∀ w' β' v', Ext β β' → M w0 K ro β' st1.H w' → VR β' v v' → K' (a.put o.dst v') w') :
    o.uponIn (fen ρ) 0 P a K' Q ((o.semAt ρ a.eval).run P w) := by
  rcases orE_some hj with hj | hj
  · rcases targetE_jobs hj with ⟨f, args, rfl⟩ | ⟨l, args, rfl⟩
    · obtain ⟨args', r1, r2⟩ := targetE_run (ρ := ρ) hP hM.glob hT hj
      rw [r2 w, Oper.uponIn_enter]
      refine ⟨fen_depth ρ, callsIn_fen.2 ((hS v rfl args' r1).mono fun en w' hR => ?_)⟩
      obtain ⟨v', β', rfl, s1, s2, s3⟩ := hR
      exact hK w' β' v' s1 s2 s3
    · obtain ⟨b, args', r0, r1, r2⟩ := targetY_run (P := P) (ρ := ρ) hM.glob hT hj
      obtain ⟨fn, tmps, assign, body, e1, e2⟩ := hS v rfl b args' r0 r1
      rw [r2 w, e1, Oper.uponIn_round]
      refine ⟨fen_depth ρ, roundIn_fen (e2.mono fun en w' hR => ?_)⟩
      obtain ⟨v', β', rfl, s1, s2, s3⟩ := hR
      exact hK w' β' v' s1 s2 s3
  · obtain ⟨f, args, args', rfl, r1, r2⟩ := invE_run (ρ := ρ) hP hM hT hj
    rw [r2, Oper.uponIn_enter]
    refine ⟨fen_depth ρ, callsIn_fen.2 ((hS v rfl args' r1).mono fun en w' hR => ?_)⟩
    obtain ⟨v', β', rfl, s1, s2, s3⟩ := hR
    exact hK w' β' v' s1 s2 s3

theorem symS_noDefer {st st1 : St} {o : Oper} (h : symS st o = some st1) : ∀ c, o.op ≠ .defer c := by
  intro c hc
  unfold symS at h
  rcases orE_some h with h | h
  · rcases symL_is h with ⟨r, t, x, a, ho, _⟩ | ⟨m, r, t, x, a, ho, _⟩ <;> (rw [hc] at ho; cases ho)
  unfold symE at h
  rw [hc] at h
  cases h

/-! ### the record of a loop over a function -/
theorem loopAt_eq {l : Nat} {r : Loop} (h : loopAt H l = some r) : H[l]? = some (some (.loop r)) := by
  unfold loopAt at h
  split at h
  · rename_i r' e; cases h; exact e
  · cases h
theorem M.record (h : M w0 K ro β H w) {l : Nat} {r : Loop} (hl : loopAt H l = some r) : ∃ p t' fn d, β[l]? = some (some p) ∧ p.s = 0 ∧ w.heap[p.b]? = some (.loop { r with tmps := t', fn := fn, defers := d }) ∧ AsR β r.tmps t' := by
  obtain ⟨p, o', a, b, c⟩ := h.obj l _ (loopAt_eq hl)
  cases c with
  | loop hs ht => exact ⟨p, _, _, _, a, hs, b, ht⟩
theorem LR.live {l b : Nat} {p : Spot} (h : LR β l b) (hl : β[l]? = some (some p)) : b = p.b := by
  obtain ⟨q, h1, h2⟩ | h1 := h
  · rw [hl] at h1; cases h1; exact h2
  · rw [hl] at h1; cases h1
theorem Chg.putObj (w : World) (b : Nat) (o : Obj) : Chg b w (w.putObj b o) := Chg.setObj w b o
/-- the record turned -/
theorem M.setRec (h : M w0 K ro β H w) {l : Nat} {p : Spot} {r : Loop} {t' : Array Value} {fn d : Nat} {o' : Obj} (hl : β[l]? = some (some p)) (hs : p.s = 0) (hro : ro l = false) (hb : w.heap[p.b]? = some o') (ht : AsR β r.tmps t') :
    M w0 K ro β (H.set l (some (.loop r))) (w.putObj p.b (.loop { r with tmps := t', fn := fn, defers := d })) :=
  h.turn hl hro _ _ (Chg.putObj w p.b _) (World.putObj_heap_same (lt_of_heap hb)) (.loop hs ht)

theorem setAll_len : ∀ (ts : List Tmp) (vs T : List Value), (setAll ts vs T).length = T.length := by
  intro ts
  induction ts with
  | nil => intro vs T; cases vs <;> rfl
  | cons t ts ih =>
    intro vs T
    cases vs with
    | nil => rfl
    | cons v vs => simp only [setAll]; rw [ih]; simp
theorem setAll_lsr : ∀ (ts : List Tmp) (vs vs' T : List Value) (A : Array Value), LsR β vs vs' → LsR β T A.toList →
    LsR β (setAll ts vs T) ((ts.zip vs').foldl (fun t (p : Tmp × Value) => t.setIfInBounds p.1 p.2) A).toList := by
  intro ts
  induction ts with
  | nil => intro vs vs' T A _ h; cases vs <;> simpa [setAll] using h
  | cons t ts ih =>
    intro vs vs' T A hv h
    cases vs with
    | nil =>
      have : vs' = [] := List.eq_nil_of_length_eq_zero hv.1.symm
      subst this
      simpa [setAll] using h
    | cons v vs =>
      cases vs' with
      | nil => have := hv.1; simp at this
      | cons v' vs' =>
        simp only [setAll, List.zip_cons_cons, List.foldl_cons]
        refine ih vs vs' (T.set t v) (A.setIfInBounds t v') ⟨by have := hv.1; simpa using this, fun i x x' p q => hv.2 (i + 1) x x' (by simpa using p) (by simpa using q)⟩ ?_
        have := AsR.set (c := T.toArray) (c' := A) ⟨by have := h.1; simpa using this, by simpa using h.2⟩ t (hv.2 0 v v' rfl rfl)
        simpa using this.toList

theorem marks_leave {fn : Func} {tmps : Array Value} {R : Ending → World → Prop} : ∀ (ds : List Nat) (defers : List Deferred) (H H2 : Heap) (w : World), marksE ro H ds = some H2 → M w0 K ro β H w → DsR β ds defers →
    (∀ w2, M w0 K ro β H2 w2 → ∃ v, (results fn tmps).run P w2 = .ok v w2 ∧ R (.returned v) w2) → LeavesInM (fen none) 0 P fn tmps R defers .returning w := by
  intro ds
  induction ds with
  | nil =>
    intro defers H H2 w h hM hd hk
    cases hd
    simp only [marksE, Option.some.injEq] at h
    subst h
    exact hk w hM
  | cons d ds ih =>
    intro defers H H2 w h hM hd hk
    cases hd with
    | cons hl hr =>
    simp only [marksE] at h
    split at h
    case h_2 => cases h
    rename_i hH
    split at h
    case isFalse => cases h
    rename_i hro
    obtain ⟨p, o', a, b, c⟩ := hM.obj d _ hH
    have hb := hl.live a
    subst hb
    cases c with
    | deferred hs _ =>
    refine ⟨by simp, .inl ⟨p.b, w.putObj p.b (.deferred none), rfl, run_takeDeferred b, ?_⟩⟩
    exact ih _ _ _ _ h (hM.turn a hro _ _ (Chg.putObj w p.b _) (World.putObj_heap_same (lt_of_heap b)) (.deferred hs (.inl rfl))) hr hk
/-- a loop over a function, its call being known -/
theorem range_run (hP : NoNum P) (hM : M w0 K ro β H w) {st1 : St} {T : List Value} {ds : List Nat} {hs : List Hint} {cs : List Ob} {a : Act} (hT : TR β ⟨T, H, hs, cs, ds⟩ a) {f : Operand} {g : FuncId} {first captured first' captured' : Array Value} {ps : Array Tmp} {asg body : Code} {v : Value}
    (hfe : a.eval f = .func (.func g) first' captured') (p1 : first.size = first'.size) (p2 : ∀ (i : Nat) (x x' : Value), first[i]? = some x → first'[i]? = some x' → VR β x x') (p3 : captured.size = captured'.size) (p4 : ∀ (i : Nat) (x x' : Value), captured[i]? = some x → captured'[i]? = some x' → VR β x x')
    {gfn : Func} (hgf : P.funcs[g]? = some gfn) (hgb : gfn.body.isSome = true) {lr : Loop} (hlr : loopAt st1.H (H.length + 1) = some lr) (hbusy : lr.state ≠ .busy) (hroL : ro (H.length + 1) = false)
    (hcall : ∀ β2 w2, M w0 K ro β2 (loopH H T ps asg body) w2 → ∀ args' : Array Value, LsR β2 (first.toList ++ [Value.func (.yield (H.length + 1)) #[] #[]] ++ captured.toList) args'.toList → Calls P g args' w2 (CallR w0 K ro β2 st1.H v))
    {Q : Exit → Act → World → Prop}
    (hQ : ∀ (jump : Option Code) β3 w4 a4, Ext β β3 → jump = lr.pending → M w0 K ro β3 (st1.H.set (H.length + 1) (some (.loop { lr with state := .exhausted }))) w4 →
      TR β3 { st1 with T := T, H := st1.H.set (H.length + 1) (some (.loop { lr with state := .exhausted })), ds := H.length :: ds } a4 → (match jump with | none => Q .normal a4 w4 | some c => c.wpIn (fen none) 0 P Q a4 w4)) :
    (Code.rangeFunc f ps asg body).wpIn (fen none) 0 P Q a w := by
  have hlen := hM.len
  have m1 : M w0 K ro (β ++ [some ⟨w.heap.size, 0, 0⟩]) (H ++ [some (.deferred (some []))]) (w.alloc (.deferred (some []))) := hM.alloc 0 _ _ (.deferred rfl (.inr rfl))
  have asT : AsR β T.toArray a.tmps := ⟨by have := hT.1.1; simpa using this, by simpa using hT.1.2⟩
  have hsz1 : (w.alloc (.deferred (some []))).heap.size = w.heap.size + 1 := by simp
  refine wpIn_rangeFunc fun fn hfn => ?_
  obtain ⟨W1, hW1⟩ : ∃ W1, W1 = (w.alloc (.deferred (some []))).alloc (.loop { state := .ready, pending := none, fn, tmps := a.tmps, params := ps, assign := asg, body := body, defers := w.heap.size }) := ⟨_, rfl⟩
  have m2 : M w0 K ro ((β ++ [some ⟨w.heap.size, 0, 0⟩]) ++ [some ⟨(w.alloc (.deferred (some []))).heap.size, 0, 0⟩]) (loopH H T ps asg body) W1 := by
    rw [hW1]
    exact m1.alloc 0 _ _ (.loop rfl ((asT.mono (Ext.push _ _)).mono (Ext.push _ _)))
  obtain ⟨β2, hβ2⟩ : ∃ β2, ((β ++ [some ⟨w.heap.size, 0, 0⟩]) ++ [some ⟨(w.alloc (.deferred (some []))).heap.size, 0, 0⟩]) = β2 := ⟨_, rfl⟩
  rw [hβ2] at m2
  have ext2 : Ext β β2 := by rw [← hβ2]; exact (Ext.push _ _).trans (Ext.push _ _)
  have bL : β2[H.length + 1]? = some (some ⟨w.heap.size + 1, 0, 0⟩) := by rw [← hβ2, ← hlen, hsz1]; simp
  have bD : β2[H.length]? = some (some ⟨w.heap.size, 0, 0⟩) := by rw [← hβ2, ← hlen]; simp
  have hargs : LsR β2 (first.toList ++ [Value.func (.yield (H.length + 1)) #[] #[]] ++ captured.toList) (first' ++ #[Value.func (.yield (w.heap.size + 1)) #[] #[]] ++ captured').toList := by
    have q1 := AsR.toList (β := β) (c := first) (c' := first') ⟨p1, p2⟩
    have q2 := AsR.toList (β := β) (c := captured) (c' := captured') ⟨p3, p4⟩
    have qy : LsR β2 [Value.func (.yield (H.length + 1)) #[] #[]] [Value.func (.yield (w.heap.size + 1)) #[] #[]] := .cons (.yld (.inl ⟨_, bL, rfl⟩)) (LsR.nil β2)
    simpa using ((q1.mono ext2).append qy).append (q2.mono ext2)
  have hc := hcall β2 W1 m2 _ hargs
  have hgb' : gfn.body.isNone = false := by cases hbb : gfn.body <;> simp_all
  have hent : (Instr.enterLoop fn a.tmps ps asg body none).run P w = .ok (w.heap.size + 1, [{ target := .collected w.heap.size, args := #[] }]) W1 := by rw [hW1]; exact run_enterLoop_outer _ _ _ _ _
  have hres : (resolve a.eval (rangeCall f (w.heap.size + 1)) 0).run P W1 = .ok { target := .fn (.func g) captured', args := first' ++ #[Value.func (.yield (w.heap.size + 1)) #[] #[]] } W1 := by
    simp only [resolve, hfe]
    simp [go_sem, Deferred.ofValue, Act.eval]
  have hinv : (invoke (.fn (.func g) captured') (first' ++ #[Value.func (.yield (w.heap.size + 1)) #[] #[]])).run P W1 = .ok (.enter g (first' ++ #[Value.func (.yield (w.heap.size + 1)) #[] #[]] ++ captured')) W1 := by
    simp only [invoke, callFunc, Sem.run_bind, run_program, Result.andThen_ok, hgf]
    simp only [hP _ gfn hgf, Bool.false_eq_true, if_false, hgb']
    rfl
  have hfin : Calls P g (first' ++ #[Value.func (.yield (w.heap.size + 1)) #[] #[]] ++ captured') W1 (rangePost (fen none) 0 P (w.heap.size + 1) Q { a with defers := [{ target := .collected w.heap.size, args := #[] }] ++ a.defers }) := by
    refine hc.mono fun en w3 hR => ?_
    obtain ⟨v', β3, rfl, e3, m3, _⟩ := hR
    obtain ⟨p, t', fn', d', bl, ps0, hb, ht⟩ := m3.record hlr
    have hpb : p.b = w.heap.size + 1 := by
      rcases e3 _ _ bL with q | q
      · rw [bl] at q; cases q; rfl
      · rw [bl] at q; cases q
    have hend := run_endLoop (P := P) (l := w.heap.size + 1) (r := { lr with tmps := t', fn := fn', defers := d' }) (by rw [← hpb]; exact hb) hbusy
    have m4 := m3.setRec (r := { lr with state := .exhausted }) (fn := fn') (d := d') bl ps0 hroL hb ht
    rw [hpb] at m4
    refine ⟨lr.pending, _, hend, ?_⟩
    exact hQ lr.pending β3 _ _ (ext2.trans e3) rfl m4 ⟨(hT.1.mono ext2).mono e3, .cons ((LR.mono e3 (.inl ⟨_, bD, rfl⟩))) ((hT.2.mono ext2).mono e3)⟩
  exact ⟨w.heap.size + 1, [{ target := .collected w.heap.size, args := #[] }], W1, _, W1, g, _, W1, hent, hres, fun _ _ => trivial, hinv, fen_depth none, callsIn_fen.2 hfin⟩
end

theorem jump_case {r : X} {j : Option Code} (h : jumpE r = some j) : (r = .normal ∧ j = none) ∨ (∃ id, r = .exit id ∧ j = some (.exit id)) ∨ (∃ l, r = .goto l ∧ j = some (.goto l)) ∨ (r = .ret ∧ j = some .ret) := by
  cases r <;> simp only [jumpE, Option.some.injEq] at h
  · exact .inl ⟨rfl, h.symm⟩
  · exact .inr (.inl ⟨_, rfl, h.symm⟩)
  · exact .inr (.inr (.inl ⟨_, rfl, h.symm⟩))
  · exact .inr (.inr (.inr ⟨rfl, h.symm⟩))
  · cases h

theorem stepD_kp {C : Cfg} (hK : HookKp C.hk) {n : Nat} {ro : Nat → Bool} {rd : Bool} {n0 : Nat} {arr : Array Oper} {fr : List Nat} {k : Nat} {listed : Array Bool} {st st' : St} {i : Nat} {r : X}
    (h : stepD C ro (fun j s => ev C ro rd n j s) n0 arr fr k listed st i = some (r, st')) : Kp ro st.H st'.H := by
  simp only [stepD] at h
  split at h
  · rename_i o ho
    have hp1 := wantE_H arr o st
    rw [← hp1]
    split at h
    · split at h
      · split at h
        · rename_i v st1 e; exact (have q := ev_kp C hK _ _ _ _ _ _ _ e; q).trans (have q := ev_kp C hK _ _ _ _ _ _ _ h; q)
        · cases h
      · split at h
        · rename_i v H' e; exact (opX_kp e).trans (have q := ev_kp C hK _ _ _ _ _ _ _ h; q)
        · cases h
    · exact (have q := ev_kp C hK _ _ _ _ _ _ _ h; q)
  · cases h

set_option maxHeartbeats 1000000 in
theorem ev_snd (C : Cfg) (hL : HookOk C) (hK : HookKp C.hk) (hX : ExtOk C.P C.xf) (hP : NoNum C.P) (hF : C.P.follows .mixedOrders = true) : ∀ (n : Nat) (ro : Nat → Bool) (rd : Bool) (job : Job) (st : St) (r : X) (st' : St), ev C ro rd n job st = some (r, st') → (∀ p ∈ st'.cs, p.Holds C.P) →
    ∀ (w0 : World) (K : Nat → Prop) (β : Env) (w : World), M w0 K ro β st.H w → Snd C.P w0 K ro rd β w st st' r job := by
  intro n
  induction n with
  | zero => intro ro rd job st r st' h; cases rd <;> cases h
  | succ n ih =>
    intro ro rd job st r st' h hcs w0 K β w hM
    cases job with
    | code c =>
      cases c <;> simp only [ev] at h
      case skip => cases h; exact fun ρ a Q hρ hT hA => wpIn_skip (hA a w β (Ext.refl β) hM hT)
      case label => cases h; exact fun ρ a Q hρ hT hA => wpIn_label (hA a w β (Ext.refl β) hM hT)
      case region id ops d =>
        cases d
        · exact fun ρ a Q hρ hT hA => wpLst_region (ih _ _ _ _ _ _ h hcs w0 K β w hM ρ a Q hρ hT hA)
        · simp only at h
          split at h
          · rename_i hns
            simp only [Bool.and_eq_true] at hns
            intro ρ a Q hρ hT hA
            refine noPan_wpIn (wpAH_region (S := SameOld w.drew (Kd β (roE ro st.H.length (popDirty st.hs).1))) hF ?_)
            have hM1 : M w0 K ro β st.H w.drew := hM.drew
            have h1 := ih _ _ _ _ _ _ h hcs w.drew (Kd β (roE ro st.H.length (popDirty st.hs).1)) β w.drew (hM1.sub _ (fun _ h => roE_old h)) hns.1 hns.2 rfl (hM1.base _) ρ a Q hρ hT
              (fun a' w' β' he hM' hT' => hA a' w' β' he (hM1.back hM' he) hT')
            exact h1
          · cases h
      case seq x y =>
        split at h
        · rename_i st1 e
          have h1 := ih _ _ _ _ _ _ e (fun p hp => hcs p (ev_cs C n _ _ _ _ _ _ h p hp)) w0 K β w hM
          exact fun ρ a Q hρ hT hA => wpIn_seq (h1 ρ a _ hρ hT fun a' w' β' he hM' hT' => ih _ _ _ _ _ _ h hcs w0 K β' w' hM' ρ a' Q hρ hT' (hA.ext he))
        · rename_i hn
          have h1 := ih _ _ _ _ _ _ h hcs w0 K β w hM
          refine fun ρ a Q hρ hT hA => wpIn_seq (h1 ρ a _ hρ hT fun a' w' β' he hM' hT' => ?_)
          have := hA a' w' β' he hM' hT'
          cases r with
          | normal => exact absurd h (hn _)
          | exit => exact this
          | goto => exact this
          | ret => exact this
          | val v => exact this
      case cond c x y =>
        split at h
        · rename_i t ht
          have hcs1 := fun p hp => hcs p (ev_cs C n _ _ _ _ _ _ h p hp)
          intro ρ a Q hρ hT hA
          have hv := opd_vr hM.glob hT.1 ht
          have hev : a.eval c = .bool t := by generalize a.eval c = u at hv; cases hv; rfl
          obtain ⟨e1, e2, e3⟩ := decE_run hT.1 (i := tmpOf c) (t := t) (fun d hd => by
            cases c <;> simp only [tmpOf, Option.some.injEq, reduceCtorEq] at hd
            subst hd
            rename_i d
            simp only [opd, Option.some.injEq] at ht
            have : st.T[d]? = some (.bool t) := by
              rcases Nat.lt_or_ge d st.T.length with hl | hl
              · rw [List.getElem?_eq_getElem hl]
                simp only [List.getD_eq_getElem?_getD, List.getElem?_eq_getElem hl, Option.getD_some] at ht
                rw [ht]
              · simp only [List.getD_eq_getElem?_getD, List.getElem?_eq_none hl, Option.getD_none, undef] at ht
                cases ht
            exact lsr_bool hT.1 this) hcs1
          refine wpIn_cond hev ?_
          have hds : (decE (tmpOf c) t st).2.ds = st.ds := by unfold decE; split <;> rfl
          have h1 := ih _ _ _ _ _ _ h hcs w0 K β w (by rw [e3]; exact hM) ρ a Q hρ ⟨e2, by rw [hds]; exact hT.2⟩ hA
          rw [e1] at h1
          exact h1
        · rename_i i ht
          have hcs1 := fun p hp => hcs p (ev_cs C n _ _ _ _ _ _ h p hp)
          intro ρ a Q hρ hT hA
          have hv := opd_vr hM.glob hT.1 ht
          have hev : a.eval c = Sym.val i := by generalize a.eval c = u at hv; cases hv; assumption
          obtain ⟨e1, e2, e3⟩ := decS_run hT.1 (i := i) (d := tmpOf c) (fun d hd => by
            cases c <;> simp only [tmpOf, Option.some.injEq, reduceCtorEq] at hd
            subst hd
            rename_i d
            simp only [opd, Option.some.injEq] at ht
            have hd2 : st.T[d]? = some (.chan (some i)) := by
              rcases Nat.lt_or_ge d st.T.length with hl | hl
              · rw [List.getElem?_eq_getElem hl]
                simp only [List.getD_eq_getElem?_getD, List.getElem?_eq_getElem hl, Option.getD_some] at ht
                rw [ht]
              · simp only [List.getD_eq_getElem?_getD, List.getElem?_eq_none hl, Option.getD_none, undef] at ht
                cases ht
            obtain ⟨x', p, k⟩ := hT.1.at hd2
            cases k with
            | sym _ e _ _ => rw [p, e]) hcs1
          refine wpIn_cond (hev.trans e1) ?_
          have hds : (decS i (tmpOf c) st).2.ds = st.ds := by unfold decS; split <;> rfl
          have h1 := ih _ _ _ _ _ _ h hcs w0 K β w (by rw [e3]; exact hM) ρ a Q hρ ⟨e2, by rw [hds]; exact hT.2⟩ hA
          exact h1
        · cases h
      case block id b =>
        split at h
        · rename_i k st1 e
          have hcs1 : ∀ p ∈ st1.cs, p.Holds C.P := by split at h <;> (cases h; exact hcs)
          have h1 := ih _ _ _ _ _ _ e hcs1 w0 K β w hM
          refine fun ρ a Q hρ hT hA => wpIn_block (h1 ρ a _ hρ hT fun a' w' β' he hM' hT' => ?_)
          split at h
          · rename_i hk
            cases h
            simp only [XQ, Exit.inBlock, hk, if_true]
            exact hA a' w' β' he hM' hT'
          · rename_i hk
            cases h
            simp only [XQ, Exit.inBlock, hk, if_false]
            exact hA a' w' β' he hM' hT'
        · rename_i hn
          have h1 := ih _ _ _ _ _ _ h hcs w0 K β w hM
          refine fun ρ a Q hρ hT hA => wpIn_block (h1 ρ a _ hρ hT fun a' w' β' he hM' hT' => ?_)
          have := hA a' w' β' he hM' hT'
          cases r with
          | normal => exact this
          | exit k => exact absurd h (hn _ _)
          | goto => exact this
          | ret => exact this
          | val v => exact this
      case loop b => exact fun ρ a Q hρ hT hA => wpIn_loop_within (ih _ _ _ _ _ _ h hcs w0 K β w hM ρ a Q hρ hT hA)
      case exit => cases h; exact fun ρ a Q hρ hT hA => wpIn_exit (hA a w β (Ext.refl β) hM hT)
      case goto => cases h; exact fun ρ a Q hρ hT hA => wpIn_goto (hA a w β (Ext.refl β) hM hT)
      case ret => cases h; exact fun ρ a Q hρ hT hA => wpIn_ret (hA a w β (Ext.refl β) hM hT)
      case scope b => exact fun ρ a Q hρ hT hA => wpIn_scope_within (ih _ _ _ _ _ _ h hcs w0 K β w hM ρ a Q hρ hT hA)
      case rangeFunc f ps asg body =>
        split at h
        · cases h
        rename_i hrd
        split at h
        case h_2 => cases h
        rename_i g first captured hf
        split at h
        case isFalse => cases h
        rename_i hbody
        split at h
        case h_2 => cases h
        rename_i v st1 e
        split at h
        case h_2 => cases h
        rename_i lr hlr
        split at h
        case isFalse => cases h
        rename_i hst
        obtain ⟨hbusy, hroL⟩ := hst
        intro ρ a Q hρ hT hA
        have hρ0 : ρ = none := hρ (by cases rd <;> simp_all)
        subst hρ0
        have hcs1 : ∀ p ∈ st1.cs, p.Holds C.P := by
          split at h
          · cases h; exact hcs
          · exact fun p hp => hcs p (ev_cs C n _ _ _ _ _ _ h p hp)
        have hlen := hM.len
        have hv := opd_vr hM.glob hT.1 hf
        generalize hfe : a.eval f = fv at hv
        cases hv with
        | func h0 p1 p2 p3 p4 =>
        rename_i first' captured'
        rw [Option.any_eq_true] at hbody
        obtain ⟨gfn, hgf, hgb⟩ := hbody
        refine range_run hP hM hT hfe p1 p2 p3 p4 hgf hgb hlr hbusy hroL (fun β2 w2 hM2 args' ha => ih _ _ _ _ _ _ e hcs1 w0 K β2 w2 hM2 v rfl args' ha) fun jump β3 w4 a4 he3 hj m4 hT4 => ?_
        subst hj
        split at h
        · rename_i hp
          cases h
          rw [hp]
          exact hA _ _ β3 he3 m4 hT4
        · rename_i c hp
          rw [hp]
          exact ih _ _ _ _ _ _ h hcs w0 K β3 _ m4 none _ Q (fun _ => rfl) hT4 (hA.ext he3)
      case refuse => cases h
    | loop b =>
      simp only [ev] at h
      split at h
      · rename_i st1 e
        have h1 := ih _ _ _ _ _ _ e (fun p hp => hcs p (ev_cs C n _ _ _ _ _ _ h p hp)) w0 K β w hM
        exact fun ρ a Q hρ hT hA => within_loop (h1 ρ a _ hρ hT fun a' w' β' he hM' hT' => ih _ _ _ _ _ _ h hcs w0 K β' w' hM' ρ a' Q hρ hT' (hA.ext he))
      · rename_i hn
        have h1 := ih _ _ (.code b) _ _ _ h hcs w0 K β w hM
        refine fun ρ a Q hρ hT hA => within_loop (h1 ρ a _ hρ hT fun a' w' β' he hM' hT' => ?_)
        have := hA a' w' β' he hM' hT'
        cases r with
        | normal => exact absurd h (hn _)
        | exit => exact this
        | goto => exact this
        | ret => exact this
        | val v => exact this
    | scope b c =>
      simp only [ev] at h
      split at h
      · rename_i l st1 e
        have hcs1 : ∀ p ∈ st1.cs, p.Holds C.P := by
          split at h
          · exact fun p hp => hcs p (ev_cs C n _ _ _ _ _ _ h p hp)
          · cases h; exact hcs
        have h1 := ih _ _ _ _ _ _ e hcs1 w0 K β w hM
        refine fun ρ a Q hρ hT hA => within_scope (h1 ρ a _ hρ hT fun a' w' β' he hM' hT' => ?_)
        simp only [XQ, Exit.jumps]
        split at h
        · rename_i rest hf
          rw [hf]
          exact ih _ _ _ _ _ _ h hcs w0 K β' w' hM' ρ a' Q hρ hT' (hA.ext he)
        · rename_i hf
          rw [hf]
          cases h
          exact hA a' w' β' he hM' hT'
      · rename_i hn
        have h1 := ih _ _ (.code c) _ _ _ h hcs w0 K β w hM
        refine fun ρ a Q hρ hT hA => within_scope (h1 ρ a _ hρ hT fun a' w' β' he hM' hT' => ?_)
        have := hA a' w' β' he hM' hT'
        cases r with
        | normal => exact this
        | exit => exact this
        | goto => exact absurd h (hn _ _)
        | ret => exact this
        | val v => exact this
    | ops arr rest =>
      cases rest with
      | nil => simp only [ev] at h; cases h; exact fun ρ a Q hρ hT hA => hA a w β (Ext.refl β) hM hT
      | cons o rest =>
        simp only [ev] at h
        intro ρ a Q hρ hT hA
        have hds0 := wantE_ds arr o st
        have hcs1 : ∀ p ∈ (wantE arr o st).2.cs, p.Holds C.P := by
          split at h
          · split at h
            · rename_i st2 e2; exact fun p hp => hcs p (ev_cs C n _ _ _ _ _ _ h p ((symS_cs e2).subset hp))
            · split at h
              · split at h
                · rename_i v st1 e; exact fun p hp => hcs p (ev_cs C n _ _ _ _ _ _ h p (ev_cs C n _ _ _ _ _ _ e p hp))
                · cases h
              · split at h
                · exact fun p hp => hcs p (ev_cs C n _ _ _ _ _ _ h p hp)
                · cases h
          · exact fun p hp => hcs p (ev_cs C n _ _ _ _ _ _ h p hp)
        obtain ⟨q1, q2, q3⟩ := wantE_run hT.1 hcs1
        have hM1 : M w0 K ro β (wantE arr o st).2.H w := by rw [q3]; exact hM
        have hD1 : DsR β (wantE arr o st).2.ds a.defers := by rw [hds0]; exact hT.2
        unfold wpLst
        rw [q1]
        split at h
        · rename_i hw
          rw [if_pos hw]
          split at h
          · rename_i st2 e2
            obtain ⟨v', s1, s2, s3⟩ := symS_run (P := C.P) hM1.glob q2 e2 (fun p hp => hcs p (ev_cs C n _ _ _ _ _ _ h p hp))
            rw [Oper.semAt_eq _ _ _ (symS_noDefer e2), s3 w (hM1.sameMem hM1.same), Oper.uponIn_value]
            have hds2 : st2.ds = (wantE arr o st).2.ds := symS_ds e2
            exact ih _ _ _ _ _ _ h hcs w0 K β w (by rw [s1]; exact hM1) ρ (a.put o.dst v') Q hρ ⟨s2, by rw [hds2, put_defers]; exact hD1⟩ hA
          · split at h
            · rename_i j hj
              split at h
              · rename_i v st1 e
                have hds1 := ev_ds (jobE_jobs hj) e
                refine job_upon (st := (wantE arr o st).2) (rd := rd) (ro := ro) hP hM1 q2 hj (ih _ _ _ _ _ _ e (fun p hp => hcs p (ev_cs C n _ _ _ _ _ _ h p hp)) w0 K β w hM1) fun w' β' v' s1 s2 s3 => ?_
                exact ih _ _ _ _ _ _ h hcs w0 K β' w' s2 ρ _ Q hρ ⟨putT_lsr (q2.mono s1) o.dst s3 a rfl, by rw [put_defers]; show DsR β' st1.ds a.defers; rw [hds1]; exact hD1.mono s1⟩ (hA.ext s1)
              · cases h
            · split at h
              · rename_i v H' e
                obtain ⟨nx, v', w1, β', s1, s2, s3, s4, s5⟩ := opX_run hX hM1 q2 e
                have hnext := ih _ _ _ _ _ _ h hcs w0 K β' w1 s4 ρ (a.put o.dst v') Q hρ ⟨putT_lsr (q2.mono s3) o.dst s5 a rfl, by rw [put_defers]; exact hD1.mono s3⟩ (hA.ext s3)
                rw [Oper.semAt_eq _ _ _ (opX_noDefer e), s1]
                rcases s2 with rfl | ⟨rfl, rfl⟩
                · rw [Oper.uponIn_value]; exact hnext
                · rw [Oper.uponIn_skip]; exact hnext
              · cases h
        · rename_i hw
          rw [if_neg hw]
          exact ih _ _ _ _ _ _ h hcs w0 K β w hM1 ρ (a.put o.dst undef) Q hρ ⟨putT_lsr q2 o.dst (undef_vr β) a rfl, by rw [put_defers]; exact hD1⟩ hA
    | draw n0 arr fr k listed =>
      intro hns hnd hfr hbase ρ a Q hρ hT hA
      simp only [ev] at h
      have hds0 := fun o => wantE_ds arr o st
      split at h
      · rename_i hr
        cases h
        exact wpAH_done hr (show NoPan Q .normal a w from hA a w β (Ext.refl β) hM hT) _
      · cases h
      · rename_i i0 rs k hr
        split at h
        · rename_i i hi
          have hmem := List.mem_of_find?_eq_some hi
          have htk := List.find?_some hi
          simp only [takeE, Bool.and_eq_true] at htk
          split at h
          · rename_i o ho
            have hcs1 : ∀ p ∈ (wantE arr o st).2.cs, p.Holds C.P := by
              split at h
              · split at h
                · rename_i st2 e2; exact fun p hp => hcs p (ev_cs C n _ _ _ _ _ _ h p ((symS_cs e2).subset hp))
                · split at h
                  · split at h
                    · exact fun p hp => hcs p (ev_cs C n _ _ _ _ _ _ h p hp)
                    · cases h
                  · cases h
              · exact fun p hp => hcs p (ev_cs C n _ _ _ _ _ _ h p hp)
            obtain ⟨q1, q2, q3⟩ := wantE_run hT.1 hcs1
            have hM1 : M w0 K ro β (wantE arr o st).2.H w := by rw [q3]; exact hM
            have hD1 : DsR β (wantE arr o st).2.ds a.defers := by rw [hds0]; exact hT.2
            have hready : (Region.ready .any arr listed).contains i = true := by rw [hr]; simpa using hmem
            split at h
            · rename_i hw
              split at h
              · rename_i st2 e2
                obtain ⟨v', s1, s2, s3⟩ := symS_run (P := C.P) hM1.glob q2 e2 (fun p hp => hcs p (ev_cs C n _ _ _ _ _ _ h p hp))
                have hds2 : st2.ds = (wantE arr o st).2.ds := symS_ds e2
                refine wpAH_take (i := i) (v := v') ho hns hnd (freeE_spec (by rw [← hfr]; exact htk.1) hready) hready (fun _ _ _ h => h) (.inl ⟨by rw [q1]; exact hw, fun w2 hw2 => s3 w2 (hM1.sameMem hw2)⟩) hM.same ?_
                exact ih _ _ _ _ _ _ h hcs w0 K β w (by rw [s1]; exact hM1) hns hnd hfr hbase ρ _ Q hρ ⟨s2, by rw [hds2, put_defers]; exact hD1⟩ hA
              · split at h
                · rename_i hq
                  split at h
                  · rename_i v H' e
                    obtain ⟨rfl, v', s1, s2⟩ := quiet_run hM1 hbase q2 hq e
                    refine wpAH_take (i := i) (v := v') ho hns hnd (freeE_spec (by rw [← hfr]; exact htk.1) hready) hready (fun _ _ _ h => h) (.inl ⟨by rw [q1]; exact hw, s2⟩) hM.same ?_
                    exact ih _ _ _ _ _ _ h hcs w0 K β w hM1 hns hnd hfr hbase ρ _ Q hρ ⟨putT_lsr q2 o.dst s1 a rfl, by rw [put_defers]; exact hD1⟩ hA
                  · cases h
                · cases h
            · rename_i hw
              refine wpAH_take (i := i) (v := undef) ho hns hnd (freeE_spec (by rw [← hfr]; exact htk.1) hready) hready (fun _ _ _ h => h) (.inr ⟨by rw [q1]; simpa using hw, rfl⟩) hM.same ?_
              exact ih _ _ _ _ _ _ h hcs w0 K β w hM1 hns hnd hfr hbase ρ _ Q hρ ⟨putT_lsr q2 o.dst (undef_vr β) a rfl, by rw [put_defers]; exact hD1⟩ hA
          · cases h
        · have hstep : ∀ (i : Nat) (st' : St), stepD C ro (fun j s => ev C ro rd n j s) n0 arr fr k listed st i = some (r, st') → (∀ p ∈ st'.cs, p.Holds C.P) → After w0 K ro β st' r Q →
              wpOpIn (fen ρ) 0 C.P arr (NoPan Q) i (fun a' w' => SameOld w0 K w' ∧ wpAH ρ C.P .any arr (NoPan Q) (SameOld w0 K) k (listed.setIfInBounds i true) a' w') a w := by
            intro i st' h hcs hA
            simp only [stepD] at h
            split at h
            · rename_i o ho
              have hcs1 : ∀ p ∈ (wantE arr o st).2.cs, p.Holds C.P := by
                split at h
                · split at h
                  · split at h
                    · rename_i v st1 e; exact fun p hp => hcs p (ev_cs C n _ _ _ _ _ _ h p (ev_cs C n _ _ _ _ _ _ e p hp))
                    · cases h
                  · split at h
                    · exact fun p hp => hcs p (ev_cs C n _ _ _ _ _ _ h p hp)
                    · cases h
                · exact fun p hp => hcs p (ev_cs C n _ _ _ _ _ _ h p hp)
              obtain ⟨q1, q2, q3⟩ := wantE_run hT.1 hcs1
              have hM1 : M w0 K ro β (wantE arr o st).2.H w := by rw [q3]; exact hM
              have hD1 : DsR β (wantE arr o st).2.ds a.defers := by rw [hds0]; exact hT.2
              unfold wpOpIn
              rw [ho]
              simp only
              rw [q1]
              split at h
              · rename_i hw
                rw [if_pos hw]
                refine Oper.wpIn_of ?_
                split at h
                · rename_i j hj
                  split at h
                  · rename_i v st1 e
                    have hds1 := ev_ds (jobE_jobs hj) e
                    refine job_upon (st := (wantE arr o st).2) (rd := rd) (ro := ro) hP hM1 q2 hj (ih _ _ _ _ _ _ e (fun p hp => hcs p (ev_cs C n _ _ _ _ _ _ h p hp)) w0 K β w hM1) fun w' β' v' s1 s2 s3 => ?_
                    exact ⟨s2.same, ih _ _ _ _ _ _ h hcs w0 K β' w' s2 hns hnd hfr (hbase.ext s1 s1.len) ρ _ Q hρ ⟨putT_lsr (q2.mono s1) o.dst s3 a rfl, by rw [put_defers]; show DsR β' st1.ds a.defers; rw [hds1]; exact hD1.mono s1⟩ (hA.ext s1)⟩
                  · cases h
                · split at h
                  · rename_i v H' e
                    obtain ⟨nx, v', w1, β', s1, s2, s3, s4, s5⟩ := opX_run hX hM1 q2 e
                    have hnext := ih _ _ _ _ _ _ h hcs w0 K β' w1 s4 hns hnd hfr (hbase.ext s3 s3.len) ρ (a.put o.dst v') Q hρ ⟨putT_lsr (q2.mono s3) o.dst s5 a rfl, by rw [put_defers]; exact hD1.mono s3⟩ (hA.ext s3)
                    rw [Oper.semAt_eq _ _ _ (opX_noDefer e), s1]
                    rcases s2 with rfl | ⟨rfl, rfl⟩
                    · rw [Oper.uponIn_value]; exact ⟨s4.same, hnext⟩
                    · rw [Oper.uponIn_skip]; exact ⟨s4.same, hnext⟩
                  · cases h
              · rename_i hw
                rw [if_neg hw]
                exact ⟨fun _ _ => trivial, hM.same, ih _ _ _ _ _ _ h hcs w0 K β w hM1 hns hnd hfr hbase ρ (a.put o.dst undef) Q hρ ⟨putT_lsr q2 o.dst (undef_vr β) a rfl, by rw [put_defers]; exact hD1⟩ hA⟩
            · cases h
          split at h
          · refine wpAH_all (rs := [i0]) hr (by simp) fun i hi => ?_
            simp only [List.mem_singleton] at hi
            subst hi
            exact hstep _ _ h hcs hA
          · refine wpAH_all hr (by simp) fun i hi => ?_
            obtain ⟨t, e, hl⟩ := (allSame_eq h).2.2 _ (List.mem_map.2 ⟨i, hi, rfl⟩)
            rcases hl with rfl | hl
            · exact hstep i _ e hcs hA
            · obtain ⟨⟨l0, l1⟩, l2⟩ := likeSt_run hl
              have c1 : st.cs = t.cs := (stepD_sfx e).eq_of_length l1.symm
              have hcs0 : ∀ p ∈ t.cs, p.Holds C.P := by
                rw [← c1]
                obtain ⟨q, hq, eq⟩ := (allSame_eq h).2.1
                obtain ⟨i2, _, e2⟩ := List.mem_map.1 hq
                exact fun p hp => hcs p ((stepD_sfx (e2.trans eq)).subset hp)
              refine hstep i _ e hcs0 fun a' w' β' he hM' hT' => ?_
              obtain ⟨q0, hq0, eq0⟩ := (allSame_eq h).2.1
              obtain ⟨i0', _, e0⟩ := List.mem_map.1 hq0
              have kp1 := stepD_kp hK (e0.trans eq0)
              have kp2 := stepD_kp hK e
              obtain ⟨β3, m1, m2, m3, m4⟩ := l2 hM' hM.glob (Nat.le_of_eq hM.len) he hT'.1 (fun j o hj hrj ho => by
                have hjl : j < st.H.length := by have := hbase.len; rw [hM.len] at this; omega
                have hst : st.H[j]? = some (some o) := by rw [← kp1.same j hjl hrj]; exact ho
                obtain ⟨p, o', b1, b2, b3⟩ := hM.obj j o hst
                obtain ⟨c1, c2⟩ := hbase.old j p hj hrj b1
                exact ⟨by rw [kp2.same j hjl hrj]; exact hst, hjl, p, o', b1, by rw [hM'.block _ c1 c2, ← hM.block _ c1 c2]; exact b2, b3⟩) (fun j r q hj hr hq => by
                have hjl : j < st.H.length := by have := hbase.len; rw [hM.len] at this; omega
                obtain ⟨r1, a1, a2, a3, a4⟩ := kp1.loop j r hjl hr
                obtain ⟨r2, b1, b2, b3, b4⟩ := kp2.loop j q hjl hq
                rw [a1] at b1; cases b1
                exact ⟨⟨a2.trans b2.symm, a3.trans b3.symm, a4.trans b4.symm⟩, hjl⟩)
              exact hA a' w' β3 m1 m2 ⟨m3, m4 _ hT'.2⟩
    | call f args =>
      intro v hv args' hargs
      simp only [ev] at h
      split at h
      · rename_i v2 H2 obs hk
        cases h
        cases hv
        exact hL ro f args st.H st.cs.length _ H2 obs hk (fun p hp => hcs p (by simp [hp])) w0 K β w hM args' hargs
      split at h
      · rename_i fn hf
        split at h
        · rename_i c hb
          have hlen : args.length = args'.size := by simpa using hargs.1
          have hT0 : TR β { st with T := args ++ List.replicate (fn.ntmps - args.length) undef, ds := [] } { tmps := args' ++ Array.replicate (fn.ntmps - args'.size) undef, defers := [] } := by
            refine ⟨?_, .nil⟩
            rw [hlen]
            have : LsR β (List.replicate (fn.ntmps - args'.size) undef) (List.replicate (fn.ntmps - args'.size) undef) := ⟨rfl, fun i x x' p q => by
              rw [p] at q; cases q
              have := List.eq_of_mem_replicate (List.mem_of_getElem? p)
              rw [this]; exact undef_vr β⟩
            simpa using hargs.append this
          have fin : ∀ st1 r1, ev C ro false n (.code c) { st with T := args ++ List.replicate (fn.ntmps - args.length) undef, ds := [] } = some (r1, st1) → (r1 = .normal ∨ r1 = .ret) →
              finE C ro fn st.ds st1 = some (r, st') → Calls C.P f args' w (CallR w0 K ro β st'.H v) := by
            intro st1 r1 e hr h2
            have hcs1 : ∀ p ∈ st1.cs, p.Holds C.P := by rw [← (finE_cs h2).1]; exact hcs
            unfold finE at h2
            split at h2
            · rename_i H2 hmk
              split at h2
              · rename_i v2 hret
                cases h2
                cases hv
                refine callsIn_fen.1 (callsIn_of_wp_marks (F := fen none) hf hb trivial (ih _ _ _ _ _ _ e hcs1 w0 K β w hM none _ _ (fun _ => rfl) hT0 fun a' w' β' he hM' hT' => ?_))
                have hl := marks_leave (P := C.P) (fn := fn) (tmps := a'.tmps) (R := CallR w0 K ro β H2 v) _ _ _ _ _ hmk hM' hT'.2 (fun w2 hM2 => by
                  obtain ⟨v', z1, z2⟩ := retE_run (P := C.P) hM2 hT'.1 hret
                  exact ⟨v', z1, v', β', rfl, he, hM2, z2⟩)
                rcases hr with rfl | rfl
                · exact hl
                · exact hl
              · cases h2
            · cases h2
          split at h
          · rename_i st1 e; exact fin st1 _ e (.inl rfl) h
          · rename_i st1 e; exact fin st1 _ e (.inr rfl) h
          · cases h
        · cases h
      · cases h
    | round l args =>
      intro v hv b args' hlb hargs
      simp only [ev] at h
      split at h
      case h_2 => cases h
      rename_i lr hlr
      split at h
      case isFalse => cases h
      rename_i hst
      obtain ⟨hready, hal, hroL⟩ := hst
      split at h
      case h_2 => cases h
      rename_i st1 e1
      split at h
      case h_2 => cases h
      rename_i lr1 hlr1
      split at h
      case isFalse => cases h
      rename_i hready1
      split at h
      case h_2 => cases h
      rename_i x st2 e2
      split at h
      case h_2 => cases h
      rename_i lr2 j hlr2 hj
      cases h
      cases hv
      obtain ⟨p, t', fn', d', bl, ps0, hb, ht⟩ := hM.record hlr
      have hpb := hlb.live bl
      subst hpb
      have hcs1 : ∀ p ∈ st1.cs, p.Holds C.P := fun p hp => hcs p (ev_cs C n _ _ _ _ _ _ e2 p hp)
      have hsz : args'.size = lr.params.size := by have := hargs.1; simp at this; omega
      refine ⟨_, _, _, _, run_yield hb hsz, ?_⟩
      have hTR : TR β { st with T := setAll lr.params.toList args lr.tmps.toList, ds := [] } { tmps := (lr.params.zip args').foldl (fun tmps (x : Tmp × Value) => tmps.setIfInBounds x.1 x.2) t', defers := [] } := by
        refine ⟨?_, .nil⟩
        have := setAll_lsr (β := β) lr.params.toList args args'.toList lr.tmps.toList t' hargs ht.toList
        rw [← Array.foldl_toList, Array.toList_zip]
        exact this
      refine roundIn_of_wpIn (F := Fence.wide) trivial ?_
      refine ih _ _ _ _ _ _ e1 hcs1 w0 K β w hM (some p.b) _ _ (fun hh => by cases hh) hTR fun a1 w1 β1 he1 hM1 hT1 => ?_
      obtain ⟨p1, t1, fn1, d1, bl1, ps1, hb1, ht1⟩ := hM1.record hlr1
      have hp1 : p1.b = p.b := by
        rcases he1 _ _ bl with q | q
        · rw [bl1] at q; cases q; rfl
        · rw [bl1] at q; cases q
      refine ⟨_, run_beginRound (r := { lr1 with tmps := t1, fn := fn1, defers := d1 }) (by rw [← hp1]; exact hb1) hready1, ?_⟩
      have m2 := hM1.setRec (r := { lr1 with state := .busy }) (fn := fn1) (d := d1) bl1 ps1 hroL hb1 ht1
      rw [hp1] at m2
      refine ih _ _ _ _ _ _ e2 hcs w0 K β1 _ m2 (some p.b) _ _ (fun hh => by cases hh) hT1 fun a2 w2 β2 he2 hM2 hT2 => ?_
      obtain ⟨p2, t2, fn2, d2, bl2, ps2, hb2, ht2⟩ := hM2.record hlr2
      have hp2 : p2.b = p.b := by
        rcases he2 _ _ bl1 with q | q
        · rw [bl2] at q; cases q; exact hp1
        · rw [bl2] at q; cases q
      have hend := fun jump => run_endRound (P := C.P) (w := w2) (l := p.b) (r := { lr2 with tmps := t2, fn := fn2, defers := d2 }) jump (by rw [← hp2]; exact hb2)
      have m3 := hM2.setRec (r := { lr2 with state := if j.isNone then .ready else .done, pending := j }) (fn := fn2) (d := d2) bl2 ps2 hroL hb2 ht2
      rw [hp2] at m3
      have hres := hend j
      rcases jump_case hj with ⟨rfl, rfl⟩ | ⟨id, rfl, rfl⟩ | ⟨t, rfl, rfl⟩ | ⟨rfl, rfl⟩
      · exact ⟨_, _, hres, _, β2, rfl, he1.trans he2, m3, .bool _⟩
      · exact ⟨_, _, hres, _, β2, rfl, he1.trans he2, m3, .bool _⟩
      · exact ⟨_, _, hres, _, β2, rfl, he1.trans he2, m3, .bool _⟩
      · exact ⟨_, _, hres, _, β2, rfl, he1.trans he2, m3, .bool _⟩

end Go.Proofs.YthbkjhacnnoolaaDoorZev
end
