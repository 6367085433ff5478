/- Several texts in one: Zev15. No condition beyond those that each part names. -/
import Derived.Test.YthbkjhacnnoolaaDoorZevX5
import Derived.AtR
/- The run that is reckoned is a run: small parts. No condition. -/
section
namespace Go.Proofs.YthbkjhacnnoolaaDoorZev
open Go.RowKit
set_option linter.unusedVariables false
set_option linter.unusedSectionVars false
variable [Sym] [Kin] [Glob]

section
variable {P : Program} {w0 w w1 : World} {K : Nat → Prop} {ro : Nat → Bool} {β : Env} {H : Heap}

/-- a frame's marks -/
inductive DsR (β : Env) : List Nat → List Deferred → Prop
  | nil : DsR β [] []
  | cons {l b : Nat} {ds : List Nat} {r : List Deferred} (h : LR β l b) (k : DsR β ds r) : DsR β (l :: ds) ({ target := .collected b, args := #[] } :: r)
theorem DsR.mono {β β' : Env} (h : Ext β β') {ds : List Nat} {r : List Deferred} (k : DsR β ds r) : DsR β' ds r := by
  induction k with
  | nil => exact .nil
  | cons a _ ih => exact .cons (a.mono h) ih
theorem DsR.like {f : Nat → Nat} {β2 β3 : Env} (hf : ∀ l, β3[l]? = β2[f l]?) : ∀ {ds : List Nat} {r : List Deferred}, DsR β2 (ds.map f) r → DsR β3 ds r := by
  intro ds
  induction ds with
  | nil => intro r h; cases h; exact .nil
  | cons d ds ih =>
    intro r h
    cases h with
    | cons a k => exact .cons (by unfold LR at a ⊢; rw [hf]; exact a) (ih k)

theorem putT_lsr {T : List Value} {A : Array Value} (h : LsR β T A.toList) (d : Option Tmp) {v v' : Value} (hv : VR β v v') (a : Act) (ha : a.tmps = A) : LsR β (putT T d v) (a.put d v').tmps.toList := by
  subst ha
  cases d with
  | none => exact h
  | some d =>
    have := AsR.set (c := T.toArray) (c' := a.tmps) ⟨by have := h.1; simpa using this, by simpa using h.2⟩ d hv
    have := this.toList
    simpa [putT, Act.put] using this
theorem put_defers (a : Act) (d : Option Tmp) (v : Value) : (a.put d v).defers = a.defers := by cases d <;> rfl

theorem decE_cs (i : Option Tmp) (t : Bool) (st : St) : st.cs <:+ (decE i t st).2.cs := by
  unfold decE
  split <;> exact List.suffix_refl _
theorem decS_cs (i : Nat) (d : Option Tmp) (st : St) : st.cs <:+ (decS i d st).2.cs := by
  unfold decS
  split <;> exact List.suffix_cons _ _
theorem wantE_cs (arr : Array Oper) (o : Oper) (st : St) : st.cs <:+ (wantE arr o st).2.cs := by
  unfold wantE
  split
  · exact List.suffix_refl _
  · split
    · exact decE_cs _ _ _
    · split
      · exact decS_cs _ _ _
      · exact List.suffix_cons _ _
      · exact List.suffix_refl _
theorem symL_is {st st1 : St} {o : Oper} (h : symL st o = some st1) : (∃ r t x a, o.op = .load t x ∧ opd st.T x = some a ∧ symV a = true ∧ Kin.kind st.cs.length = none ∧ st1 = { st with T := putT st.T o.dst (.chan (some st.cs.length)), hs := r, cs := .ld t a st.cs.length :: st.cs }) ∨
    ∃ m r t x a, o.op = .load t x ∧ opd st.T x = some a ∧ symV a = true ∧ (∀ i, i < m → Kin.kind (st.cs.length + i) = none) ∧
    st1 = { st with T := putT st.T o.dst (.agg ((List.range m).map fun i => .chan (some (st.cs.length + i))).toArray), hs := r, cs := List.replicate (m - 1) (.test true true) ++ .lds t a st.cs.length m :: st.cs } := by
  unfold symL at h
  split at h
  case h_3 => cases h
  case h_1 =>
    rename_i r t x _ ho
    split at h
    case h_2 => cases h
    rename_i a ha
    split at h
    case isFalse => cases h
    rename_i hc
    cases h
    simp only [Bool.and_eq_true, Option.isNone_iff_eq_none] at hc
    exact .inl ⟨r, t, x, a, ho, ha, hc.1, hc.2, rfl⟩
  right
  rename_i m r t x _ _ ho
  split at h
  case h_2 => cases h
  rename_i a ha
  split at h
  case isFalse => cases h
  rename_i hc
  cases h
  simp only [Bool.and_eq_true] at hc
  exact ⟨m, r, t, x, a, ho, ha, hc.1, fun i hi => by simpa using List.all_eq_true.1 hc.2 i (List.mem_range.2 hi), rfl⟩
theorem symS_cs {st st1 : St} {o : Oper} (h : symS st o = some st1) : st.cs <:+ st1.cs := by
  unfold symS at h
  rcases orE_some h with h | h
  · rcases symL_is h with ⟨r, t, x, a, _, _, _, _, rfl⟩ | ⟨m, r, t, x, a, _, _, _, _, rfl⟩
    · exact List.suffix_cons _ _
    · exact (List.suffix_cons _ _).trans (List.suffix_append _ _)
  split at h
  · split at h
    · cases h; exact List.suffix_cons _ _
    · cases h
  · cases h

theorem set_same_lsr {T : List Value} {A : List Value} (h : LsR β T A) (i : Nat) {v : Value} (hv : ∀ x', A[i]? = some x' → VR β v x') : LsR β (T.set i v) A := by
  refine ⟨by simp [h.1], fun k x x' a b => ?_⟩
  by_cases e : i = k
  · subst e
    have hi : i < T.length := by have := (List.getElem?_eq_some_iff.1 a).1; simpa using this
    rw [List.getElem?_set_self hi] at a; cases a
    exact hv _ b
  · rw [List.getElem?_set_ne e] at a; exact h.2 k x x' a b

theorem decE_run {st : St} {A : List Value} (h : LsR β st.T A) {i : Option Tmp} {t : Bool} (hi : ∀ d, i = some d → A[d]? = some (.bool t)) (hc : ∀ p ∈ (decE i t st).2.cs, p.Holds P) :
    (decE i t st).1 = t ∧ LsR β (decE i t st).2.T A ∧ (decE i t st).2.H = st.H := by
  unfold decE
  split <;> exact ⟨rfl, h, rfl⟩

theorem decS_run {st : St} {A : List Value} (h : LsR β st.T A) {i : Nat} {d : Option Tmp} (hd : ∀ k, d = some k → A[k]? = some (Sym.val i)) (hc : ∀ p ∈ (decS i d st).2.cs, p.Holds P) :
    Sym.val i = .bool (decS i d st).1 ∧ LsR β (decS i d st).2.T A ∧ (decS i d st).2.H = st.H := by
  unfold decS at hc ⊢
  split
  · rename_i b r e
    rw [e] at hc
    simp only at hc
    have htd : Sym.val i = .bool b := hc (.is i b) (by simp)
    refine ⟨htd, ?_, rfl⟩
    cases d with
    | none => exact h
    | some k => exact set_same_lsr h k fun x' hx => by rw [hd k rfl] at hx; cases hx; rw [htd]; exact .bool _
  · rename_i hn
    split at hc
    · rename_i b r e; exact absurd e (hn _ _)
    · exact (hc .no (by simp)).elim

theorem lsr_bool {T A : List Value} (h : LsR β T A) {d : Nat} {b : Bool} (hd : T[d]? = some (.bool b)) : A[d]? = some (.bool b) := by
  obtain ⟨x', a, k⟩ := h.at hd
  cases k; exact a

theorem yieldE_run {arr : Array Oper} {T : List Value} {a : Act} (h : LsR β T a.tmps.toList) (j : Nat) :
    (∀ d b, yieldE arr T j = some (d, b) → yielded arr a.tmps j = some b ∧ ∀ k, d = some k → a.tmps.toList[k]? = some (.bool b)) ∧ (yieldE arr T j = none → dimE arr T j = none → yielded arr a.tmps j = none) := by
  unfold yieldE yielded dimE
  cases hd : (arr[j]?).bind (·.dst) with
  | none => exact ⟨fun d b e => (by cases e), fun _ _ => rfl⟩
  | some d =>
    simp only [Option.bind_some]
    cases hT : T[d]? with
    | none =>
      have : a.tmps[d]? = none := by
        have h1 := h.1
        have h2 : T.length ≤ d := by simpa using hT
        simp; simp at h1; omega
      exact ⟨fun d b e => (by cases e), fun _ _ => by rw [this]⟩
    | some v =>
      obtain ⟨x', p, k⟩ := h.at hT
      rw [Array.getElem?_toList] at p
      rw [p]
      cases k <;> (try (rename_i h0; obtain ⟨_, _, _, rfl, _⟩ := (show RowR _ _ _ _ from h0))) <;> first
        | exact ⟨fun d b e => (by cases e; exact ⟨rfl, fun k hk => by cases hk; rw [Array.getElem?_toList]; exact p⟩), fun e => (by cases e)⟩
        | exact ⟨fun d b e => (by cases e), fun _ _ => rfl⟩
        | exact ⟨fun d b e => (by cases e), fun _ e => (by cases e)⟩

theorem dimE_run {arr : Array Oper} {T : List Value} {a : Act} (h : LsR β T a.tmps.toList) {j : Nat} {d : Tmp} {i : Nat} (hd : dimE arr T j = some (d, some i)) :
    a.tmps.toList[d]? = some (Sym.val i) ∧ ∀ b, Sym.val i = .bool b → yielded arr a.tmps j = some b := by
  unfold dimE at hd
  unfold yielded
  split at hd
  · rename_i d0 e0
    split at hd
    · rename_i c e1
      cases hd
      obtain ⟨x', p, k⟩ := h.at e1
      cases k with
      | sym i e h1 hk =>
        subst e
        refine ⟨p, fun b hb => ?_⟩
        rw [e0]
        rw [Array.getElem?_toList] at p
        simp only [Option.bind_some]
        rw [p, hb]
    · cases hd
  · cases hd
theorem wantE_run {arr : Array Oper} {o : Oper} {st : St} {a : Act} (h : LsR β st.T a.tmps.toList) (hc : ∀ p ∈ (wantE arr o st).2.cs, p.Holds P) :
    Region.wanted o (yielded arr a.tmps) = (wantE arr o st).1 ∧ LsR β (wantE arr o st).2.T a.tmps.toList ∧ (wantE arr o st).2.H = st.H := by
  unfold wantE Region.wanted at *
  cases hg : o.guard with
  | none => exact ⟨rfl, h, rfl⟩
  | some g =>
    obtain ⟨j, want⟩ := g
    rw [hg] at hc
    simp only at hc ⊢
    obtain ⟨y1, y2⟩ := yieldE_run (arr := arr) h j
    cases hy : yieldE arr st.T j with
    | none =>
      rw [hy] at hc
      simp only at hc ⊢
      cases hd : dimE arr st.T j with
      | none => rw [y2 hy hd]; exact ⟨rfl, h, rfl⟩
      | some q =>
        obtain ⟨d, c⟩ := q
        rw [hd] at hc
        cases c with
        | none => exact (hc .no (by simp)).elim
        | some i =>
          simp only at hc ⊢
          obtain ⟨z1, z2⟩ := dimE_run h hd
          obtain ⟨e1, e2, e3⟩ := decS_run (P := P) h (fun k hk => by cases hk; exact z1) hc
          refine ⟨?_, e2, e3⟩
          rw [z2 _ e1]
          cases (decS i (some d) st).1 <;> cases want <;> rfl
    | some q =>
      obtain ⟨d, b⟩ := q
      rw [hy] at hc
      simp only at hc ⊢
      obtain ⟨z1, z2⟩ := y1 d b hy
      obtain ⟨e1, e2, e3⟩ := decE_run h z2 hc
      refine ⟨?_, e2, e3⟩
      rw [z1, e1]
      cases b <;> cases want <;> rfl

theorem plain_one {v : Value} (h : plainV v = true) : v.oneCell' = true := by cases v <;> first | rfl | (simp [plainV] at h)
theorem real_vr {v v' : Value} (h : symV v = true ∨ plainV v = true) (k : VR β v v') : v' = realV v := by
  cases k <;> first | rfl | (simp [symV, plainV] at h; done) | (rename_i i e h2; exact e)
theorem real_lsr {l : List Value} (h : l.all (fun v => symV v || plainV v) = true) {l' : List Value} (k : LsR β l l') : l' = l.map realV := by
  apply List.ext_getElem?
  intro i
  rcases Nat.lt_or_ge i l.length with hi | hi
  · have hi' : i < l'.length := by rw [← k.1]; exact hi
    have hb := List.all_eq_true.1 h _ (List.getElem_mem hi)
    simp only [Bool.or_eq_true] at hb
    rw [List.getElem?_eq_getElem hi', List.getElem?_map, List.getElem?_eq_getElem hi, Option.map_some, real_vr hb (k.2 i _ _ (List.getElem?_eq_getElem hi) (List.getElem?_eq_getElem hi'))]
  · rw [List.getElem?_eq_none (by rw [← k.1]; exact hi), List.getElem?_eq_none (by simpa using hi)]
theorem guard_plain {op : BinOp} {t : TypeId} {x y : Operand} {a b : Value} (ha : plainV a = true) (hb : plainV b = true) (w : World) : (eqGuard op t x y a b).run P w = .ok () w := by
  unfold eqGuard
  cases op <;> first
    | rfl
    | (cases a <;> cases b <;> first | rfl | (simp [plainV] at ha; done) | (simp [plainV] at hb; done))
theorem symE_run (hg : GlobOk β) {T : List Value} {a : Act} (hT : LsR β T a.tmps.toList) {o : Oper} {n : Nat} {ob : Ob} (he : symE T o n = some ob) (ho : ob.Holds P) :
    (Sym.val n).oneCell' = true ∧ ∀ w, SameMem w → (execOp a.eval o).run P w = .ok (.value (Sym.val n)) w := by
  obtain ⟨dst, op, type, pos, after, guard⟩ := o
  unfold symE at he
  cases op <;> simp only at he <;> try (cases he; done)
  case binOp op t x y yt =>
    split at he
    · rename_i c d e1 e2
      split at he
      · rename_i hs
        cases he
        obtain ⟨h1, h2, h3, h4⟩ := ho
        simp only [Bool.or_eq_true, Bool.and_eq_true] at hs
        have r1 := real_vr (β := β) (v := c) (by rcases hs with h | h <;> simp [h.1]) (opd_vr hg hT e1)
        have r2 := real_vr (β := β) (v := d) (by rcases hs with h | h <;> (first | exact h.2 | simp [h.2])) (opd_vr hg hT e2)
        refine ⟨h3, fun w _ => ?_⟩
        show (do pure (.value (← (do eqGuard op t x y (a.eval x) (a.eval y); binOp op t (a.eval x) (a.eval y)))) : Sem Next).run P w = _
        rw [r1, r2]
        simp [guard_plain h1 h2, h4]
      · cases he
    · cases he
  case unOp op t x =>
    split at he
    · rename_i c e1
      split at he
      · rename_i hs
        cases he
        obtain ⟨h3, h4⟩ := ho
        have r1 := real_vr (β := β) (v := c) (.inl hs) (opd_vr hg hT e1)
        refine ⟨h3, fun w _ => ?_⟩
        show (do pure (.value (← Op.unary op (a.eval x))) : Sem Next).run P w = _
        rw [r1]
        simp [h4]
      · cases he
    · cases he
  case convert s d x =>
    split at he
    · rename_i c e1
      split at he
      · rename_i hs
        cases he
        obtain ⟨h3, h4⟩ := ho
        have r1 := real_vr (β := β) (v := c) (.inl hs) (opd_vr hg hT e1)
        refine ⟨h3, fun w _ => ?_⟩
        show (do pure (.value (← convert s d (a.eval x))) : Sem Next).run P w = _
        rw [r1]
        simp [h4]
      · cases he
    · cases he
  case call c =>
    obtain ⟨callee, args, argTypes⟩ := c
    cases callee <;> simp only at he <;> try (cases he; done)
    rename_i b
    split at he
    · rename_i l e1
      split at he
      · rename_i hs
        cases he
        obtain ⟨h3, h4⟩ := ho
        simp only [Bool.and_eq_true] at hs
        have r1 := real_lsr hs.2 (opds_vr hg hT _ _ e1)
        refine ⟨h3, fun w _ => ?_⟩
        have harr : args.map a.eval = (args.toList.map a.eval).toArray := by apply Array.ext'; simp
        have hx : execOp a.eval ⟨dst, .call ⟨.builtin b, args, argTypes⟩, type, pos, after, guard⟩ = builtin b argTypes type (args.map fun | .const _ => true | _ => false) (args.map a.eval) := rfl
        rw [hx, harr, r1]
        exact h4 w
      · cases he
    · cases he
  case indexAddr t x i =>
    split at he
    · rename_i c d e1 e2
      split at he
      · rename_i hs
        cases he
        obtain ⟨h3, h4⟩ := ho
        simp only [Bool.or_eq_true, Bool.and_eq_true] at hs
        have r1 := real_vr (β := β) (v := c) (.inl hs.1) (opd_vr hg hT e1)
        have r2 := real_vr (β := β) (v := d) hs.2 (opd_vr hg hT e2)
        refine ⟨h3, fun w _ => ?_⟩
        show (do pure (.value (← Instr.indexAt t (a.eval x) (a.eval i))) : Sem Next).run P w = _
        rw [r1, r2]
        simp [h4]
      · cases he
    · cases he
  case fieldAddr t x f =>
    split at he
    · rename_i c e1
      split at he
      · rename_i hs
        cases he
        obtain ⟨h3, h4⟩ := ho
        have r1 := real_vr (β := β) (v := c) (.inl hs) (opd_vr hg hT e1)
        refine ⟨h3, fun w _ => ?_⟩
        show (do pure (.value (← Instr.fieldAt t (a.eval x) f)) : Sem Next).run P w = _
        rw [r1]
        simp [h4]
      · cases he
    · cases he
  case load t x =>
    split at he
    · rename_i c e1
      split at he
      · rename_i hs
        cases he
        obtain ⟨h3, h4⟩ := ho
        have r1 := real_vr (β := β) (v := c) (.inl hs) (opd_vr hg hT e1)
        refine ⟨h3, fun w hw => ?_⟩
        show (do pure (.value (← Instr.loadAt t (a.eval x))) : Sem Next).run P w = _
        rw [r1]
        simp [h4 w hw]
      · cases he
    · cases he
theorem symS_run (hg : GlobOk β) {st st1 : St} {a : Act} {o : Oper} (hT : LsR β st.T a.tmps.toList) (he : symS st o = some st1) (hc : ∀ p ∈ st1.cs, p.Holds P) :
    ∃ v', st1.H = st.H ∧ LsR β st1.T (a.put o.dst v').tmps.toList ∧ ∀ w, SameMem w → (execOp a.eval o).run P w = .ok (.value v') w := by
  unfold symS at he
  rcases orE_some he with he | he
  · rcases symL_is he with ⟨r, t, x, c, ho, ha, hs, hk, rfl⟩ | ⟨m, r, t, x, c, ho, ha, hs, hk, rfl⟩
    · obtain ⟨h1, h2⟩ : Ob.Holds P (.ld t c st.cs.length) := hc _ (by simp)
      have r1 := real_vr (β := β) (v := c) (.inl hs) (opd_vr hg hT ha)
      refine ⟨Sym.val st.cs.length, rfl, putT_lsr hT o.dst (.sym _ rfl h1 ⟨h1, fun k hk2 => by rw [hk] at hk2; cases hk2⟩) a rfl, fun w hw => ?_⟩
      obtain ⟨dst, op, type, pos, after, guard⟩ := o
      cases ho
      show (do pure (.value (← Instr.loadAt t (a.eval x))) : Sem Next).run P w = _
      rw [r1]
      simp [h2 w hw]
    obtain ⟨h1, h2⟩ : Ob.Holds P (.lds t c st.cs.length m) := hc _ (by simp)
    have r1 := real_vr (β := β) (v := c) (.inl hs) (opd_vr hg hT ha)
    refine ⟨.agg (symRow st.cs.length m).toArray, rfl, putT_lsr hT o.dst (.agg (by simp [symRow]) fun i y y' p q => ?_) a rfl, fun w hw => ?_⟩
    · have hi : i < m := by have := (Array.getElem?_eq_some_iff.1 p).1; simpa using this
      simp only [symRow, List.getElem?_toArray, List.getElem?_map, List.getElem?_range hi, Option.map_some, Option.some.injEq] at p q
      subst p; subst q
      exact .sym _ rfl (h1 i hi) ⟨h1 i hi, fun k hk2 => by rw [hk i hi] at hk2; cases hk2⟩
    · obtain ⟨dst, op, type, pos, after, guard⟩ := o
      cases ho
      show (do pure (.value (← Instr.loadAt t (a.eval x))) : Sem Next).run P w = _
      rw [r1]
      simp [h2 w hw]
  split at he
  · rename_i ob e
    split at he
    case isFalse => cases he
    rename_i hkin
    cases he
    obtain ⟨h1, h2⟩ := symE_run (P := P) hg hT e (hc ob (by simp))
    exact ⟨_, rfl, putT_lsr hT o.dst (.sym _ rfl h1 ⟨h1, fun k hk => by rw [hkin] at hk; cases hk⟩) a rfl, h2⟩
  · cases he

/-! ### results -/
def resOf (A : Array Value) : ResultVar → Sem Value
  | .tmp t => pure (A.getD t undef)
  | .cell a t => do loadVar t (← asAddr (A.getD a undef))
theorem results_eq (fn : Func) (A : Array Value) : results fn A = (do
    let vs ← fn.results.mapM (resOf A)
    pure (if h : vs.size = 1 then vs[0] else .tuple vs)) := by
  unfold results
  congr 1
theorem resultE_run (h : M w0 K ro β H w) {T : List Value} {A : Array Value} (hT : LsR β T A.toList) {r : ResultVar} {v : Value} (he : resultE P H T r = some v) :
    ∃ v', (resOf A r).run P w = .ok v' w ∧ VR β v v' := by
  cases r with
  | tmp t => simp only [resultE, Option.some.injEq] at he; subst he; exact ⟨_, rfl, lsr_getD hT t⟩
  | cell a t =>
    simp only [resultE] at he
    obtain ⟨x', e1, e2⟩ := loadE_run (P := P) h (lsr_getD hT a) he
    have e1 := e1 w (fun _ _ _ _ => rfl)
    refine ⟨x', ?_, e2⟩
    have hv := lsr_getD hT a
    generalize T.getD a undef = u at he hv
    generalize hA : A.getD a undef = u' at e1 hv
    unfold loadE at he
    split at he
    · cases hv
      simp only [Instr.loadAt, Instr.sureAddr, Sem.run_bind, Sem.run_pure, Result.andThen_ok] at e1
      simp only [resOf, hA, Sem.run_bind, asAddr, Sem.run_pure, Result.andThen_ok]
      exact e1
    · cases he
theorem resultsE_run (h : M w0 K ro β H w) {T : List Value} {A : Array Value} (hT : LsR β T A.toList) : ∀ (rs : List ResultVar) (vs : List Value), resultsE P H T rs = some vs →
    ∃ vs', (rs.mapM (resOf A)).run P w = .ok vs' w ∧ LsR β vs vs' := by
  intro rs
  induction rs with
  | nil => intro vs he; cases he; exact ⟨[], by simp, LsR.nil β⟩
  | cons r rs ih =>
    intro vs he
    simp only [resultsE] at he
    split at he
    · rename_i v vs2 e1 e2
      cases he
      obtain ⟨v', q1, q2⟩ := resultE_run h hT e1
      obtain ⟨vs', q3, q4⟩ := ih vs2 e2
      refine ⟨v' :: vs', ?_, .cons q2 q4⟩
      rw [List.mapM_cons, Sem.run_bind, q1, Result.andThen_ok, Sem.run_bind, q3, Result.andThen_ok]
      rfl
    · cases he
theorem retE_run (h : M w0 K ro β H w) {T : List Value} {A : Array Value} (hT : LsR β T A.toList) {fn : Func} {v : Value} (he : retE P fn H T = some v) :
    ∃ v', (results fn A).run P w = .ok v' w ∧ VR β v v' := by
  unfold retE at he
  have key : ∀ vs, resultsE P H T fn.results.toList = some vs → ∃ vs', (results fn A).run P w = .ok (if h : vs'.toArray.size = 1 then vs'.toArray[0] else .tuple vs'.toArray) w ∧ LsR β vs vs' := by
    intro vs hv
    obtain ⟨vs', q1, q2⟩ := resultsE_run h hT _ _ hv
    refine ⟨vs', ?_, q2⟩
    rw [results_eq, Sem.run_bind, Array.mapM_eq_mapM_toList, Sem.run_map, q1]
    rfl
  split at he
  · rename_i v2 e
    cases he
    obtain ⟨vs', q1, q2⟩ := key _ e
    obtain ⟨v', rfl, q3⟩ := lsr1 q2
    exact ⟨v', by rw [q1]; rfl, q3⟩
  · rename_i vs hn e
    cases he
    obtain ⟨vs', q1, q2⟩ := key _ e
    refine ⟨.tuple vs'.toArray, ?_, .tuple (by have := q2.1; simpa using this) (by simpa using q2.2)⟩
    rw [q1]
    have : ¬ vs'.toArray.size = 1 := by
      intro hs
      have h1 : vs.length = 1 := by rw [q2.1]; simpa using hs
      obtain ⟨x, rfl⟩ := List.length_eq_one_iff.1 h1
      exact hn x rfl
    rw [dif_neg this]
  · cases he

/-! ### a call's target -/
def NoNum (P : Program) : Prop := ∀ (f : Nat) (fn : Func), P.funcs[f]? = some fn → (fn.name == "runtime.NumGoroutine") = false
theorem targetE_run {ρ : Option Nat} (hP : NoNum P) (hg : GlobOk β) {T : List Value} {a : Act} (hT : LsR β T a.tmps.toList) {o : Oper} {f : FuncId} {args : List Value} (he : targetE P T o = some (.call f args)) :
    ∃ args' : Array Value, LsR β args args'.toList ∧ ∀ w, (o.semAt ρ a.eval).run P w = .ok (.enter f args') w := by
  unfold targetE at he
  split at he
  case h_2 => cases he
  rename_i fo as ts ho
  have hs : o.semAt ρ a.eval = execOp a.eval o := Oper.semAt_eq _ _ _ (fun c e => by rw [ho] at e; cases e)
  rw [hs]
  split at he
  case h_3 => cases he
  case h_2 => split at he <;> cases he
  rename_i g first captured al e1 e2
  split at he
  case h_2 => cases he
  rename_i fn hf
  split at he
  case isFalse => cases he
  rename_i hb
  cases he
  have hv := opd_vr hg hT e1
  have hl := opds_vr hg hT _ _ e2
  generalize hfe : a.eval fo = fv at hv
  cases hv with
  | func h0 h1 h2 h3 h4 =>
  rename_i first' captured'
  refine ⟨first' ++ as.map a.eval ++ captured', ?_, fun w => ?_⟩
  · have q1 := AsR.toList (β := β) (c := first) (c' := first') ⟨h1, h2⟩
    have q2 := AsR.toList (β := β) (c := captured) (c' := captured') ⟨h3, h4⟩
    simpa using (q1.append hl).append q2
  · unfold execOp
    simp only [ho, resolve, Sem.run_bind, hfe, Deferred.ofValue, Sem.run_pure, Result.andThen_ok, invoke, callFunc, run_program, hf]
    simp only [hP _ fn hf, Bool.false_eq_true, if_false]
    have hb' : fn.body.isNone = false := by cases hbb : fn.body <;> simp_all
    simp [hb']
theorem targetY_run {ρ : Option Nat} (hg : GlobOk β) {T : List Value} {a : Act} (hT : LsR β T a.tmps.toList) {o : Oper} {l : Nat} {args : List Value} (he : targetE P T o = some (.round l args)) :
    ∃ (b : Nat) (args' : Array Value), LR β l b ∧ LsR β args args'.toList ∧ ∀ w, (o.semAt ρ a.eval).run P w = (Instr.yield b args').run P w := by
  unfold targetE at he
  split at he
  case h_2 => cases he
  rename_i fo as ts ho
  have hs : o.semAt ρ a.eval = execOp a.eval o := Oper.semAt_eq _ _ _ (fun c e => by rw [ho] at e; cases e)
  rw [hs]
  split at he
  case h_3 => cases he
  case h_1 =>
    split at he
    · split at he <;> cases he
    · cases he
  rename_i l2 first captured al e1 e2
  split at he
  case isFalse => cases he
  rename_i hz
  cases he
  have z1 := Array.eq_empty_of_size_eq_zero hz.1
  have z2 := Array.eq_empty_of_size_eq_zero hz.2
  subst z1; subst z2
  have hv := opd_vr hg hT e1
  have hl := opds_vr hg hT _ _ e2
  generalize hfe : a.eval fo = fv at hv
  cases hv with
  | func h0 h1 h2 h3 h4 => cases h0
  | yld k =>
  rename_i b
  refine ⟨b, as.map a.eval, k, by simpa using hl, fun w => ?_⟩
  unfold execOp
  simp only [ho, resolve, Sem.run_bind, hfe, Deferred.ofValue, Sem.run_pure, Result.andThen_ok, invoke]
  simp
theorem targetE_jobs {T : List Value} {o : Oper} {j : Job} (h : targetE P T o = some j) : (∃ f args, j = .call f args) ∨ ∃ l args, j = .round l args := by
  unfold targetE at h
  split at h
  case h_2 => cases h
  split at h
  · split at h
    · split at h
      · cases h; exact .inl ⟨_, _, rfl⟩
      · cases h
    · cases h
  · split at h
    · cases h; exact .inr ⟨_, _, rfl⟩
    · cases h
  · cases h

theorem run_wrapNil {ts : Array TypeId} {ty : TypeId} {b : Addr} {s1 s2 : String} (w : World) : (Builtin.ssaWrapNilChk_ ts ty #[.pointer (some b), strVal s1, strVal s2]).run P w = .ok (.pointer (some b)) w := rfl
theorem invE_run {ρ : Option Nat} (hP : NoNum P) (h : M w0 K ro β H w) {T : List Value} {a : Act} (hT : LsR β T a.tmps.toList) {o : Oper} {j : Job} (he : invE P H T o = some j) :
    ∃ f args, ∃ args' : Array Value, j = .call f args ∧ LsR β args args'.toList ∧ (o.semAt ρ a.eval).run P w = .ok (.enter f args') w := by
  unfold invE at he
  split at he
  case h_2 => cases he
  rename_i recv name as ts ho
  have hs : o.semAt ρ a.eval = execOp a.eval o := Oper.semAt_eq _ _ _ (fun c e => by rw [ho] at e; cases e)
  rw [hs]
  split at he
  case h_2 => cases he
  rename_i t v al e1 e2
  split at he
  case h_2 => cases he
  rename_i inf hi
  split at he
  case h_2 => cases he
  rename_i m hm
  split at he
  case isFalse => cases he
  rename_i hpath
  split at he
  case h_2 => cases he
  rename_i g pr hfn
  split at he
  case isFalse => cases he
  rename_i hbody
  rw [Option.any_eq_true] at hbody
  obtain ⟨gfn, hgf, hgb⟩ := hbody
  have hgb' : gfn.body.isNone = false := by cases hbb : gfn.body <;> simp_all
  have hv := opd_vr h.glob hT e1
  have hl := opds_vr h.glob hT _ _ e2
  generalize hre : a.eval recv = rv at hv
  cases hv with
  | iface hv =>
  rename_i v'
  have hpl : m.path.toList = [] := by simpa using hpath
  have hcf : ∀ args w, (callFunc g args).run P w = .ok (.enter g args) w := fun args w => by
    simp only [callFunc, Sem.run_bind, run_program, Result.andThen_ok, hgf]
    simp only [hP _ gfn hgf, Bool.false_eq_true, if_false, hgb']
    rfl
  have key : ∀ x' : Value, (receiverAt t (.val v') pr (some ((name.splitOn ".").getLastD name))).run P w = .ok x' w → (execOp a.eval o).run P w = .ok (.enter g (#[x'] ++ as.map a.eval)) w := by
    intro x' hx
    have hti : (typeInfo t).run P w = .ok inf w := by simp [typeInfo, hi]
    have hme : (method (P.types.size + Made.depth) t v' name).run P w = .ok (g, x') w := by
      have hd : P.types.size + Made.depth = (P.types.size + 99) + 1 := rfl
      rw [hd]
      unfold method
      simp only [Sem.run_bind, hti, Result.andThen_ok, hm, hpl, follow, Sem.run_pure, hfn, hpath, if_true, hx]
    unfold execOp
    have h0 : (#[Value.iface t v'] ++ as.map a.eval)[0]? = some (Value.iface t v') := by rw [Array.getElem?_append_left (by simp)]; rfl
    have h1 : (#[Value.iface t v'] ++ as.map a.eval).extract 1 (#[Value.iface t v'] ++ as.map a.eval).size = as.map a.eval := by
      apply Array.ext'; simp [List.take_of_length_le]
    simp only [ho, resolve, Sem.run_bind, hre, Sem.run_pure, Result.andThen_ok, invoke, h0, h1, callMethod, run_program, hme, hcf]
  have one : ∀ {x x' : Value}, VR β x x' → LsR β (x :: al) (#[x'] ++ as.map a.eval).toList := fun k => by
    have := LsR.cons (β := β) k hl
    simpa using this
  split at he
  · rename_i e hu
    split at he
    · rename_i x hld
      cases he
      obtain ⟨x', q1, q2⟩ := loadE_run (P := P) h hv hld
      refine ⟨_, _, _, rfl, one q2, key x' ?_⟩
      unfold loadE at hld
      split at hld
      · cases hv
        rename_i hh
        simp only [Instr.loadAt, Instr.sureAddr, Sem.run_bind, Sem.run_pure, Result.andThen_ok] at q1
        simp only [receiverAt, Sem.run_bind, run_underlying hu, Result.andThen_ok, Place.get, Sem.run_pure, run_wrapNil, asAddr]
        exact q1 w (fun _ _ _ _ => rfl)
      · cases hld
    · cases he
  · rename_i e hu
    cases he
    exact ⟨_, _, _, rfl, one hv, key v' (by simp [receiverAt, run_underlying hu, Place.get])⟩
  · rename_i d hn hu
    cases he
    refine ⟨_, _, _, rfl, one hv, key v' ?_⟩
    cases d <;> first
      | (simp [receiverAt, run_underlying hu, Place.get]; done)
      | exact (hn _ rfl).elim
  · cases he
theorem jobE_jobs {T : List Value} {o : Oper} {j : Job} (h : jobE P H T o = some j) : (∃ f args, j = .call f args) ∨ ∃ l args, j = .round l args := by
  rcases orE_some h with h | h
  · exact targetE_jobs h
  · unfold invE at h
    repeat' split at h
    all_goals first
      | (cases h; done)
      | (cases h; exact .inl ⟨_, _, rfl⟩)

/-! ### the same state, but for the labels' names -/
theorem bytes_eq {a b : ByteArray} (h : a.data.toList = b.data.toList) : a = b := ByteArray.ext (Array.ext' h)
theorem zip_at {α : Type} {f : α → α → Bool} : ∀ {l m : List α}, l.length = m.length → (l.zip m).all (fun p => f p.1 p.2) = true → ∀ (i : Nat) (x : α), l[i]? = some x → ∃ y, m[i]? = some y ∧ f x y = true := by
  intro l
  induction l with
  | nil => intro m _ _ i x hx; simp at hx
  | cons a l ih =>
    intro m h k i x hx
    cases m with
    | nil => simp at h
    | cons b m =>
      simp only [List.zip_cons_cons, List.all_cons, Bool.and_eq_true] at k
      cases i with
      | zero => simp at hx; subst hx; exact ⟨b, rfl, k.1⟩
      | succ i => exact ih (by simpa using h) k.2 i x (by simpa using hx)
section
variable {f : Nat → Nat} {β2 β3 : Env}
theorem AR.like (hf : ∀ l, β3[l]? = β2[f l]?) {a b x : Addr} (h1 : f a.block = b.block) (h2 : a.off = b.off) (h3 : a.spot = b.spot) (h : AR β2 b x) : AR β3 a x := by
  unfold AR at h ⊢
  rw [hf, h1, h2, h3]; exact h
theorem SR.like (hf : ∀ l, β3[l]? = β2[f l]?) {a b x : Addr} {n k c : Nat} (h1 : f a.block = b.block) (h2 : a.off = b.off) (h3 : a.spot = b.spot) (h : SR β2 b x n k c) : SR β3 a x n k c := by
  unfold SR at h ⊢
  rw [hf, h1, h2, h3]; exact h
theorem likeV_vr (hf : ∀ l, β3[l]? = β2[f l]?) : ∀ (n : Nat) (v u x : Value), likeV f n v u = true → VR β2 u x → VR β3 v x := by
  intro n
  induction n with
  | zero => intro v u x h; cases h
  | succ n ih =>
    intro v u x h k
    have arr : ∀ {a b c : Array Value}, a.size = b.size → (a.toList.zip b.toList).all (fun p => likeV f n p.1 p.2) = true → b.size = c.size → (∀ (i : Nat) (x x' : Value), b[i]? = some x → c[i]? = some x' → VR β2 x x') →
        a.size = c.size ∧ ∀ (i : Nat) (x x' : Value), a[i]? = some x → c[i]? = some x' → VR β3 x x' := fun {a b c} h1 h2 h3 h4 => by
      refine ⟨h1.trans h3, fun i y y' p q => ?_⟩
      obtain ⟨z, hz, hl⟩ := zip_at (by simpa using h1) h2 i y (by simpa using p)
      exact ih _ _ _ hl (h4 i z y' (by simpa using hz) q)
    unfold likeV at h
    split at h
    · cases k; rw [eq_of_beq h]; exact .bool _
    · simp only [Bool.and_eq_true, decide_eq_true_eq, beq_iff_eq] at h; cases k; rw [h.1, h.2]; exact .int _ _
    · simp only [Bool.and_eq_true, beq_iff_eq] at h; cases k; rw [h.1, h.2]; exact .float _ _
    · cases k; rw [bytes_eq (eq_of_beq h)]; exact .string _
    · cases k; exact .nilp
    · simp only [Bool.and_eq_true, beq_iff_eq] at h
      cases k with
      | ptr k => exact .ptr (k.like hf h.1.1 h.1.2 h.2)
    · simp only [Bool.and_eq_true, beq_iff_eq] at h; cases k; rw [h.1, h.2]; exact .nils _ _
    · simp only [Bool.and_eq_true, beq_iff_eq] at h
      obtain ⟨⟨⟨⟨h1, h2⟩, h3⟩, h4⟩, h5⟩ := h
      cases k with
      | sl k => rw [h4, h5]; exact .sl (k.like hf h1 h2 h3)
    · cases k; exact .nilm
    · cases k with
      | map k => exact .map (by unfold LR at k ⊢; rw [hf, eq_of_beq h]; exact k)
    · cases k with
      | opq k => rw [eq_of_beq h]; exact .opq k
      | sym i e k hk => rw [eq_of_beq h]; exact .sym i e k hk
    · simp only [Bool.and_eq_true, beq_iff_eq] at h
      cases k with
      | row k r =>
        obtain ⟨a, n, c, r1, r2, r3, r4, r5⟩ := r
        exact .row _ ⟨a, n, c, r1, r2, by rw [h.1]; exact r3, by rw [h.1]; exact r4, by rw [hf, h.2]; exact r5⟩
    · simp only [Bool.and_eq_true, beq_iff_eq] at h
      obtain ⟨⟨⟨⟨h1, h2⟩, h3⟩, h4⟩, h5⟩ := h
      have z1 := Array.eq_empty_of_size_eq_zero h2
      have z2 := Array.eq_empty_of_size_eq_zero h4
      subst z1; subst z2
      cases k with
      | yld k => exact .yld (by unfold LR at k ⊢; rw [hf, h1]; exact k)
      | func k0 k1 k2 k3 k4 => cases k0
    · simp only [Bool.and_eq_true, beq_iff_eq] at h
      obtain ⟨⟨⟨⟨⟨h0, h1⟩, h2⟩, h3⟩, h4⟩, h5⟩ := h
      cases k with
      | yld k => rw [h1] at h0; cases h0
      | func k0 k1 k2 k3 k4 =>
        rw [h1]
        obtain ⟨a1, a2⟩ := arr h2 h4 k1 k2
        obtain ⟨a3, a4⟩ := arr h3 h5 k3 k4
        exact .func k0 a1 a2 a3 a4
    · cases k; exact .nilf
    · simp only [Bool.and_eq_true, beq_iff_eq] at h
      cases k with
      | iface k => rw [h.1]; exact .iface (ih _ _ _ h.2 k)
    · cases k; exact .nili
    · simp only [Bool.and_eq_true, beq_iff_eq] at h
      cases k with
      | agg k1 k2 =>
        obtain ⟨a1, a2⟩ := arr h.1 h.2 k1 k2
        exact .agg a1 a2
    · simp only [Bool.and_eq_true, beq_iff_eq] at h
      cases k with
      | tuple k1 k2 =>
        obtain ⟨a1, a2⟩ := arr h.1 h.2 k1 k2
        exact .tuple a1 a2
    · cases h
theorem likeVs_lsr (hf : ∀ l, β3[l]? = β2[f l]?) {l m x : List Value} (h : likeVs f l m = true) (k : LsR β2 m x) : LsR β3 l x := by
  simp only [likeVs, Bool.and_eq_true, beq_iff_eq] at h
  refine ⟨h.1.trans k.1, fun i y y' p q => ?_⟩
  obtain ⟨z, hz, hl⟩ := zip_at h.1 h.2 i y p
  exact likeV_vr hf _ _ _ _ hl (k.2 i z y' hz q)
theorem likeO_or (hf : ∀ l, β3[l]? = β2[f l]?) {o : Obj} {b : Option Obj} (h : likeO f (some o) b = true) : ∃ u, b = some u ∧ ∀ (p : Spot) (x : Obj), OR β2 p u x → OR β3 p o x := by
  unfold likeO at h
  split at h
  · rename_i e; cases e
  · rename_i c t z d y e
    cases e
    simp only [Bool.and_eq_true, beq_iff_eq] at h
    refine ⟨_, rfl, fun p x k => ?_⟩
    cases k with
    | cells k hz =>
      obtain ⟨h1, h2⟩ := h
      have h1' := h1
      simp only [likeVs, Bool.and_eq_true, beq_iff_eq] at h1'
      refine .cells ⟨k.size, by have := k.le; have := h1'.1; simp at this; omega, fun i v hv => ?_, k.fz⟩ (fun e => hz (by rw [← h2]; exact e))
      obtain ⟨z, hz, hl⟩ := zip_at h1'.1 h1'.2 i v (by simpa using hv)
      obtain ⟨x', p1, p2⟩ := k.at_ i z (by simpa using hz)
      exact ⟨x', p1, likeV_vr hf _ _ _ _ hl p2⟩
  · rename_i es k fs j e
    cases e
    simp only [Bool.and_eq_true, beq_iff_eq] at h
    obtain ⟨⟨h1, h2⟩, h3⟩ := h
    refine ⟨_, rfl, fun p x k => ?_⟩
    cases k with
    | map k1 k2 =>
      rw [h2]
      refine .map (h1.trans k1) fun i a a' q1 q2 => ?_
      obtain ⟨z, hz, hl⟩ := zip_at (f := fun (p q : MapEntry) => p.born == q.born && likeV f 100 p.key q.key && likeV f 100 p.val q.val) (by simpa using h1) h3 i a (by simpa using q1)
      simp only [Bool.and_eq_true, beq_iff_eq] at hl
      obtain ⟨m1, m2, m3⟩ := k2 i z a' (by simpa using hz) q2
      exact ⟨m1.trans hl.1.1.symm, likeV_vr hf _ _ _ _ hl.1.2 m2, likeV_vr hf _ _ _ _ hl.2 m3⟩
  · rename_i e; cases e
    simp only [Bool.and_eq_true, beq_iff_eq] at h
    refine ⟨_, rfl, fun p x k => ?_⟩
    cases k with
    | mapIterN hs => rw [h.1.1, h.1.2, h.2]; exact .mapIterN hs
  · rename_i e; cases e
    simp only [Bool.and_eq_true, beq_iff_eq] at h
    obtain ⟨⟨⟨h1, h2⟩, h3⟩, h4⟩ := h
    refine ⟨_, rfl, fun p x k => ?_⟩
    cases k with
    | mapIter hs k => rw [h2, h3, h4]; exact .mapIter hs (by unfold LR at k ⊢; rw [hf, h1]; exact k)
  · rename_i e; cases e
    simp only [Bool.and_eq_true, beq_iff_eq] at h
    refine ⟨_, rfl, fun p x k => ?_⟩
    cases k with
    | stringIter _ _ hs => rw [bytes_eq h.1, h.2]; exact .stringIter _ _ hs
  · rename_i e; cases e
    refine ⟨_, rfl, fun p x k => ?_⟩
    cases k with
    | row hs k => rw [eq_of_beq h]; exact .row hs k
  · rename_i a ta b tb e; cases e
    simp only [Bool.and_eq_true, beq_iff_eq] at h
    refine ⟨_, rfl, fun p x k => ?_⟩
    obtain ⟨ab, ao, as⟩ := a
    obtain ⟨bb, bo, bs⟩ := b
    obtain ⟨⟨⟨⟨h1, h2⟩, h3⟩, h4⟩, h5⟩ := h
    simp only at h1 h2 h3
    subst h1 h2 h3
    cases as with
    | some q => simp at h4
    | none =>
      cases k with
      | told k => exact .told k
  · cases h
end

theorem likeL_run {n0 n1 : Nat} {l k : List Nat} {s t : St} (h : likeL ro n0 n1 l k s t = true) {β β2 : Env} (hM : M w0 K ro β2 t.H w) (hg : GlobOk β) (hn : β.length ≤ n1) (he : Ext β β2) {A : List Value} (hT : LsR β2 t.T A) (hsame : ∀ i o, i < n0 → ro i = true → s.H[i]? = some (some o) → t.H[i]? = some (some o) ∧ i < n1 ∧ ∃ p o', β[i]? = some (some p) ∧ w.heap[p.b]? = some o' ∧ OR β p o o')
    (hloop : ∀ i r q, i < n0 → s.H[i]? = some (some (.loop r)) → t.H[i]? = some (some (.loop q)) → SameCode r q ∧ i < n1) :
    ∃ β3, Ext β β3 ∧ M w0 K ro β3 s.H w ∧ LsR β3 s.T A ∧ ∀ r, DsR β2 t.ds r → DsR β3 s.ds r := by
  simp only [likeL, Bool.and_eq_true, beq_iff_eq] at h
  obtain ⟨⟨⟨⟨⟨h1, hds⟩, h2⟩, h3⟩, h4⟩, h6⟩ := h
  have h7 : ∀ i, i < s.H.length → nameE l i < s.H.length ∧ nameE k (nameE l i) = i ∧ (n1 ≤ i ∨ nameE l i = i) ∧ (ro (nameE l i) = false ∨ ro i = true) ∧ ((i < n0 ∧ (ro i = true ∨ likeLoop (nameE l) (s.H.getD i none) (t.H.getD i none) = true)) ∨ likeO (nameE l) (s.H.getD i none) (t.H.getD (nameE l i) none) = true) := by
    intro i hi
    have := List.all_eq_true.1 h6 i (List.mem_range.2 hi)
    simp only [Bool.and_eq_true, Bool.or_eq_true, decide_eq_true_eq, beq_iff_eq, Bool.not_eq_true'] at this
    exact ⟨this.1.1.1.1, this.1.1.1.2, this.1.1.2, this.1.2, this.2⟩
  have hout : ∀ i, s.H.length ≤ i → nameE l i = i := fun i hi => by
    unfold nameE; rw [List.getD_eq_getElem?_getD, List.getElem?_eq_none (by omega)]; rfl
  have hlen : β2.length = s.H.length := hM.len.trans h2.symm
  let β3 : Env := (List.range s.H.length).map fun i => (β2[nameE l i]?).getD none
  have hl3 : β3.length = s.H.length := by simp [β3]
  have hf : ∀ i, β3[i]? = β2[nameE l i]? := by
    intro i
    rcases Nat.lt_or_ge i s.H.length with hi | hi
    · have hlt : nameE l i < β2.length := by rw [hlen]; exact (h7 i hi).1
      simp only [β3, List.getElem?_map, List.getElem?_range hi, Option.map_some]
      rw [List.getElem?_eq_getElem hlt]; rfl
    · rw [hout i hi, List.getElem?_eq_none (by omega), List.getElem?_eq_none (by omega)]
  have hext : Ext β β3 := by
    intro i x hx
    have hi : i < n1 := Nat.lt_of_lt_of_le (List.getElem?_eq_some_iff.1 hx).1 hn
    have hi2 : i < s.H.length := by
      rcases he i x hx with h | h <;> (rw [← hlen]; exact (List.getElem?_eq_some_iff.1 h).1)
    rw [hf]
    rcases (h7 i hi2).2.2.1 with h | h
    · omega
    · rw [h]; exact he i x hx
  refine ⟨β3, hext, ⟨hl3, fun i o ho => ?_, fun i p hp => ?_, fun i j p q hp hq e => ?_, fun i p hp => ?_, hM.os, hM.tape, hM.output, hM.size, hM.block, hg.ext hext, hM.mem⟩, likeVs_lsr hf h1 hT, fun r hr => DsR.like hf (by rw [hds]; exact hr)⟩
  · have hi : i < s.H.length := (List.getElem?_eq_some_iff.1 ho).1
    rcases (h7 i hi).2.2.2.2 with ⟨hk1, hk2 | hk2⟩ | hk
    · obtain ⟨ht, hn1, p, o', b1, b2, b3⟩ := hsame i o hk1 hk2 ho
      obtain ⟨p2, o2, a, b, c⟩ := hM.obj _ _ ht
      have hp : p2 = p := by
        rcases he _ _ b1 with q | q
        · rw [a] at q; cases q; rfl
        · rw [a] at q; cases q
      subst hp
      have hname : nameE l i = i := by
        rcases (h7 i hi).2.2.1 with c | c
        · omega
        · exact c
      exact ⟨p2, o', by rw [hf, hname]; exact a, b2, b3.mono hext⟩
    · rw [List.getD_eq_getElem?_getD, ho] at hk2
      unfold likeLoop at hk2
      split at hk2
      case h_2 => cases hk2
      rename_i r q e1 e2
      cases e1
      have hlt : i < t.H.length := by rw [← h2]; exact hi
      have ht : t.H[i]? = some (some (.loop q)) := by
        rw [List.getD_eq_getElem?_getD, List.getElem?_eq_getElem hlt] at e2
        rw [List.getElem?_eq_getElem hlt]; exact congrArg some e2
      obtain ⟨⟨c1, c2, c3⟩, hn1⟩ := hloop i r q hk1 ho ht
      simp only [Bool.and_eq_true, decide_eq_true_eq, Option.isNone_iff_eq_none] at hk2
      obtain ⟨⟨⟨d1, d2⟩, d3⟩, d4⟩ := hk2
      obtain ⟨p, o', a, b, c⟩ := hM.obj _ _ ht
      have hname : nameE l i = i := by
        rcases (h7 i hi).2.2.1 with c | c
        · omega
        · exact c
      refine ⟨p, o', by rw [hf, hname]; exact a, b, ?_⟩
      cases c with
      | loop hs hA =>
      rename_i t' fn d
      have he : ({ q with tmps := t', fn := fn, defers := d } : Loop) = { r with tmps := t', fn := fn, defers := d } := by
        cases r; cases q; simp only at c1 c2 c3 d1 d2 d3; subst c1; subst c2; subst c3; subst d1; subst d2; subst d3; rfl
      rw [he]
      have := likeVs_lsr hf d4 hA.toList
      exact .loop hs ⟨by simpa using this.1, by simpa using this.2⟩
    rw [List.getD_eq_getElem?_getD, ho] at hk
    obtain ⟨u, e1, e2⟩ := likeO_or hf hk
    have : t.H[nameE l i]? = some (some u) := by
      have hlt : nameE l i < t.H.length := by rw [← h2]; exact (h7 i hi).1
      rw [List.getD_eq_getElem?_getD, List.getElem?_eq_getElem hlt] at e1
      rw [List.getElem?_eq_getElem hlt]; exact congrArg some e1
    obtain ⟨p, o', a, b, c⟩ := hM.obj _ _ this
    exact ⟨p, o', by rw [hf]; exact a, b, e2 _ _ c⟩
  · rw [hf] at hp; exact hM.lt _ _ hp
  · have hi : i < s.H.length := by rw [← hl3]; exact (List.getElem?_eq_some_iff.1 hp).1
    have hj : j < s.H.length := by rw [← hl3]; exact (List.getElem?_eq_some_iff.1 hq).1
    rw [hf] at hp hq
    have := hM.inj _ _ _ _ hp hq e
    rw [← (h7 i hi).2.1, ← (h7 j hj).2.1, this]
  · have hi : i < s.H.length := by rw [← hl3]; exact (List.getElem?_eq_some_iff.1 hp).1
    rw [hf] at hp
    rcases hM.own _ _ hp with c | c
    · rcases (h7 i hi).2.2.2.1 with d | d
      · rw [d] at c; cases c
      · exact .inl d
    · exact .inr c
theorem likeSt_run {n0 n1 m0 : Nat} {s t : St} (h : likeSt ro n0 n1 m0 s t = true) : (s.cs.length = m0 ∧ t.cs.length = m0) ∧ ∀ {w : World} {β β2 : Env}, M w0 K ro β2 t.H w → GlobOk β → β.length ≤ n1 → Ext β β2 → ∀ {A : List Value}, LsR β2 t.T A → (∀ i o, i < n0 → ro i = true → s.H[i]? = some (some o) → t.H[i]? = some (some o) ∧ i < n1 ∧ ∃ p o', β[i]? = some (some p) ∧ w.heap[p.b]? = some o' ∧ OR β p o o') →
    (∀ i r q, i < n0 → s.H[i]? = some (some (.loop r)) → t.H[i]? = some (some (.loop q)) → SameCode r q ∧ i < n1) →
    ∃ β3, Ext β β3 ∧ M w0 K ro β3 s.H w ∧ LsR β3 s.T A ∧ ∀ r, DsR β2 t.ds r → DsR β3 s.ds r := by
  simp only [likeSt, Bool.and_eq_true, beq_iff_eq, List.any_eq_true] at h
  obtain ⟨hm, p, _, h⟩ := h
  exact ⟨hm, fun hM hg hn he _ hT hs hl => likeL_run h hM hg hn he hT hs hl⟩
theorem allSame_eq {n0 n1 m0 : Nat} {l : List (Option (X × St))} {r : X} {s : St} (h : allSame ro n0 n1 m0 l = some (r, s)) : r = .normal ∧ (∃ q ∈ l, q = some (r, s)) ∧ ∀ q ∈ l, ∃ t, q = some (r, t) ∧ (t = s ∨ likeSt ro n0 n1 m0 s t = true) := by
  unfold allSame at h
  split at h
  · split at h
    · rename_i s0 rs hall
      cases h
      refine ⟨rfl, ⟨_, by simp, rfl⟩, fun q hq => ?_⟩
      rcases List.mem_cons.1 hq with e | e
      · exact ⟨_, e, .inl rfl⟩
      · have := List.all_eq_true.1 hall q e
        split at this
        · exact ⟨_, rfl, .inr this⟩
        · cases this
    · cases h
  · cases h

/-! ### regions that draw their order -/
/-- the blocks that a region may write -/
def Kd (β : Env) (ro : Nat → Bool) (k : Nat) : Prop := ∃ (l : Nat) (p : Spot), β[l]? = some (some p) ∧ p.b = k ∧ ro l = false
theorem roE_old {n : Nat} {dl : List Nat} {l : Nat} (h : ro l = true) : roE ro n dl l = true := by simp [roE, h]
theorem M.sub (h : M w0 K ro β H w) (r2 : Nat → Bool) (hr2 : ∀ l, ro l = true → r2 l = true) : M w (Kd β r2) r2 β H w :=
  ⟨h.len, h.obj, h.lt, h.inj, fun l p hl => by
    cases hr : r2 l with
    | true => exact .inl rfl
    | false => exact .inr (.inl ⟨l, p, hl, rfl, hr⟩), rfl, rfl, rfl, Nat.le_refl _, fun _ _ _ => rfl, h.glob, fun b o hb => by
      obtain ⟨m1, m2, m3⟩ := h.mem b o hb
      refine ⟨Nat.lt_of_lt_of_le m1 h.size, ?_, by rw [h.block b m1 m2]; exact m3⟩
      rintro ⟨l, p, q1, rfl, q2⟩
      rcases h.own l p q1 with c | c | c
      · rw [hr2 l c] at q2; cases q2
      · exact m2 c
      · omega⟩
theorem M.back {β' : Env} {H' : Heap} (h : M w0 K ro β H w) {dl : List Nat} (h' : M w (Kd β (roE ro H.length dl)) (roE ro H.length dl) β' H' w1) (e : Ext β β') : M w0 K ro β' H' w1 := by
  have hk : ∀ k, Kd β (roE ro H.length dl) k → K k ∨ w0.heap.size ≤ k := by
    rintro k ⟨l, p, a, rfl, b⟩
    rcases h.own l p a with c | c | c
    · rw [roE_old c] at b; cases b
    · exact .inl c
    · exact .inr c
  refine ⟨h'.len, h'.obj, h'.lt, h'.inj, fun l p hl => ?_, h'.os.trans h.os, h'.tape.trans h.tape, h'.output.trans h.output, Nat.le_trans h.size h'.size, fun k hk1 hk2 => ?_, h'.glob, h.mem⟩
  · rcases h'.own l p hl with c | c | c
    · by_cases hlt : l < H.length
      · have hb : β[l]? = some (β[l]'(by rw [h.len]; exact hlt)) := List.getElem?_eq_getElem _
        rcases e l _ hb with d | d
        · rw [hl] at d; have d2 := Option.some.inj d; exact h.own l p (by rw [hb, ← d2])
        · rw [hl] at d; cases d
      · left
        simpa [roE, hlt] using c
    · exact .inr (hk _ c)
    · exact .inr (.inr (Nat.le_trans h.size c))
  · have hn : ¬ Kd β (roE ro H.length dl) k := fun c => by
      rcases hk k c with d | d
      · exact hk2 d
      · omega
    rw [h'.block k (Nat.lt_of_lt_of_le hk1 h.size) hn]
    exact h.block k hk1 hk2
/-- what stood at the beginning, and is not written, is as it was -/
def SameOld (w0 : World) (K : Nat → Prop) (w : World) : Prop := ∀ k, k < w0.heap.size → ¬ K k → w.heap[k]? = w0.heap[k]?
structure Base (β : Env) (w0 : World) (K : Nat → Prop) (n0 : Nat) (ro : Nat → Bool) : Prop where
  len : n0 ≤ β.length
  old : ∀ (l : Nat) (p : Spot), l < n0 → ro l = true → β[l]? = some (some p) → p.b < w0.heap.size ∧ ¬ K p.b
theorem Base.ext {β β' : Env} {n0 : Nat} (h : Base β w0 K n0 ro) (e : Ext β β') (hl : β.length ≤ β'.length) : Base β' w0 K n0 ro := by
  refine ⟨Nat.le_trans h.len hl, fun l p h1 h2 h3 => h.old l p h1 h2 ?_⟩
  have hb : β[l]? = some (β[l]'(by have := h.len; omega)) := List.getElem?_eq_getElem _
  rcases e l _ hb with h4 | h4
  · rw [h3] at h4; rw [hb, ← h4]
  · rw [h3] at h4; cases h4
theorem Ext.len {β β' : Env} (e : Ext β β') : β.length ≤ β'.length := by
  rcases Nat.lt_or_ge β'.length β.length with h | h
  · have hb : β[β'.length]? = some (β[β'.length]'h) := List.getElem?_eq_getElem _
    rcases e _ _ hb with h1 | h1 <;> (rw [List.getElem?_eq_none (Nat.le_refl _)] at h1; cases h1)
  · exact h
theorem M.base (h : M w0 K ro β H w) (r2 : Nat → Bool) : Base β w (Kd β r2) H.length r2 :=
  ⟨by rw [h.len]; exact Nat.le_refl _, fun l p _ hr hl => ⟨h.lt l p hl, fun ⟨l2, p2, a, b, c⟩ => by
    have := h.inj l2 l p2 p a hl b
    subst this
    rw [hr] at c; cases c⟩⟩
theorem freeE_spec {arr : Array Oper} {i : Nat} (h : (freeE arr).contains i = true) {listed : Array Bool} (hr : (Region.ready .any arr listed).contains i = true) : Region.free .any arr listed i = true := by
  have hm : i ∈ freeE arr := by simpa using h
  have h2 := (List.mem_filter.1 hm).2
  have hr2 := mem_ready.1 (show i ∈ Region.ready .any arr listed by simpa using hr)
  obtain ⟨_, oi, ho, hall⟩ := hr2
  unfold Region.free
  rw [ho] at h2 ⊢
  simp only at h2 ⊢
  rw [List.all_eq_true] at h2 ⊢
  intro j hj
  have := h2 j hj
  simp only [Bool.or_eq_true] at this ⊢
  rcases this with (a | a) | a
  · exact .inl (.inl a)
  · left; right
    rw [← Array.any_toList] at a
    obtain ⟨e, he, hb⟩ := List.any_eq_true.1 a
    simp only [Bool.and_eq_true, beq_iff_eq] at hb
    have hl := hall e (by simpa using he) hb.1
    rw [hb.2] at hl
    rcases Nat.lt_or_ge j listed.size with h3 | h3
    · simp [h3] at hl ⊢; exact hl
    · simp [Array.getElem?_eq_none h3] at hl ⊢
  · exact .inr a
theorem M.same (h : M w0 K ro β H w) : SameOld w0 K w := h.block
theorem M.sameMem (h : M w0 K ro β H w) {w2 : World} (hs : SameOld w0 K w2) : SameMem w2 := fun b o hb => by
  obtain ⟨m1, m2, m3⟩ := h.mem b o hb
  rw [hs b m1 m2]; exact m3
theorem symS_ds {st st1 : St} {o : Oper} (h : symS st o = some st1) : st1.ds = st.ds := by
  unfold symS at h
  rcases orE_some h with h | h
  · rcases symL_is h with ⟨r, t, x, a, _, _, _, _, rfl⟩ | ⟨m, r, t, x, a, _, _, _, _, rfl⟩ <;> rfl
  split at h
  · split at h
    · cases h; rfl
    · cases h
  · cases h

theorem eqE_bool {t : TypeId} {a b : Bool} {r : Bool} (he : eqE P H t (.bool a) (.bool b) = some r) (w : World) : (Op.equal t (.bool a) (.bool b)).run P w = .ok r w := by
  unfold eqE at he
  split at he <;> first
    | (rename_i e1 e2; first | (cases e1; done) | (cases e2; done))
    | skip
  · split at he
    · exact (Q.equal t rfl rfl).run he w
    · exact eqS_run (β := []) (.bool a) (.bool b) he w
  · cases he
theorem eqE_agg {t : TypeId} {a b : Array Value} {a' b' : Value} (ha : VR β (.agg a) a') (hb : VR β (.agg b) b') {r : Bool} (he : eqE P H t (.agg a) (.agg b) = some r) (w : World) : (Op.equal t a' b').run P w = .ok r w := by
  unfold eqE at he
  split at he <;> first
    | (rename_i e1 e2; first | (cases e1; done) | (cases e2; done))
    | skip
  · split at he
    · rename_i hq
      simp only [Bool.and_eq_true] at hq
      rw [flat_eq hq.1 ha, flat_eq hq.2 hb]
      exact (Q.equal t hq.1 hq.2).run he w
    · exact eqS_run ha hb he w
  · cases he
theorem lenE_free {t ty : TypeId} {ts : Array TypeId} {x x' v : Value} (ht : ts[0]? = some t) (hx : VR β x x') (hn : ∀ l, x ≠ .map (some l)) (he : lenE P H t x = some v) :
    ∀ w, (Builtin.len_ ts ty #[x']).run P w = .ok v w := by
  unfold lenE at he
  split at he
  · rename_i hu; cases he; cases hx; exact fun w => by simp [Builtin.len_, ht, run_underlying hu]
  · rename_i hu; cases he; exact fun w => by simp [Builtin.len_, ht, run_underlying hu]
  · rename_i hu
    split at he
    · rename_i hu2; cases he; exact fun w => by simp [Builtin.len_, ht, run_underlying hu, run_underlying hu2]
    · cases he
  · rename_i hu; cases he; cases hx <;> exact fun w => by simp [Builtin.len_, ht, run_underlying hu]
  · rename_i hu; cases he; cases hx; exact fun w => by simp [Builtin.len_, ht, run_underlying hu]
  · exact (hn _ rfl).elim
  · cases he

set_option maxHeartbeats 1000000 in
theorem quiet_run (h : M w0 K ro β H w) {n0 : Nat} (hb : Base β w0 K n0 ro) {T : List Value} {a : Act} (hT : LsR β T a.tmps.toList) {o : Oper} (hq : quietE ro n0 T o = true) {v : Value} {H' : Heap} (he : opE P ro T H o = some (v, H')) :
    H' = H ∧ ∃ v', VR β v v' ∧ ∀ w2, SameOld w0 K w2 → (execOp a.eval o).run P w2 = .ok (.value v') w2 := by
  have fin1 : ∀ {s : Sem Value} {v : Value}, execOp a.eval o = (do pure (.value (← s))) → (∃ v', (∀ w, s.run P w = .ok v' w) ∧ VR β v v') → H = H ∧ ∃ v', VR β v v' ∧ ∀ w2, SameOld w0 K w2 → (execOp a.eval o).run P w2 = .ok (.value v') w2 := by
    intro s v e ⟨v', h1, h2⟩
    exact ⟨rfl, v', h2, fun w2 _ => by rw [e]; simp [h1]⟩
  obtain ⟨dst, op, type, pos, after, guard⟩ := o
  unfold opE at he
  unfold quietE at hq
  cases op <;> simp only at he hq <;> try (cases hq; done)
  case move x =>
    obtain ⟨e, rfl⟩ := keep_some he
    exact ⟨rfl, _, opd_vr h.glob hT e, fun w2 _ => rfl⟩
  case assign x =>
    obtain ⟨e, rfl⟩ := keep_some he
    exact ⟨rfl, _, opd_vr h.glob hT e, fun w2 _ => rfl⟩
  case pick c x y =>
    split at he
    · rename_i c1 x1 y1 e1 e2 e3
      obtain ⟨e, rfl⟩ := keep_some he
      obtain ⟨v', q1, q2⟩ := pickE_run (P := P) (opd_vr h.glob hT e1) (opd_vr h.glob hT e2) (opd_vr h.glob hT e3) e
      exact ⟨rfl, v', q2, fun w2 _ => q1 w2⟩
    · cases he
  case build t ps =>
    split at he
    · rename_i c e1
      obtain ⟨e, rfl⟩ := keep_some he
      exact fin1 rfl (buildE_run (by simpa using partsE_vr h.glob hT _ _ e1) e)
    · cases he
  case load t x =>
    split at he
    · rename_i c e1
      obtain ⟨e, rfl⟩ := keep_some he
      rw [e1] at hq
      try simp only at hq
      obtain ⟨x', l1, l2⟩ := loadE_run (P := P) h (opd_vr h.glob hT e1) e
      refine ⟨rfl, x', l2, fun w2 hw2 => ?_⟩
      have : (Instr.loadAt t (a.eval x)).run P w2 = .ok x' w2 := by
        refine l1 w2 fun ad p hc hp => ?_
        subst hc
        unfold oldPtr at hq
        split at hq
        · rename_i l o hh
          cases hh
          simp only [Bool.and_eq_true, decide_eq_true_eq] at hq
          obtain ⟨b1, b2⟩ := hb.old l p hq.1 hq.2 hp
          rw [hw2 _ b1 b2, h.block _ b1 b2]
        · cases hq
      show (do pure (.value (← Instr.loadAt t (a.eval x))) : Sem Next).run P w2 = _
      simp [this]
    · cases he
  case nilCheck x =>
    split at he
    · rename_i c e1
      obtain ⟨e, rfl⟩ := keep_some he
      have hn := nilE_run (P := P) (opd_vr h.glob hT e1) e (ρ := a.eval) (o := ⟨dst, .nilCheck x, type, pos, after, guard⟩) rfl rfl
      exact ⟨rfl, _, (hn w).2, fun w2 _ => (hn w2).1⟩
    · cases he
  case binOp op t x y yt =>
    split at he
    · rename_i c d e1 e2
      split at he
      · rename_i hg
        obtain ⟨e, rfl⟩ := keep_some he
        have hgd := guardE_run (P := P) (op := op) (t := t) (opd_vr h.glob hT e1) (opd_vr h.glob hT e2) hg
        rw [e1, e2] at hq
        try simp only at hq
        have hv := (binE_run h (opd_vr h.glob hT e1) (opd_vr h.glob hT e2) e).2
        refine fin1 (s := do eqGuard op t x y (a.eval x) (a.eval y); binOp op t (a.eval x) (a.eval y)) rfl ⟨v, fun w2 => ?_, hv⟩
        rw [Sem.run_bind, hgd w2, Result.andThen_ok]
        have v1 := opd_vr h.glob hT e1
        have v2 := opd_vr h.glob hT e2
        generalize a.eval x = ax at v1
        generalize a.eval y = ay at v2
        split at hq
        · rename_i q1 q2; cases q1; cases q2; cases v1; cases v2
          exact (Q.binInt _ _ _ _ _ _).run e w2
        · rename_i q1 q2; cases q1; cases q2; cases v1; cases v2
          exact (Q.binStr _ _ _ _).run e w2
        · rename_i q1 q2; cases q1; cases q2; cases v1; cases v2
          unfold binE at e
          simp only at e
          split at e
          · cases hqq : eqE P H' t (.bool _) (.bool _) with
            | none => rw [hqq] at e; cases e
            | some b => rw [hqq] at e; cases e; show (do pure (.bool (← Op.equal t _ _)) : Sem Value).run P w2 = _; simp [eqE_bool hqq w2]
          · cases hqq : eqE P H' t (.bool _) (.bool _) with
            | none => rw [hqq] at e; cases e
            | some b => rw [hqq] at e; cases e; show (do pure (.bool (!(← Op.equal t _ _))) : Sem Value).run P w2 = _; simp [eqE_bool hqq w2]
          · cases e
        · rename_i A B q1 q2; cases q1; cases q2
          have z1 := @eqE_agg _ _ _ P β H' t _ _ _ _ v1 v2
          cases v1; cases v2
          unfold binE at e
          simp only at e
          split at e
          · cases hqq : eqE P H' t (.agg A) (.agg B) with
            | none => rw [hqq] at e; cases e
            | some b => rw [hqq] at e; cases e; show (do pure (.bool (← Op.equal t _ _)) : Sem Value).run P w2 = _; simp [z1 hqq w2]
          · cases hqq : eqE P H' t (.agg A) (.agg B) with
            | none => rw [hqq] at e; cases e
            | some b => rw [hqq] at e; cases e; show (do pure (.bool (!(← Op.equal t _ _))) : Sem Value).run P w2 = _; simp [z1 hqq w2]
          · cases e
        · cases hq
      · cases he
    · cases he
  case unOp op t x =>
    split at he
    · rename_i c e1
      obtain ⟨e, rfl⟩ := keep_some he
      have hu := unE_run (P := P) (opd_vr h.glob hT e1) e
      exact fin1 rfl ⟨_, fun w => (hu w).1, (hu w).2⟩
    · cases he
  case convert s d x =>
    split at he
    · rename_i c e1
      rw [e1] at hq
      try simp only at hq
      split at hq
      · rename_i k n q
        cases q
        have v1 := opd_vr h.glob hT e1
        unfold convE at he
        split at he
        · rename_i d0 k0 n0 q1 q2 q3
          cases he
          cases q3
          refine fin1 (s := convert s d (a.eval x)) rfl ⟨_, fun w => ?_, .int _ _⟩
          generalize a.eval x = ax at v1
          cases v1
          simp only [convert, Sem.run_bind, run_underlying q1, run_underlying q2, Result.andThen_ok]
          cases d0 <;> rfl
        all_goals first
          | (rename_i q; cases q; done)
          | (cases he; done)
          | (rename_i q3; cases q3)
      · cases hq
    · cases he
  case sliceToArrayPointer t x =>
    split at he
    · rename_i c e1
      obtain ⟨e, rfl⟩ := keep_some he
      exact fin1 rfl (arrayAtE_run (opd_vr h.glob hT e1) e)
    · cases he
  case makeInterface t x =>
    split at he
    · rename_i c e1
      obtain ⟨e, rfl⟩ := keep_some he
      exact fin1 rfl (ifaceE_run (opd_vr h.glob hT e1) e)
    · cases he
  case slice t x lo hi mx =>
    split at he
    · rename_i x1 l1 h1 m1 e1 e2 e3 e4
      obtain ⟨e, rfl⟩ := keep_some he
      exact fin1 rfl (sliceE_run h (opd_vr h.glob hT e1) (oopd_vr h.glob hT e2) (oopd_vr h.glob hT e3) (oopd_vr h.glob hT e4) e)
    · cases he
  case fieldAddr t x f =>
    split at he
    · rename_i c e1
      obtain ⟨e, rfl⟩ := keep_some he
      exact fin1 rfl (fieldAtE_run (opd_vr h.glob hT e1) e)
    · cases he
  case field t x f =>
    split at he
    · rename_i c e1
      obtain ⟨e, rfl⟩ := keep_some he
      exact fin1 rfl (fieldE_run (opd_vr h.glob hT e1) e)
    · cases he
  case indexAddr t x i =>
    split at he
    · rename_i c d e1 e2
      obtain ⟨e, rfl⟩ := keep_some he
      exact fin1 rfl (indexAtE_run (opd_vr h.glob hT e1) (opd_vr h.glob hT e2) e)
    · cases he
  case index t x i =>
    split at he
    · rename_i c d e1 e2
      obtain ⟨e, rfl⟩ := keep_some he
      exact fin1 rfl (indexE_run (opd_vr h.glob hT e1) (opd_vr h.glob hT e2) e)
    · cases he
  case extract x i =>
    split at he
    · rename_i c e1
      obtain ⟨e, rfl⟩ := keep_some he
      exact fin1 rfl (extractE_run (opd_vr h.glob hT e1) e)
    · cases he
  case call c =>
    obtain ⟨callee, args, argTypes⟩ := c
    cases callee <;> simp only at he hq <;> try (cases he; done)
    rename_i b
    have hx : execOp a.eval ⟨dst, .call ⟨.builtin b, args, argTypes⟩, type, pos, after, guard⟩ = builtin b argTypes type (args.map fun | .const _ => true | _ => false) (args.map a.eval) := rfl
    cases hop : opds T args.toList with
    | none => rw [hop] at hq; cases b <;> cases hq
    | some vs =>
      rw [hop] at he hq
      have hl := opds_vr h.glob hT _ _ hop
      have harr : args.map a.eval = (args.toList.map a.eval).toArray := by apply Array.ext'; simp
      have hlen : ∀ {x x' : Value}, VR β x x' → (∀ l, x ≠ .map (some l)) → args.map a.eval = #[x'] → b = .len → (match argTypes[0]? with | some t => keep H (lenE P H t x) | none => none) = some (v, H') → H' = H ∧ ∃ v', VR β v v' ∧ ∀ w2, SameOld w0 K w2 → (execOp a.eval ⟨dst, .call ⟨.builtin b, args, argTypes⟩, type, pos, after, guard⟩).run P w2 = .ok (.value v') w2 := by
        intro x x' q1 hn ha hbl hk
        subst hbl
        clear he hq
        split at hk
        · rename_i t ht
          obtain ⟨e, rfl⟩ := keep_some hk
          have hv := (lenE_run (P := P) (ty := type) h ht q1 e).2
          exact fin1 (s := Builtin.len_ argTypes type #[x']) (by rw [hx, ha]; rfl) ⟨v, lenE_free ht q1 hn e, hv⟩
        · cases hk
      split at hq
      · rename_i p n c e1
        cases e1
        obtain ⟨x', e2, q1⟩ := lsr1 hl
        rw [e2] at harr
        exact hlen q1 (fun l e => by cases e) harr rfl he
      · rename_i s e1
        cases e1
        obtain ⟨x', e2, q1⟩ := lsr1 hl
        rw [e2] at harr
        exact hlen q1 (fun l e => by cases e) harr rfl he
      · rename_i x e1
        cases e1
        obtain ⟨x', e2, q1⟩ := lsr1 hl
        rw [e2] at harr
        simp only at he
        split at he
        · rename_i t ht
          obtain ⟨e, rfl⟩ := keep_some he
          have hc := capE_run (P := P) (ty := type) ht q1 e
          exact fin1 (s := Builtin.cap_ argTypes type #[x']) (by rw [hx, harr]; rfl) ⟨v, fun w => (hc w).1, (hc w).2⟩
        · cases he
      · rename_i l e1
        cases e1
        simp only at he
        split at he
        · rename_i hi
          obtain ⟨e, rfl⟩ := keep_some he
          have hl2 := ints_eq hi hl
          have hm := fun w => minL_run (P := P) (β := β) e w argTypes type (args.map a.eval) (by simpa using hl2)
          exact fin1 (by rw [hx]; rfl) ⟨v, fun w => (hm w).1, (hm w).2⟩
        · cases he
      · rename_i l e1
        cases e1
        simp only at he
        split at he
        · rename_i hi
          obtain ⟨e, rfl⟩ := keep_some he
          have hl2 := ints_eq hi hl
          have hm := fun w => maxL_run (P := P) (β := β) e w argTypes type (args.map a.eval) (by simpa using hl2)
          exact fin1 (by rw [hx]; rfl) ⟨v, fun w => (hm w).1, (hm w).2⟩
        · cases he
      · cases hq
end
end Go.Proofs.YthbkjhacnnoolaaDoorZev
end
