/- Several texts in one: Zev15. No condition beyond those that each part names. -/
import Derived.Test.YtjldcblklbikaaaZevX4
/- The run that is reckoned is a run: small parts. No condition. -/
section
namespace Go.Proofs.YtjldcblklbikaaaZev
open Go.RowKit
set_option linter.unusedVariables false

section
variable {P : Program} {w0 w w1 : World} {K : Nat → Prop} {ro : Nat → Bool} {β : Env} {H : Heap}

theorem putT_lsr {T : List Value} {A : Array Value} (h : LsR β T A.toList) (d : Option Tmp) {v v' : Value} (hv : VR β v v') (a : Act) (ha : a.tmps = A) : LsR β (putT T d v) (a.put d v').tmps.toList := by
  subst ha
  cases d with
  | none => exact h
  | some d =>
    have := AsR.set (c := T.toArray) (c' := a.tmps) ⟨by have := h.1; simpa using this, by simpa using h.2⟩ d hv
    have := this.toList
    simpa [putT, Act.put] using this
theorem put_defers (a : Act) (d : Option Tmp) (v : Value) : (a.put d v).defers = a.defers := by cases d <;> rfl

theorem decE_cs (i : Option Tmp) (t : Bool) (st : St) : ∀ p ∈ st.cs, p ∈ (decE i t st).2.cs := by
  intro p hp
  unfold decE
  split <;> simp [hp]
theorem wantE_cs (arr : Array Oper) (o : Oper) (st : St) : ∀ p ∈ st.cs, p ∈ (wantE arr o st).2.cs := by
  intro p hp
  unfold wantE
  split
  · exact hp
  · split
    · exact decE_cs _ _ _ p hp
    · simp only
      split
      · exact List.mem_cons_of_mem _ hp
      · exact hp

theorem set_same_lsr {T : List Value} {A : List Value} (h : LsR β T A) (i : Nat) {v : Value} (hv : ∀ x', A[i]? = some x' → VR β v x') : LsR β (T.set i v) A := by
  refine ⟨by simp [h.1], fun k x x' a b => ?_⟩
  by_cases e : i = k
  · subst e
    have hi : i < T.length := by have := (List.getElem?_eq_some_iff.1 a).1; simpa using this
    rw [List.getElem?_set_self hi] at a; cases a
    exact hv _ b
  · rw [List.getElem?_set_ne e] at a; exact h.2 k x x' a b

theorem decE_run {st : St} {A : List Value} (h : LsR β st.T A) {i : Option Tmp} {t : Bool} (hi : ∀ d, i = some d → A[d]? = some (.bool t)) (hc : ∀ p ∈ (decE i t st).2.cs, p.1 = p.2) :
    (decE i t st).1 = t ∧ LsR β (decE i t st).2.T A ∧ (decE i t st).2.H = st.H := by
  unfold decE at hc ⊢
  split
  · rename_i d r e
    rw [e] at hc
    simp only at hc
    have htd : t = d := hc (t, d) (by simp)
    subst htd
    refine ⟨rfl, ?_, rfl⟩
    cases i with
    | none => exact h
    | some k => exact set_same_lsr h k fun x' hx => by rw [hi k rfl] at hx; cases hx; exact .bool _
  · exact ⟨rfl, h, rfl⟩
  · exact ⟨rfl, h, rfl⟩

theorem lsr_bool {T A : List Value} (h : LsR β T A) {d : Nat} {b : Bool} (hd : T[d]? = some (.bool b)) : A[d]? = some (.bool b) := by
  obtain ⟨x', a, k⟩ := h.at hd
  cases k; exact a

theorem yieldE_run {arr : Array Oper} {T : List Value} {a : Act} (h : LsR β T a.tmps.toList) (j : Nat) :
    (∀ d b, yieldE arr T j = some (d, b) → yielded arr a.tmps j = some b ∧ ∀ k, d = some k → a.tmps.toList[k]? = some (.bool b)) ∧ (yieldE arr T j = none → dimE arr T j = false → yielded arr a.tmps j = none) := by
  unfold yieldE yielded dimE
  cases hd : (arr[j]?).bind (·.dst) with
  | none => exact ⟨fun d b e => (by cases e), fun _ _ => rfl⟩
  | some d =>
    simp only [Option.bind_some]
    cases hT : T[d]? with
    | none =>
      have : a.tmps[d]? = none := by
        have h1 := h.1
        have h2 : T.length ≤ d := by simpa using hT
        simp; simp at h1; omega
      exact ⟨fun d b e => (by cases e), fun _ _ => by rw [this]⟩
    | some v =>
      obtain ⟨x', p, k⟩ := h.at hT
      rw [Array.getElem?_toList] at p
      rw [p]
      cases k <;> first
        | exact ⟨fun d b e => (by cases e; exact ⟨rfl, fun k hk => by cases hk; rw [Array.getElem?_toList]; exact p⟩), fun e => (by cases e)⟩
        | exact ⟨fun d b e => (by cases e), fun _ _ => rfl⟩
        | exact ⟨fun d b e => (by cases e), fun _ e => (by cases e)⟩

theorem wantE_run {arr : Array Oper} {o : Oper} {st : St} {a : Act} (h : LsR β st.T a.tmps.toList) (hc : ∀ p ∈ (wantE arr o st).2.cs, p.1 = p.2) :
    Region.wanted o (yielded arr a.tmps) = (wantE arr o st).1 ∧ LsR β (wantE arr o st).2.T a.tmps.toList ∧ (wantE arr o st).2.H = st.H := by
  unfold wantE Region.wanted at *
  cases hg : o.guard with
  | none => exact ⟨rfl, h, rfl⟩
  | some g =>
    obtain ⟨j, want⟩ := g
    rw [hg] at hc
    simp only at hc ⊢
    obtain ⟨y1, y2⟩ := yieldE_run (arr := arr) h j
    cases hy : yieldE arr st.T j with
    | none =>
      rw [hy] at hc
      simp only at hc ⊢
      by_cases hd : dimE arr st.T j = true
      · rw [if_pos hd] at hc
        exact absurd (hc (true, false) (by simp)) (by simp)
      · rw [if_neg hd, y2 hy (by simpa using hd)]
        exact ⟨rfl, h, rfl⟩
    | some q =>
      obtain ⟨d, b⟩ := q
      rw [hy] at hc
      simp only at hc ⊢
      obtain ⟨z1, z2⟩ := y1 d b hy
      obtain ⟨e1, e2, e3⟩ := decE_run h z2 hc
      refine ⟨?_, e2, e3⟩
      rw [z1, e1]
      cases b <;> cases want <;> rfl

/-! ### results -/
def resOf (A : Array Value) : ResultVar → Sem Value
  | .tmp t => pure (A.getD t undef)
  | .cell a t => do loadVar t (← asAddr (A.getD a undef))
theorem results_eq (fn : Func) (A : Array Value) : results fn A = (do
    let vs ← fn.results.mapM (resOf A)
    pure (if h : vs.size = 1 then vs[0] else .tuple vs)) := by
  unfold results
  congr 1
theorem resultE_run (h : M w0 K ro β H w) {T : List Value} {A : Array Value} (hT : LsR β T A.toList) {r : ResultVar} {v : Value} (he : resultE P H T r = some v) :
    ∃ v', (resOf A r).run P w = .ok v' w ∧ VR β v v' := by
  cases r with
  | tmp t => simp only [resultE, Option.some.injEq] at he; subst he; exact ⟨_, rfl, lsr_getD hT t⟩
  | cell a t =>
    simp only [resultE] at he
    obtain ⟨x', e1, e2⟩ := loadE_run (P := P) h (lsr_getD hT a) he
    have e1 := e1 w (fun _ _ _ _ => rfl)
    refine ⟨x', ?_, e2⟩
    have hv := lsr_getD hT a
    generalize T.getD a undef = u at he hv
    generalize hA : A.getD a undef = u' at e1 hv
    unfold loadE at he
    split at he
    · cases hv
      simp only [Instr.loadAt, Instr.sureAddr, Sem.run_bind, Sem.run_pure, Result.andThen_ok] at e1
      simp only [resOf, hA, Sem.run_bind, asAddr, Sem.run_pure, Result.andThen_ok]
      exact e1
    · cases he
theorem resultsE_run (h : M w0 K ro β H w) {T : List Value} {A : Array Value} (hT : LsR β T A.toList) : ∀ (rs : List ResultVar) (vs : List Value), resultsE P H T rs = some vs →
    ∃ vs', (rs.mapM (resOf A)).run P w = .ok vs' w ∧ LsR β vs vs' := by
  intro rs
  induction rs with
  | nil => intro vs he; cases he; exact ⟨[], by simp, LsR.nil β⟩
  | cons r rs ih =>
    intro vs he
    simp only [resultsE] at he
    split at he
    · rename_i v vs2 e1 e2
      cases he
      obtain ⟨v', q1, q2⟩ := resultE_run h hT e1
      obtain ⟨vs', q3, q4⟩ := ih vs2 e2
      refine ⟨v' :: vs', ?_, .cons q2 q4⟩
      rw [List.mapM_cons, Sem.run_bind, q1, Result.andThen_ok, Sem.run_bind, q3, Result.andThen_ok]
      rfl
    · cases he
theorem retE_run (h : M w0 K ro β H w) {T : List Value} {A : Array Value} (hT : LsR β T A.toList) {fn : Func} {v : Value} (he : retE P fn H T = some v) :
    ∃ v', (results fn A).run P w = .ok v' w ∧ VR β v v' := by
  unfold retE at he
  have key : ∀ vs, resultsE P H T fn.results.toList = some vs → ∃ vs', (results fn A).run P w = .ok (if h : vs'.toArray.size = 1 then vs'.toArray[0] else .tuple vs'.toArray) w ∧ LsR β vs vs' := by
    intro vs hv
    obtain ⟨vs', q1, q2⟩ := resultsE_run h hT _ _ hv
    refine ⟨vs', ?_, q2⟩
    rw [results_eq, Sem.run_bind, Array.mapM_eq_mapM_toList, Sem.run_map, q1]
    rfl
  split at he
  · rename_i v2 e
    cases he
    obtain ⟨vs', q1, q2⟩ := key _ e
    obtain ⟨v', rfl, q3⟩ := lsr1 q2
    exact ⟨v', by rw [q1]; rfl, q3⟩
  · rename_i vs hn e
    cases he
    obtain ⟨vs', q1, q2⟩ := key _ e
    refine ⟨.tuple vs'.toArray, ?_, .tuple (by have := q2.1; simpa using this) (by simpa using q2.2)⟩
    rw [q1]
    have : ¬ vs'.toArray.size = 1 := by
      intro hs
      have h1 : vs.length = 1 := by rw [q2.1]; simpa using hs
      obtain ⟨x, rfl⟩ := List.length_eq_one_iff.1 h1
      exact hn x rfl
    rw [dif_neg this]
  · cases he

/-! ### a call's target -/
def NoNum (P : Program) : Prop := ∀ (f : Nat) (fn : Func), P.funcs[f]? = some fn → (fn.name == "runtime.NumGoroutine") = false
theorem targetE_run (hP : NoNum P) {T : List Value} {a : Act} (hT : LsR β T a.tmps.toList) {o : Oper} {f : FuncId} {args : List Value} (he : targetE P T o = some (f, args)) :
    ∃ args' : Array Value, LsR β args args'.toList ∧ ∀ w, (execOp a.eval o).run P w = .ok (.enter f args') w := by
  unfold targetE at he
  split at he
  case h_2 => cases he
  rename_i fo as ts ho
  split at he
  case h_2 => cases he
  rename_i g first captured al e1 e2
  split at he
  case h_2 => cases he
  rename_i fn hf
  split at he
  case isFalse => cases he
  rename_i hb
  cases he
  have hv := opd_vr hT e1
  have hl := opds_vr hT _ _ e2
  generalize hfe : a.eval fo = fv at hv
  cases hv with
  | func h1 h2 h3 h4 =>
  rename_i first' captured'
  refine ⟨first' ++ as.map a.eval ++ captured', ?_, fun w => ?_⟩
  · have q1 := AsR.toList (β := β) (c := first) (c' := first') ⟨h1, h2⟩
    have q2 := AsR.toList (β := β) (c := captured) (c' := captured') ⟨h3, h4⟩
    simpa using (q1.append hl).append q2
  · unfold execOp
    simp only [ho, resolve, Sem.run_bind, hfe, Deferred.ofValue, Sem.run_pure, Result.andThen_ok, invoke, callFunc, run_program, hf]
    simp only [hP f fn hf, Bool.false_eq_true, if_false]
    have hb' : fn.body.isNone = false := by cases hbb : fn.body <;> simp_all
    simp [hb']

/-! ### the same state, but for the labels' names -/
theorem bytes_eq {a b : ByteArray} (h : a.data.toList = b.data.toList) : a = b := ByteArray.ext (Array.ext' h)
theorem zip_at {α : Type} {f : α → α → Bool} : ∀ {l m : List α}, l.length = m.length → (l.zip m).all (fun p => f p.1 p.2) = true → ∀ (i : Nat) (x : α), l[i]? = some x → ∃ y, m[i]? = some y ∧ f x y = true := by
  intro l
  induction l with
  | nil => intro m _ _ i x hx; simp at hx
  | cons a l ih =>
    intro m h k i x hx
    cases m with
    | nil => simp at h
    | cons b m =>
      simp only [List.zip_cons_cons, List.all_cons, Bool.and_eq_true] at k
      cases i with
      | zero => simp at hx; subst hx; exact ⟨b, rfl, k.1⟩
      | succ i => exact ih (by simpa using h) k.2 i x (by simpa using hx)
section
variable {f : Nat → Nat} {β2 β3 : Env}
theorem AR.like (hf : ∀ l, β3[l]? = β2[f l]?) {a b x : Addr} (h1 : f a.block = b.block) (h2 : a.off = b.off) (h3 : a.spot = b.spot) (h : AR β2 b x) : AR β3 a x := by
  unfold AR at h ⊢
  rw [hf, h1, h2, h3]; exact h
theorem SR.like (hf : ∀ l, β3[l]? = β2[f l]?) {a b x : Addr} {n k c : Nat} (h1 : f a.block = b.block) (h2 : a.off = b.off) (h3 : a.spot = b.spot) (h : SR β2 b x n k c) : SR β3 a x n k c := by
  unfold SR at h ⊢
  rw [hf, h1, h2, h3]; exact h
theorem likeV_vr (hf : ∀ l, β3[l]? = β2[f l]?) : ∀ (n : Nat) (v u x : Value), likeV f n v u = true → VR β2 u x → VR β3 v x := by
  intro n
  induction n with
  | zero => intro v u x h; cases h
  | succ n ih =>
    intro v u x h k
    have arr : ∀ {a b c : Array Value}, a.size = b.size → (a.toList.zip b.toList).all (fun p => likeV f n p.1 p.2) = true → b.size = c.size → (∀ (i : Nat) (x x' : Value), b[i]? = some x → c[i]? = some x' → VR β2 x x') →
        a.size = c.size ∧ ∀ (i : Nat) (x x' : Value), a[i]? = some x → c[i]? = some x' → VR β3 x x' := fun {a b c} h1 h2 h3 h4 => by
      refine ⟨h1.trans h3, fun i y y' p q => ?_⟩
      obtain ⟨z, hz, hl⟩ := zip_at (by simpa using h1) h2 i y (by simpa using p)
      exact ih _ _ _ hl (h4 i z y' (by simpa using hz) q)
    unfold likeV at h
    split at h
    · cases k; rw [eq_of_beq h]; exact .bool _
    · simp only [Bool.and_eq_true, decide_eq_true_eq, beq_iff_eq] at h; cases k; rw [h.1, h.2]; exact .int _ _
    · simp only [Bool.and_eq_true, beq_iff_eq] at h; cases k; rw [h.1, h.2]; exact .float _ _
    · cases k; rw [bytes_eq (eq_of_beq h)]; exact .string _
    · cases k; exact .nilp
    · simp only [Bool.and_eq_true, beq_iff_eq] at h
      cases k with
      | ptr k => exact .ptr (k.like hf h.1.1 h.1.2 h.2)
    · simp only [Bool.and_eq_true, beq_iff_eq] at h; cases k; rw [h.1, h.2]; exact .nils _ _
    · simp only [Bool.and_eq_true, beq_iff_eq] at h
      obtain ⟨⟨⟨⟨h1, h2⟩, h3⟩, h4⟩, h5⟩ := h
      cases k with
      | sl k => rw [h4, h5]; exact .sl (k.like hf h1 h2 h3)
    · cases k; exact .nilm
    · cases k with
      | map k => exact .map (by unfold LR at k ⊢; rw [hf, eq_of_beq h]; exact k)
    · cases k with
      | opq c k => rw [eq_of_beq h]; exact .opq _ k
    · simp only [Bool.and_eq_true, beq_iff_eq] at h
      obtain ⟨⟨⟨⟨h1, h2⟩, h3⟩, h4⟩, h5⟩ := h
      cases k with
      | func k1 k2 k3 k4 =>
        rw [h1]
        obtain ⟨a1, a2⟩ := arr h2 h4 k1 k2
        obtain ⟨a3, a4⟩ := arr h3 h5 k3 k4
        exact .func a1 a2 a3 a4
    · cases k; exact .nilf
    · simp only [Bool.and_eq_true, beq_iff_eq] at h
      cases k with
      | iface k => rw [h.1]; exact .iface (ih _ _ _ h.2 k)
    · cases k; exact .nili
    · simp only [Bool.and_eq_true, beq_iff_eq] at h
      cases k with
      | agg k1 k2 =>
        obtain ⟨a1, a2⟩ := arr h.1 h.2 k1 k2
        exact .agg a1 a2
    · simp only [Bool.and_eq_true, beq_iff_eq] at h
      cases k with
      | tuple k1 k2 =>
        obtain ⟨a1, a2⟩ := arr h.1 h.2 k1 k2
        exact .tuple a1 a2
    · cases h
theorem likeVs_lsr (hf : ∀ l, β3[l]? = β2[f l]?) {l m x : List Value} (h : likeVs f l m = true) (k : LsR β2 m x) : LsR β3 l x := by
  simp only [likeVs, Bool.and_eq_true, beq_iff_eq] at h
  refine ⟨h.1.trans k.1, fun i y y' p q => ?_⟩
  obtain ⟨z, hz, hl⟩ := zip_at h.1 h.2 i y p
  exact likeV_vr hf _ _ _ _ hl (k.2 i z y' hz q)
theorem likeO_or (hf : ∀ l, β3[l]? = β2[f l]?) {o : Obj} {b : Option Obj} (h : likeO f (some o) b = true) : ∃ u, b = some u ∧ ∀ (p : Spot) (x : Obj), OR β2 p u x → OR β3 p o x := by
  unfold likeO at h
  split at h
  · rename_i e; cases e
  · rename_i c t z d y e
    cases e
    simp only [Bool.and_eq_true, beq_iff_eq] at h
    refine ⟨_, rfl, fun p x k => ?_⟩
    cases k with
    | cells k hz =>
      obtain ⟨h1, h2⟩ := h
      have h1' := h1
      simp only [likeVs, Bool.and_eq_true, beq_iff_eq] at h1'
      refine .cells ⟨k.size, by have := k.le; have := h1'.1; simp at this; omega, fun i v hv => ?_, k.fz⟩ (fun e => hz (by rw [← h2]; exact e))
      obtain ⟨z, hz, hl⟩ := zip_at h1'.1 h1'.2 i v (by simpa using hv)
      obtain ⟨x', p1, p2⟩ := k.at_ i z (by simpa using hz)
      exact ⟨x', p1, likeV_vr hf _ _ _ _ hl p2⟩
  · rename_i es k fs j e
    cases e
    simp only [Bool.and_eq_true, beq_iff_eq] at h
    obtain ⟨⟨h1, h2⟩, h3⟩ := h
    refine ⟨_, rfl, fun p x k => ?_⟩
    cases k with
    | map k1 k2 =>
      rw [h2]
      refine .map (h1.trans k1) fun i a a' q1 q2 => ?_
      obtain ⟨z, hz, hl⟩ := zip_at (f := fun (p q : MapEntry) => p.born == q.born && likeV f 100 p.key q.key && likeV f 100 p.val q.val) (by simpa using h1) h3 i a (by simpa using q1)
      simp only [Bool.and_eq_true, beq_iff_eq] at hl
      obtain ⟨m1, m2, m3⟩ := k2 i z a' (by simpa using hz) q2
      exact ⟨m1.trans hl.1.1.symm, likeV_vr hf _ _ _ _ hl.1.2 m2, likeV_vr hf _ _ _ _ hl.2 m3⟩
  · rename_i e; cases e
    simp only [Bool.and_eq_true, beq_iff_eq] at h
    refine ⟨_, rfl, fun p x k => ?_⟩
    cases k with
    | mapIterN hs => rw [h.1.1, h.1.2, h.2]; exact .mapIterN hs
  · rename_i e; cases e
    simp only [Bool.and_eq_true, beq_iff_eq] at h
    obtain ⟨⟨⟨h1, h2⟩, h3⟩, h4⟩ := h
    refine ⟨_, rfl, fun p x k => ?_⟩
    cases k with
    | mapIter hs k => rw [h2, h3, h4]; exact .mapIter hs (by unfold LR at k ⊢; rw [hf, h1]; exact k)
  · rename_i e; cases e
    simp only [Bool.and_eq_true, beq_iff_eq] at h
    refine ⟨_, rfl, fun p x k => ?_⟩
    cases k with
    | stringIter _ _ hs => rw [bytes_eq h.1, h.2]; exact .stringIter _ _ hs
  · cases h
end

theorem likeL_run {n1 : Nat} {l k : List Nat} {s t : St} (h : likeL ro n1 l k s t = true) {β β2 : Env} (hM : M w0 K ro β2 t.H w) (hn : β.length ≤ n1) (he : Ext β β2) {A : List Value} (hT : LsR β2 t.T A) :
    ∃ β3, Ext β β3 ∧ M w0 K ro β3 s.H w ∧ LsR β3 s.T A := by
  simp only [likeL, Bool.and_eq_true, beq_iff_eq] at h
  obtain ⟨⟨⟨⟨⟨h1, h2⟩, h3⟩, h4⟩, h5⟩, h6⟩ := h
  have h7 : ∀ i, i < s.H.length → nameE l i < s.H.length ∧ nameE k (nameE l i) = i ∧ (n1 ≤ i ∨ nameE l i = i) ∧ (ro (nameE l i) = false ∨ ro i = true) ∧ likeO (nameE l) (s.H.getD i none) (t.H.getD (nameE l i) none) = true := by
    intro i hi
    have := List.all_eq_true.1 h6 i (List.mem_range.2 hi)
    simp only [Bool.and_eq_true, Bool.or_eq_true, decide_eq_true_eq, beq_iff_eq, Bool.not_eq_true'] at this
    exact ⟨this.1.1.1.1, this.1.1.1.2, this.1.1.2, this.1.2, this.2⟩
  have hout : ∀ i, s.H.length ≤ i → nameE l i = i := fun i hi => by
    unfold nameE; rw [List.getD_eq_getElem?_getD, List.getElem?_eq_none (by omega)]; rfl
  have hlen : β2.length = s.H.length := hM.len.trans h2.symm
  let β3 : Env := (List.range s.H.length).map fun i => (β2[nameE l i]?).getD none
  have hl3 : β3.length = s.H.length := by simp [β3]
  have hf : ∀ i, β3[i]? = β2[nameE l i]? := by
    intro i
    rcases Nat.lt_or_ge i s.H.length with hi | hi
    · have hlt : nameE l i < β2.length := by rw [hlen]; exact (h7 i hi).1
      simp only [β3, List.getElem?_map, List.getElem?_range hi, Option.map_some]
      rw [List.getElem?_eq_getElem hlt]; rfl
    · rw [hout i hi, List.getElem?_eq_none (by omega), List.getElem?_eq_none (by omega)]
  refine ⟨β3, fun i x hx => ?_, ⟨hl3, fun i o ho => ?_, fun i p hp => ?_, fun i j p q hp hq e => ?_, fun i p hp => ?_, hM.os, hM.tape, hM.output, hM.size, hM.block⟩, likeVs_lsr hf h1 hT⟩
  · have hi : i < n1 := Nat.lt_of_lt_of_le (List.getElem?_eq_some_iff.1 hx).1 hn
    have hi2 : i < s.H.length := by
      rcases he i x hx with h | h <;> (rw [← hlen]; exact (List.getElem?_eq_some_iff.1 h).1)
    rw [hf]
    rcases (h7 i hi2).2.2.1 with h | h
    · omega
    · rw [h]; exact he i x hx
  · have hi : i < s.H.length := (List.getElem?_eq_some_iff.1 ho).1
    have hk := (h7 i hi).2.2.2.2
    rw [List.getD_eq_getElem?_getD, ho] at hk
    obtain ⟨u, e1, e2⟩ := likeO_or hf hk
    have : t.H[nameE l i]? = some (some u) := by
      have hlt : nameE l i < t.H.length := by rw [← h2]; exact (h7 i hi).1
      rw [List.getD_eq_getElem?_getD, List.getElem?_eq_getElem hlt] at e1
      rw [List.getElem?_eq_getElem hlt]; exact congrArg some e1
    obtain ⟨p, o', a, b, c⟩ := hM.obj _ _ this
    exact ⟨p, o', by rw [hf]; exact a, b, e2 _ _ c⟩
  · rw [hf] at hp; exact hM.lt _ _ hp
  · have hi : i < s.H.length := by rw [← hl3]; exact (List.getElem?_eq_some_iff.1 hp).1
    have hj : j < s.H.length := by rw [← hl3]; exact (List.getElem?_eq_some_iff.1 hq).1
    rw [hf] at hp hq
    have := hM.inj _ _ _ _ hp hq e
    rw [← (h7 i hi).2.1, ← (h7 j hj).2.1, this]
  · have hi : i < s.H.length := by rw [← hl3]; exact (List.getElem?_eq_some_iff.1 hp).1
    rw [hf] at hp
    rcases hM.own _ _ hp with c | c
    · rcases (h7 i hi).2.2.2.1 with d | d
      · rw [d] at c; cases c
      · exact .inl d
    · exact .inr c
theorem likeSt_run {n1 : Nat} {s t : St} (h : likeSt ro n1 s t = true) : s.cs = t.cs ∧ ∀ {w : World} {β β2 : Env}, M w0 K ro β2 t.H w → β.length ≤ n1 → Ext β β2 → ∀ {A : List Value}, LsR β2 t.T A →
    ∃ β3, Ext β β3 ∧ M w0 K ro β3 s.H w ∧ LsR β3 s.T A := by
  simp only [likeSt, List.any_eq_true] at h
  obtain ⟨r, _, h⟩ := h
  refine ⟨?_, fun hM hn he _ hT => likeL_run h hM hn he hT⟩
  simp only [likeL, Bool.and_eq_true, beq_iff_eq] at h
  exact h.1.2
theorem allSame_eq {n1 : Nat} {l : List (Option (X × St))} {r : X} {s : St} (h : allSame ro n1 l = some (r, s)) : r = .normal ∧ (∃ q ∈ l, q = some (r, s)) ∧ ∀ q ∈ l, ∃ t, q = some (r, t) ∧ (t = s ∨ likeSt ro n1 s t = true) := by
  unfold allSame at h
  split at h
  · split at h
    · rename_i s0 rs hall
      cases h
      refine ⟨rfl, ⟨_, by simp, rfl⟩, fun q hq => ?_⟩
      rcases List.mem_cons.1 hq with e | e
      · exact ⟨_, e, .inl rfl⟩
      · have := List.all_eq_true.1 hall q e
        split at this
        · exact ⟨_, rfl, .inr this⟩
        · cases this
    · cases h
  · cases h

/-! ### regions that draw their order -/
/-- the blocks that a region may write -/
def Kd (β : Env) (ro : Nat → Bool) (k : Nat) : Prop := ∃ (l : Nat) (p : Spot), β[l]? = some (some p) ∧ p.b = k ∧ ro l = false
theorem roE_old {n : Nat} {dl : List Nat} {l : Nat} (h : ro l = true) : roE ro n dl l = true := by simp [roE, h]
theorem M.sub (h : M w0 K ro β H w) (r2 : Nat → Bool) : M w (Kd β r2) r2 β H w :=
  ⟨h.len, h.obj, h.lt, h.inj, fun l p hl => by
    cases hr : r2 l with
    | true => exact .inl rfl
    | false => exact .inr (.inl ⟨l, p, hl, rfl, hr⟩), rfl, rfl, rfl, Nat.le_refl _, fun _ _ _ => rfl⟩
theorem M.back {β' : Env} {H' : Heap} (h : M w0 K ro β H w) {dl : List Nat} (h' : M w (Kd β (roE ro H.length dl)) (roE ro H.length dl) β' H' w1) (e : Ext β β') : M w0 K ro β' H' w1 := by
  have hk : ∀ k, Kd β (roE ro H.length dl) k → K k ∨ w0.heap.size ≤ k := by
    rintro k ⟨l, p, a, rfl, b⟩
    rcases h.own l p a with c | c | c
    · rw [roE_old c] at b; cases b
    · exact .inl c
    · exact .inr c
  refine ⟨h'.len, h'.obj, h'.lt, h'.inj, fun l p hl => ?_, h'.os.trans h.os, h'.tape.trans h.tape, h'.output.trans h.output, Nat.le_trans h.size h'.size, fun k hk1 hk2 => ?_⟩
  · rcases h'.own l p hl with c | c | c
    · by_cases hlt : l < H.length
      · have hb : β[l]? = some (β[l]'(by rw [h.len]; exact hlt)) := List.getElem?_eq_getElem _
        rcases e l _ hb with d | d
        · rw [hl] at d; have d2 := Option.some.inj d; exact h.own l p (by rw [hb, ← d2])
        · rw [hl] at d; cases d
      · left
        simpa [roE, hlt] using c
    · exact .inr (hk _ c)
    · exact .inr (.inr (Nat.le_trans h.size c))
  · have hn : ¬ Kd β (roE ro H.length dl) k := fun c => by
      rcases hk k c with d | d
      · exact hk2 d
      · omega
    rw [h'.block k (Nat.lt_of_lt_of_le hk1 h.size) hn]
    exact h.block k hk1 hk2
/-- what stood at the beginning, and is not written, is as it was -/
def SameOld (w0 : World) (K : Nat → Prop) (w : World) : Prop := ∀ k, k < w0.heap.size → ¬ K k → w.heap[k]? = w0.heap[k]?
structure Base (β : Env) (w0 : World) (K : Nat → Prop) (n0 : Nat) (ro : Nat → Bool) : Prop where
  len : n0 ≤ β.length
  old : ∀ (l : Nat) (p : Spot), l < n0 → ro l = true → β[l]? = some (some p) → p.b < w0.heap.size ∧ ¬ K p.b
theorem Base.ext {β β' : Env} {n0 : Nat} (h : Base β w0 K n0 ro) (e : Ext β β') (hl : β.length ≤ β'.length) : Base β' w0 K n0 ro := by
  refine ⟨Nat.le_trans h.len hl, fun l p h1 h2 h3 => h.old l p h1 h2 ?_⟩
  have hb : β[l]? = some (β[l]'(by have := h.len; omega)) := List.getElem?_eq_getElem _
  rcases e l _ hb with h4 | h4
  · rw [h3] at h4; rw [hb, ← h4]
  · rw [h3] at h4; cases h4
theorem Ext.len {β β' : Env} (e : Ext β β') : β.length ≤ β'.length := by
  rcases Nat.lt_or_ge β'.length β.length with h | h
  · have hb : β[β'.length]? = some (β[β'.length]'h) := List.getElem?_eq_getElem _
    rcases e _ _ hb with h1 | h1 <;> (rw [List.getElem?_eq_none (Nat.le_refl _)] at h1; cases h1)
  · exact h
theorem M.base (h : M w0 K ro β H w) (r2 : Nat → Bool) : Base β w (Kd β r2) H.length r2 :=
  ⟨by rw [h.len]; exact Nat.le_refl _, fun l p _ hr hl => ⟨h.lt l p hl, fun ⟨l2, p2, a, b, c⟩ => by
    have := h.inj l2 l p2 p a hl b
    subst this
    rw [hr] at c; cases c⟩⟩
theorem freeE_spec {arr : Array Oper} {i : Nat} (h : (freeE arr).contains i = true) {listed : Array Bool} (hr : (Region.ready .any arr listed).contains i = true) : Region.free .any arr listed i = true := by
  have hm : i ∈ freeE arr := by simpa using h
  have h2 := (List.mem_filter.1 hm).2
  have hr2 := mem_ready.1 (show i ∈ Region.ready .any arr listed by simpa using hr)
  obtain ⟨_, oi, ho, hall⟩ := hr2
  unfold Region.free
  rw [ho] at h2 ⊢
  simp only at h2 ⊢
  rw [List.all_eq_true] at h2 ⊢
  intro j hj
  have := h2 j hj
  simp only [Bool.or_eq_true] at this ⊢
  rcases this with (a | a) | a
  · exact .inl (.inl a)
  · left; right
    rw [← Array.any_toList] at a
    obtain ⟨e, he, hb⟩ := List.any_eq_true.1 a
    simp only [Bool.and_eq_true, beq_iff_eq] at hb
    have hl := hall e (by simpa using he) hb.1
    rw [hb.2] at hl
    rcases Nat.lt_or_ge j listed.size with h3 | h3
    · simp [h3] at hl ⊢; exact hl
    · simp [Array.getElem?_eq_none h3] at hl ⊢
  · exact .inr a
theorem M.same (h : M w0 K ro β H w) : SameOld w0 K w := h.block

theorem eqE_bool {t : TypeId} {a b : Bool} {r : Bool} (he : eqE P H t (.bool a) (.bool b) = some r) (w : World) : (Op.equal t (.bool a) (.bool b)).run P w = .ok r w := by
  unfold eqE at he
  split at he <;> first
    | (rename_i e1 e2; first | (cases e1; done) | (cases e2; done))
    | skip
  · split at he
    · exact (Q.equal t rfl rfl).run he w
    · cases he
  · cases he
theorem eqE_agg {t : TypeId} {a b : Array Value} (ha : a.all bare = true) (hb : b.all bare = true) {r : Bool} (he : eqE P H t (.agg a) (.agg b) = some r) (w : World) : (Op.equal t (.agg a) (.agg b)).run P w = .ok r w := by
  unfold eqE at he
  split at he <;> first
    | (rename_i e1 e2; first | (cases e1; done) | (cases e2; done))
    | skip
  · split at he
    · exact (Q.equal t (x := .agg a) (y := .agg b) ha hb).run he w
    · cases he
  · cases he
theorem lenE_free {t ty : TypeId} {ts : Array TypeId} {x x' v : Value} (ht : ts[0]? = some t) (hx : VR β x x') (hn : ∀ l, x ≠ .map (some l)) (he : lenE P H t x = some v) :
    ∀ w, (Builtin.len_ ts ty #[x']).run P w = .ok v w := by
  unfold lenE at he
  split at he
  · rename_i hu; cases he; cases hx; exact fun w => by simp [Builtin.len_, ht, run_underlying hu]
  · rename_i hu; cases he; exact fun w => by simp [Builtin.len_, ht, run_underlying hu]
  · rename_i hu
    split at he
    · rename_i hu2; cases he; exact fun w => by simp [Builtin.len_, ht, run_underlying hu, run_underlying hu2]
    · cases he
  · rename_i hu; cases he; cases hx <;> exact fun w => by simp [Builtin.len_, ht, run_underlying hu]
  · rename_i hu; cases he; cases hx; exact fun w => by simp [Builtin.len_, ht, run_underlying hu]
  · exact (hn _ rfl).elim
  · cases he

set_option maxHeartbeats 1000000 in
theorem quiet_run (h : M w0 K ro β H w) {n0 : Nat} (hb : Base β w0 K n0 ro) {T : List Value} {a : Act} (hT : LsR β T a.tmps.toList) {o : Oper} (hq : quietE ro n0 T o = true) {v : Value} {H' : Heap} (he : opE P ro T H o = some (v, H')) :
    H' = H ∧ ∃ v', VR β v v' ∧ ∀ w2, SameOld w0 K w2 → (execOp a.eval o).run P w2 = .ok (.value v') w2 := by
  have fin1 : ∀ {s : Sem Value} {v : Value}, execOp a.eval o = (do pure (.value (← s))) → (∃ v', (∀ w, s.run P w = .ok v' w) ∧ VR β v v') → H = H ∧ ∃ v', VR β v v' ∧ ∀ w2, SameOld w0 K w2 → (execOp a.eval o).run P w2 = .ok (.value v') w2 := by
    intro s v e ⟨v', h1, h2⟩
    exact ⟨rfl, v', h2, fun w2 _ => by rw [e]; simp [h1]⟩
  obtain ⟨dst, op, type, pos, after, guard⟩ := o
  unfold opE at he
  unfold quietE at hq
  cases op <;> simp only at he hq <;> try (cases hq; done)
  case move x =>
    obtain ⟨e, rfl⟩ := keep_some he
    exact ⟨rfl, _, opd_vr hT e, fun w2 _ => rfl⟩
  case assign x =>
    obtain ⟨e, rfl⟩ := keep_some he
    exact ⟨rfl, _, opd_vr hT e, fun w2 _ => rfl⟩
  case pick c x y =>
    split at he
    · rename_i c1 x1 y1 e1 e2 e3
      obtain ⟨e, rfl⟩ := keep_some he
      obtain ⟨v', q1, q2⟩ := pickE_run (P := P) (opd_vr hT e1) (opd_vr hT e2) (opd_vr hT e3) e
      exact ⟨rfl, v', q2, fun w2 _ => q1 w2⟩
    · cases he
  case build t ps =>
    split at he
    · rename_i c e1
      obtain ⟨e, rfl⟩ := keep_some he
      exact fin1 rfl (buildE_run (by simpa using partsE_vr hT _ _ e1) e)
    · cases he
  case load t x =>
    split at he
    · rename_i c e1
      obtain ⟨e, rfl⟩ := keep_some he
      rw [e1] at hq
      try simp only at hq
      obtain ⟨x', l1, l2⟩ := loadE_run (P := P) h (opd_vr hT e1) e
      refine ⟨rfl, x', l2, fun w2 hw2 => ?_⟩
      have : (Instr.loadAt t (a.eval x)).run P w2 = .ok x' w2 := by
        refine l1 w2 fun ad p hc hp => ?_
        subst hc
        unfold oldPtr at hq
        split at hq
        · rename_i l o hh
          cases hh
          simp only [Bool.and_eq_true, decide_eq_true_eq] at hq
          obtain ⟨b1, b2⟩ := hb.old l p hq.1 hq.2 hp
          rw [hw2 _ b1 b2, h.block _ b1 b2]
        · cases hq
      show (do pure (.value (← Instr.loadAt t (a.eval x))) : Sem Next).run P w2 = _
      simp [this]
    · cases he
  case nilCheck x =>
    split at he
    · rename_i c e1
      obtain ⟨e, rfl⟩ := keep_some he
      have hn := nilE_run (P := P) (opd_vr hT e1) e (ρ := a.eval) (o := ⟨dst, .nilCheck x, type, pos, after, guard⟩) rfl rfl
      exact ⟨rfl, _, (hn w).2, fun w2 _ => (hn w2).1⟩
    · cases he
  case binOp op t x y yt =>
    split at he
    · rename_i c d e1 e2
      split at he
      · rename_i hg
        obtain ⟨e, rfl⟩ := keep_some he
        have hgd := guardE_run (P := P) (op := op) (t := t) (opd_vr hT e1) (opd_vr hT e2) hg
        rw [e1, e2] at hq
        try simp only at hq
        have hv := (binE_run h (opd_vr hT e1) (opd_vr hT e2) e).2
        refine fin1 (s := do eqGuard op t x y (a.eval x) (a.eval y); binOp op t (a.eval x) (a.eval y)) rfl ⟨v, fun w2 => ?_, hv⟩
        rw [Sem.run_bind, hgd w2, Result.andThen_ok]
        have v1 := opd_vr hT e1
        have v2 := opd_vr hT e2
        generalize a.eval x = ax at v1
        generalize a.eval y = ay at v2
        split at hq
        · rename_i q1 q2; cases q1; cases q2; cases v1; cases v2
          exact (Q.binInt _ _ _ _ _ _).run e w2
        · rename_i q1 q2; cases q1; cases q2; cases v1; cases v2
          exact (Q.binStr _ _ _ _).run e w2
        · rename_i q1 q2; cases q1; cases q2; cases v1; cases v2
          unfold binE at e
          simp only at e
          split at e
          · cases hqq : eqE P H' t (.bool _) (.bool _) with
            | none => rw [hqq] at e; cases e
            | some b => rw [hqq] at e; cases e; show (do pure (.bool (← Op.equal t _ _)) : Sem Value).run P w2 = _; simp [eqE_bool hqq w2]
          · cases hqq : eqE P H' t (.bool _) (.bool _) with
            | none => rw [hqq] at e; cases e
            | some b => rw [hqq] at e; cases e; show (do pure (.bool (!(← Op.equal t _ _))) : Sem Value).run P w2 = _; simp [eqE_bool hqq w2]
          · cases e
        · rename_i A B q1 q2; cases q1; cases q2
          simp only [Bool.and_eq_true] at hq
          have f1 := flat_eq (v := .agg A) hq.1 v1
          have f2 := flat_eq (v := .agg B) hq.2 v2
          subst f1; subst f2
          unfold binE at e
          simp only at e
          split at e
          · cases hqq : eqE P H' t (.agg A) (.agg B) with
            | none => rw [hqq] at e; cases e
            | some b => rw [hqq] at e; cases e; show (do pure (.bool (← Op.equal t _ _)) : Sem Value).run P w2 = _; simp [eqE_agg hq.1 hq.2 hqq w2]
          · cases hqq : eqE P H' t (.agg A) (.agg B) with
            | none => rw [hqq] at e; cases e
            | some b => rw [hqq] at e; cases e; show (do pure (.bool (!(← Op.equal t _ _))) : Sem Value).run P w2 = _; simp [eqE_agg hq.1 hq.2 hqq w2]
          · cases e
        · cases hq
      · cases he
    · cases he
  case unOp op t x =>
    split at he
    · rename_i c e1
      obtain ⟨e, rfl⟩ := keep_some he
      have hu := unE_run (P := P) (opd_vr hT e1) e
      exact fin1 rfl ⟨_, fun w => (hu w).1, (hu w).2⟩
    · cases he
  case convert s d x =>
    split at he
    · rename_i c e1
      rw [e1] at hq
      try simp only at hq
      split at hq
      · rename_i k n q
        cases q
        have v1 := opd_vr hT e1
        unfold convE at he
        split at he
        · rename_i d0 k0 n0 q1 q2 q3
          cases he
          cases q3
          refine fin1 (s := convert s d (a.eval x)) rfl ⟨_, fun w => ?_, .int _ _⟩
          generalize a.eval x = ax at v1
          cases v1
          simp only [convert, Sem.run_bind, run_underlying q1, run_underlying q2, Result.andThen_ok]
          cases d0 <;> rfl
        all_goals first
          | (rename_i q; cases q; done)
          | (cases he; done)
          | (rename_i q3; cases q3)
      · cases hq
    · cases he
  case sliceToArrayPointer t x =>
    split at he
    · rename_i c e1
      obtain ⟨e, rfl⟩ := keep_some he
      exact fin1 rfl (arrayAtE_run (opd_vr hT e1) e)
    · cases he
  case makeInterface t x =>
    split at he
    · rename_i c e1
      obtain ⟨e, rfl⟩ := keep_some he
      exact fin1 rfl (ifaceE_run (opd_vr hT e1) e)
    · cases he
  case slice t x lo hi mx =>
    split at he
    · rename_i x1 l1 h1 m1 e1 e2 e3 e4
      obtain ⟨e, rfl⟩ := keep_some he
      exact fin1 rfl (sliceE_run h (opd_vr hT e1) (oopd_vr hT e2) (oopd_vr hT e3) (oopd_vr hT e4) e)
    · cases he
  case fieldAddr t x f =>
    split at he
    · rename_i c e1
      obtain ⟨e, rfl⟩ := keep_some he
      exact fin1 rfl (fieldAtE_run (opd_vr hT e1) e)
    · cases he
  case field t x f =>
    split at he
    · rename_i c e1
      obtain ⟨e, rfl⟩ := keep_some he
      exact fin1 rfl (fieldE_run (opd_vr hT e1) e)
    · cases he
  case indexAddr t x i =>
    split at he
    · rename_i c d e1 e2
      obtain ⟨e, rfl⟩ := keep_some he
      exact fin1 rfl (indexAtE_run (opd_vr hT e1) (opd_vr hT e2) e)
    · cases he
  case index t x i =>
    split at he
    · rename_i c d e1 e2
      obtain ⟨e, rfl⟩ := keep_some he
      exact fin1 rfl (indexE_run (opd_vr hT e1) (opd_vr hT e2) e)
    · cases he
  case extract x i =>
    split at he
    · rename_i c e1
      obtain ⟨e, rfl⟩ := keep_some he
      exact fin1 rfl (extractE_run (opd_vr hT e1) e)
    · cases he
  case call c =>
    obtain ⟨callee, args, argTypes⟩ := c
    cases callee <;> simp only at he hq <;> try (cases he; done)
    rename_i b
    have hx : execOp a.eval ⟨dst, .call ⟨.builtin b, args, argTypes⟩, type, pos, after, guard⟩ = builtin b argTypes type (args.map fun | .const _ => true | _ => false) (args.map a.eval) := rfl
    cases hop : opds T args.toList with
    | none => rw [hop] at hq; cases b <;> cases hq
    | some vs =>
      rw [hop] at he hq
      have hl := opds_vr hT _ _ hop
      have harr : args.map a.eval = (args.toList.map a.eval).toArray := by apply Array.ext'; simp
      have hlen : ∀ {x x' : Value}, VR β x x' → (∀ l, x ≠ .map (some l)) → args.map a.eval = #[x'] → b = .len → (match argTypes[0]? with | some t => keep H (lenE P H t x) | none => none) = some (v, H') → H' = H ∧ ∃ v', VR β v v' ∧ ∀ w2, SameOld w0 K w2 → (execOp a.eval ⟨dst, .call ⟨.builtin b, args, argTypes⟩, type, pos, after, guard⟩).run P w2 = .ok (.value v') w2 := by
        intro x x' q1 hn ha hbl hk
        subst hbl
        clear he hq
        split at hk
        · rename_i t ht
          obtain ⟨e, rfl⟩ := keep_some hk
          have hv := (lenE_run (P := P) (ty := type) h ht q1 e).2
          exact fin1 (s := Builtin.len_ argTypes type #[x']) (by rw [hx, ha]; rfl) ⟨v, lenE_free ht q1 hn e, hv⟩
        · cases hk
      split at hq
      · rename_i p n c e1
        cases e1
        obtain ⟨x', e2, q1⟩ := lsr1 hl
        rw [e2] at harr
        exact hlen q1 (fun l e => by cases e) harr rfl he
      · rename_i s e1
        cases e1
        obtain ⟨x', e2, q1⟩ := lsr1 hl
        rw [e2] at harr
        exact hlen q1 (fun l e => by cases e) harr rfl he
      · rename_i x e1
        cases e1
        obtain ⟨x', e2, q1⟩ := lsr1 hl
        rw [e2] at harr
        simp only at he
        split at he
        · rename_i t ht
          obtain ⟨e, rfl⟩ := keep_some he
          have hc := capE_run (P := P) (ty := type) ht q1 e
          exact fin1 (s := Builtin.cap_ argTypes type #[x']) (by rw [hx, harr]; rfl) ⟨v, fun w => (hc w).1, (hc w).2⟩
        · cases he
      · rename_i l e1
        cases e1
        simp only at he
        split at he
        · rename_i hi
          obtain ⟨e, rfl⟩ := keep_some he
          have hl2 := ints_eq hi hl
          have hm := fun w => minL_run (P := P) (β := β) e w argTypes type (args.map a.eval) (by simpa using hl2)
          exact fin1 (by rw [hx]; rfl) ⟨v, fun w => (hm w).1, (hm w).2⟩
        · cases he
      · rename_i l e1
        cases e1
        simp only at he
        split at he
        · rename_i hi
          obtain ⟨e, rfl⟩ := keep_some he
          have hl2 := ints_eq hi hl
          have hm := fun w => maxL_run (P := P) (β := β) e w argTypes type (args.map a.eval) (by simpa using hl2)
          exact fin1 (by rw [hx]; rfl) ⟨v, fun w => (hm w).1, (hm w).2⟩
        · cases he
      · cases hq
end
end Go.Proofs.YtjldcblklbikaaaZev
end
