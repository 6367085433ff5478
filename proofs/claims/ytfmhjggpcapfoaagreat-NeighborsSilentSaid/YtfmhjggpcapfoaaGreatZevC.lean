/- Calls that were reckoned ahead, in a heap of those labels alone that they reach. No condition. -/
import Derived.Test.YtfmhjggpcapfoaaGreatZev17
namespace Go.Proofs.YtfmhjggpcapfoaaGreatZev
open Go.RowKit
set_option linter.unusedVariables false
set_option linter.unusedSectionVars false
variable [Sym] [Kin] [Glob]

/-! ### labels by other names -/
section
variable {f : Nat → Nat} {β2 β3 : Env}
/-- what is told of a label is told of its other name -/
def NamedBy (f : Nat → Nat) (β2 β3 : Env) : Prop := ∀ l y, β2[f l]? = some y → β3[l]? = some y
theorem AR.named (hf : NamedBy f β2 β3) {a b x : Addr} (h1 : f a.block = b.block) (h2 : a.off = b.off) (h3 : a.spot = b.spot) (h : AR β2 b x) : AR β3 a x := by
  unfold AR at h ⊢
  rw [h2, h3]
  refine ⟨h.1, ?_⟩
  rcases h.2 with ⟨p, q1, q2⟩ | q
  · exact .inl ⟨p, hf _ _ (by rw [h1]; exact q1), q2⟩
  · exact .inr (hf _ _ (by rw [h1]; exact q))
theorem SR.named (hf : NamedBy f β2 β3) {a b x : Addr} {n k c : Nat} (h1 : f a.block = b.block) (h2 : a.off = b.off) (h3 : a.spot = b.spot) (h : SR β2 b x n k c) : SR β3 a x n k c := by
  unfold SR at h ⊢
  rw [h2, h3]
  refine ⟨h.1, h.2.1, h.2.2.1, ?_⟩
  rcases h.2.2.2 with ⟨p, q1, q2⟩ | q
  · exact .inl ⟨p, hf _ _ (by rw [h1]; exact q1), q2⟩
  · exact .inr (hf _ _ (by rw [h1]; exact q))
theorem LR.named (hf : NamedBy f β2 β3) {a b x : Nat} (h1 : f a = b) (h : LR β2 b x) : LR β3 a x := by
  unfold LR at h ⊢
  rcases h with ⟨p, q1, q2⟩ | q
  · exact .inl ⟨p, hf _ _ (by rw [h1]; exact q1), q2⟩
  · exact .inr (hf _ _ (by rw [h1]; exact q))
theorem likeV_named (hf : NamedBy f β2 β3) : ∀ (n : Nat) (v u x : Value), likeV f n v u = true → VR β2 u x → VR β3 v x := by
  intro n
  induction n with
  | zero => intro v u x h; cases h
  | succ n ih =>
    intro v u x h k
    have arr : ∀ {a b c : Array Value}, a.size = b.size → (a.toList.zip b.toList).all (fun p => likeV f n p.1 p.2) = true → b.size = c.size → (∀ (i : Nat) (x x' : Value), b[i]? = some x → c[i]? = some x' → VR β2 x x') →
        a.size = c.size ∧ ∀ (i : Nat) (x x' : Value), a[i]? = some x → c[i]? = some x' → VR β3 x x' := fun {a b c} h1 h2 h3 h4 => by
      refine ⟨h1.trans h3, fun i y y' p q => ?_⟩
      obtain ⟨z, hz, hl⟩ := zip_at (by simpa using h1) h2 i y (by simpa using p)
      exact ih _ _ _ hl (h4 i z y' (by simpa using hz) q)
    unfold likeV at h
    split at h
    · cases k; rw [eq_of_beq h]; exact .bool _
    · simp only [Bool.and_eq_true, decide_eq_true_eq, beq_iff_eq] at h; cases k; rw [h.1, h.2]; exact .int _ _
    · simp only [Bool.and_eq_true, beq_iff_eq] at h; cases k; rw [h.1, h.2]; exact .float _ _
    · cases k; rw [bytes_eq (eq_of_beq h)]; exact .string _
    · cases k; exact .nilp
    · simp only [Bool.and_eq_true, beq_iff_eq] at h
      cases k with
      | ptr k => exact .ptr (k.named hf h.1.1 h.1.2 h.2)
    · simp only [Bool.and_eq_true, beq_iff_eq] at h; cases k; rw [h.1, h.2]; exact .nils _ _
    · simp only [Bool.and_eq_true, beq_iff_eq] at h
      obtain ⟨⟨⟨⟨h1, h2⟩, h3⟩, h4⟩, h5⟩ := h
      cases k with
      | sl k => rw [h4, h5]; exact .sl (k.named hf h1 h2 h3)
    · cases k; exact .nilm
    · cases k with
      | map k => exact .map (k.named hf (eq_of_beq h))
    · cases k with
      | opq k => rw [eq_of_beq h]; exact .opq k
      | sym i e k hk => rw [eq_of_beq h]; exact .sym i e k hk
    · simp only [Bool.and_eq_true, beq_iff_eq] at h
      cases k with
      | row k r =>
        obtain ⟨a, n, c, r1, r2, r3, r4, r5⟩ := r
        refine .row _ ⟨a, n, c, r1, r2, by rw [h.1]; exact r3, by rw [h.1]; exact r4, ?_⟩
        rcases r5 with ⟨p, q1, q2⟩ | q
        · exact .inl ⟨p, hf _ _ (by rw [h.2]; exact q1), q2⟩
        · exact .inr (hf _ _ (by rw [h.2]; exact q))
    · simp only [Bool.and_eq_true, beq_iff_eq] at h
      obtain ⟨⟨⟨⟨h1, h2⟩, h3⟩, h4⟩, h5⟩ := h
      have z1 := Array.eq_empty_of_size_eq_zero h2
      have z2 := Array.eq_empty_of_size_eq_zero h4
      subst z1; subst z2
      cases k with
      | yld k => exact .yld (k.named hf h1)
      | func k0 k1 k2 k3 k4 => cases k0
    · simp only [Bool.and_eq_true, beq_iff_eq] at h
      obtain ⟨⟨⟨⟨⟨h0, h1⟩, h2⟩, h3⟩, h4⟩, h5⟩ := h
      cases k with
      | yld k => rw [h1] at h0; cases h0
      | func k0 k1 k2 k3 k4 =>
        rw [h1]
        obtain ⟨a1, a2⟩ := arr h2 h4 k1 k2
        obtain ⟨a3, a4⟩ := arr h3 h5 k3 k4
        exact .func k0 a1 a2 a3 a4
    · cases k; exact .nilf
    · simp only [Bool.and_eq_true, beq_iff_eq] at h
      cases k with
      | iface k => rw [h.1]; exact .iface (ih _ _ _ h.2 k)
    · cases k; exact .nili
    · simp only [Bool.and_eq_true, beq_iff_eq] at h
      cases k with
      | agg k1 k2 =>
        obtain ⟨a1, a2⟩ := arr h.1 h.2 k1 k2
        exact .agg a1 a2
    · simp only [Bool.and_eq_true, beq_iff_eq] at h
      cases k with
      | tuple k1 k2 =>
        obtain ⟨a1, a2⟩ := arr h.1 h.2 k1 k2
        exact .tuple a1 a2
    · cases h
theorem likeVs_named (hf : NamedBy f β2 β3) {l m x : List Value} (h : likeVs f l m = true) (k : LsR β2 m x) : LsR β3 l x := by
  simp only [likeVs, Bool.and_eq_true, beq_iff_eq] at h
  refine ⟨h.1.trans k.1, fun i y y' p q => ?_⟩
  obtain ⟨z, hz, hl⟩ := zip_at h.1 h.2 i y p
  exact likeV_named hf _ _ _ _ hl (k.2 i z y' hz q)
theorem likeO_named (hf : NamedBy f β2 β3) {o : Obj} {b : Option Obj} (h : likeO f (some o) b = true) : ∃ u, b = some u ∧ ∀ (p : Spot) (x : Obj), OR β2 p u x → OR β3 p o x := by
  unfold likeO at h
  split at h
  · rename_i e; cases e
  · rename_i c t z d y e
    cases e
    simp only [Bool.and_eq_true, beq_iff_eq] at h
    refine ⟨_, rfl, fun p x k => ?_⟩
    cases k with
    | cells k hz =>
      obtain ⟨h1, h2⟩ := h
      have h1' := h1
      simp only [likeVs, Bool.and_eq_true, beq_iff_eq] at h1'
      refine .cells ⟨k.size, by have := k.le; have := h1'.1; simp at this; omega, fun i v hv => ?_, k.fz⟩ (fun e => hz (by rw [← h2]; exact e))
      obtain ⟨z, hz, hl⟩ := zip_at h1'.1 h1'.2 i v (by simpa using hv)
      obtain ⟨x', p1, p2⟩ := k.at_ i z (by simpa using hz)
      exact ⟨x', p1, likeV_named hf _ _ _ _ hl p2⟩
  · rename_i es k fs j e
    cases e
    simp only [Bool.and_eq_true, beq_iff_eq] at h
    obtain ⟨⟨h1, h2⟩, h3⟩ := h
    refine ⟨_, rfl, fun p x k => ?_⟩
    cases k with
    | map k1 k2 =>
      rw [h2]
      refine .map (h1.trans k1) fun i a a' q1 q2 => ?_
      obtain ⟨z, hz, hl⟩ := zip_at (f := fun (p q : MapEntry) => p.born == q.born && likeV f 100 p.key q.key && likeV f 100 p.val q.val) (by simpa using h1) h3 i a (by simpa using q1)
      simp only [Bool.and_eq_true, beq_iff_eq] at hl
      obtain ⟨m1, m2, m3⟩ := k2 i z a' (by simpa using hz) q2
      exact ⟨m1.trans hl.1.1.symm, likeV_named hf _ _ _ _ hl.1.2 m2, likeV_named hf _ _ _ _ hl.2 m3⟩
  · rename_i e; cases e
    simp only [Bool.and_eq_true, beq_iff_eq] at h
    refine ⟨_, rfl, fun p x k => ?_⟩
    cases k with
    | mapIterN hs => rw [h.1.1, h.1.2, h.2]; exact .mapIterN hs
  · rename_i e; cases e
    simp only [Bool.and_eq_true, beq_iff_eq] at h
    obtain ⟨⟨⟨h1, h2⟩, h3⟩, h4⟩ := h
    refine ⟨_, rfl, fun p x k => ?_⟩
    cases k with
    | mapIter hs k => rw [h2, h3, h4]; exact .mapIter hs (k.named hf h1)
  · rename_i e; cases e
    simp only [Bool.and_eq_true, beq_iff_eq] at h
    refine ⟨_, rfl, fun p x k => ?_⟩
    cases k with
    | stringIter _ _ hs => rw [bytes_eq h.1, h.2]; exact .stringIter _ _ hs
  · rename_i e; cases e
    refine ⟨_, rfl, fun p x k => ?_⟩
    cases k with
    | row hs k => rw [eq_of_beq h]; exact .row hs k
  · cases h
end

/-! ### what a call reaches -/
def labsV : Nat → Value → List Nat
  | 0, _ => []
  | n + 1, v =>
    match v with
    | .pointer (some a) => [a.block]
    | .slice (some a) _ _ => [a.block]
    | .map (some l) => [l]
    | .complex _ _ l => [l]
    | .func (.yield l) _ _ => [l]
    | .func _ a c => a.toList.flatMap (labsV n) ++ c.toList.flatMap (labsV n)
    | .iface _ x => labsV n x
    | .agg c => c.toList.flatMap (labsV n)
    | .tuple c => c.toList.flatMap (labsV n)
    | _ => []
def labsO : Option Obj → List Nat
  | some (.cells c _ _) => c.toList.flatMap (labsV 100)
  | some (.map es _) => es.toList.flatMap fun e => labsV 100 e.key ++ labsV 100 e.val
  | some (.mapIter (some l) _ _ _) => [l]
  | some (.loop r) => r.tmps.toList.flatMap (labsV 100)
  | _ => []
/-- the labels that are reached, in the order in which they are met -/
def reachE (H : Heap) : Nat → List Nat → List Nat → List Nat
  | 0, _, s => s.reverse
  | _ + 1, [], s => s.reverse
  | n + 1, l :: t, s => if s.contains l then reachE H n t s else reachE H n (labsO (H.getD l none) ++ t) (l :: s)
def reached (NG : Nat) (args : List Value) (H : Heap) : List Nat := reachE H 100000 (List.range NG ++ args.flatMap (labsV 100)) []

def mapV (f : Nat → Nat) : Nat → Value → Value
  | 0, v => v
  | n + 1, v =>
    match v with
    | .pointer (some a) => .pointer (some { a with block := f a.block })
    | .slice (some a) x y => .slice (some { a with block := f a.block }) x y
    | .map (some l) => .map (some (f l))
    | .complex k j l => .complex k j (f l)
    | .func (.yield l) a c => .func (.yield (f l)) a c
    | .func g a c => .func g (a.toList.map (mapV f n)).toArray (c.toList.map (mapV f n)).toArray
    | .iface t x => .iface t (mapV f n x)
    | .agg c => .agg (c.toList.map (mapV f n)).toArray
    | .tuple c => .tuple (c.toList.map (mapV f n)).toArray
    | v => v
def mapO (f : Nat → Nat) : Option Obj → Option Obj
  | some (.cells c t z) => some (.cells (c.toList.map (mapV f 100)).toArray t z)
  | some (.map es k) => some (.map (es.toList.map fun e => { e with key := mapV f 100 e.key, val := mapV f 100 e.val }).toArray k)
  | some (.mapIter (some l) a b c) => some (.mapIter (some (f l)) a b c)
  | o => o

/-! ### calls that were reckoned ahead -/
structure Memo where
  f : FuncId
  args : List Value
  H : Heap
  ro : List Bool
  n : Nat
  v : Value
  H' : Heap
  obs : List Ob
def freeOf : Option Obj → Bool
  | some (.loop _) => false
  | _ => true
/-- a label's place in the list; h: how many labels there were; b: a place that is none -/
def backE (s : List Nat) (h b l : Nat) : Nat := if l < h then (s.findIdx? (· == l)).getD b else s.length + (l - h)
def forthE (s : List Nat) (h i : Nat) : Nat := if i < s.length then s.getD i 0 else h + (i - s.length)
def Memo.fits (NG : Nat) (e : Memo) (ro : Nat → Bool) (args : List Value) (H : Heap) (n : Nat) (s : List Nat) : Bool :=
  (e.obs.isEmpty || e.n == n) && s.length == e.H.length && e.ro.length == e.H.length && decide (e.H.length ≤ e.H'.length) && decide (NG ≤ e.H.length) && likeVs (fun i => s.getD i H.length) e.args args &&
  (List.range e.H.length).all fun i => decide (s.getD i H.length < H.length) && (decide (NG ≤ i) || s.getD i H.length == i) && (s.findIdx? (· == s.getD i H.length) == some i) && (e.ro.getD i false == ro (s.getD i H.length)) && freeOf (H.getD (s.getD i H.length) none) &&
    likeO (fun i => s.getD i H.length) (e.H.getD i none) (H.getD (s.getD i H.length) none) && (!ro (s.getD i H.length) || (e.H'.getD i none).isSome)
/-- the labels there were -/
def Memo.old (e : Memo) (ro : Nat → Bool) (H : Heap) (s : List Nat) (l : Nat) : Option Obj :=
  match s.findIdx? (· == l) with
  | some i => if ro l then H.getD l none else mapO (forthE s H.length) (e.H'.getD i none)
  | none => H.getD l none
def Memo.heap (e : Memo) (ro : Nat → Bool) (H : Heap) (s : List Nat) : Heap := (List.range H.length).map (e.old ro H s) ++ (e.H'.drop s.length).map (mapO (forthE s H.length))
def Memo.back (e : Memo) (ro : Nat → Bool) (H : Heap) (s : List Nat) : Bool :=
  likeV (backE s H.length e.H'.length) 100 (mapV (forthE s H.length) 100 e.v) e.v &&
  e.H'.all fun o => likeO (backE s H.length e.H'.length) (mapO (forthE s H.length) o) o
def Memo.call (NG : Nat) (e : Memo) (ro : Nat → Bool) (f : FuncId) (args : List Value) (H : Heap) (n : Nat) (s : List Nat) : Option (Value × Heap × List Ob) :=
  if e.fits NG ro args H n s = true then if e.back ro H s = true then some (mapV (forthE s H.length) 100 e.v, e.heap ro H s, e.obs) else none else none
def memoHook (NG : Nat) (tab : List Memo) : Hook := fun ro f args H n => match tab.filter fun e => e.f == f with
  | [] => none
  | l => (fun s => l.findSome? fun e => e.call NG ro f args H n s) (reached NG args H)

/-! ### its run -/
def pruneE : List Bool → Heap → Heap
  | b :: bs, o :: os => (if b then o else none) :: pruneE bs os
  | _, os => os
theorem pruneE_len : ∀ (bs : List Bool) (H : Heap), (pruneE bs H).length = H.length := by
  intro bs
  induction bs with
  | nil => intro H; cases H <;> rfl
  | cons b bs ih => intro H; cases H with
    | nil => rfl
    | cons o os => simp [pruneE, ih os]
theorem pruneE_at : ∀ (bs : List Bool) (H : Heap) (l : Nat) (o : Obj), (pruneE bs H)[l]? = some (some o) → H[l]? = some (some o) := by
  intro bs
  induction bs with
  | nil => intro H l o h; cases H <;> exact h
  | cons b bs ih => intro H l o h; cases H with
    | nil => exact h
    | cons x os =>
      cases l with
      | zero =>
        simp only [pruneE, List.getElem?_cons_zero, Option.some.injEq] at h ⊢
        split at h
        · exact h
        · cases h
      | succ l => simp only [pruneE, List.getElem?_cons_succ] at h ⊢; exact ih os l o h
def isTT : Ob → Bool
  | .test true true => true
  | _ => false
def memoRun (C : Cfg) (ro : List Bool) (fuel : Nat) (f : FuncId) (args : List Value) (H : Heap) (hs : List Hint) (n : Nat) (keep : List Bool) : Option (Value × Heap × List Ob) :=
  match ev C (fun l => ro.getD l false) false fuel (.call f args) ⟨[], H, hs, List.replicate n (.test true true), []⟩ with
  | some (.val v, st) => if (st.cs.drop (st.cs.length - n)).all isTT = true then some (v, pruneE keep st.H, st.cs.take (st.cs.length - n)) else none
  | _ => none
/-- an entry's calls come to what it tells -/
def MemoOk (P : Program) (e : Memo) : Prop := (∀ p ∈ e.obs, p.Holds P) → ∀ (w0 : World) (K : Nat → Prop) (w : World) (β : Env) (args' : Array Value), M w0 K (fun l => e.ro.getD l false) β e.H w → LsR β e.args args'.toList →
  Calls P e.f args' w (CallR w0 K (fun l => e.ro.getD l false) β e.H' e.v)
theorem memo_ok {C : Cfg} (hC : CfgOk C) {e : Memo} {fuel : Nat} {hs : List Hint} {keep : List Bool} (h : memoRun C e.ro fuel e.f e.args e.H hs e.n keep = some (e.v, e.H', e.obs)) : MemoOk C.P e := by
  intro hobs w0 K w β args' hM ha
  unfold memoRun at h
  split at h
  case h_2 => cases h
  rename_i v st hev
  split at h
  case isFalse => cases h
  rename_i hd
  simp only [Option.some.injEq, Prod.mk.injEq] at h
  obtain ⟨h1, h2, h3⟩ := h
  subst h1
  refine (ev_calls C hC hev (fun p hp => ?_) w0 K w hM ha).mono fun en w' hR => ?_
  · rw [← List.take_append_drop (st.cs.length - e.n) st.cs] at hp
    rcases List.mem_append.1 hp with hp | hp
    · exact hobs p (by rw [← h3]; exact hp)
    · have := List.all_eq_true.1 hd p hp
      unfold isTT at this
      split at this
      · rfl
      · cases this
  · obtain ⟨v', β', r1, r2, r3, r4⟩ := hR
    refine ⟨v', β', r1, r2, ⟨by rw [r3.len, ← h2, pruneE_len], fun l o hl => r3.obj l o (pruneE_at keep _ _ _ (by rw [h2]; exact hl)), r3.lt, r3.inj, r3.own, r3.os, r3.tape, r3.output, r3.size, r3.block, r3.glob⟩, r4⟩
end Go.Proofs.YtfmhjggpcapfoaaGreatZev
