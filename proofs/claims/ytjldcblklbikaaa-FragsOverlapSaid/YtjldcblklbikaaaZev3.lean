/- What hangs on no world: arithmetic, comparisons, conversions. No condition. -/
import Derived.Test.YtjldcblklbikaaaZev2
namespace Go.Proofs.YtjldcblklbikaaaZev
open Go.RowKit
set_option linter.unusedVariables false

/-- what it gives in one world it gives in each, and leaves the world alone -/
def Q (P : Program) {α : Type} (s : Sem α) : Prop := ∀ a w1, s.run P default = .ok a w1 → ∀ w, s.run P w = .ok a w
def pureRun (P : Program) {α : Type} (s : Sem α) : Option α :=
  match s.run P default with
  | .ok a _ => some a
  | .halt _ _ => none

section
variable {P : Program} {α γ : Type}
theorem Q.run {s : Sem α} (h : Q P s) {a : α} (k : pureRun P s = some a) (w : World) : s.run P w = .ok a w := by
  unfold pureRun at k
  split at k
  · rename_i b w1 e; cases k; exact h _ _ e w
  · cases k
theorem Q.pure (a : α) : Q P (Pure.pure a : Sem α) := fun b w1 h w => by
  simp only [Sem.run_pure, Result.ok.injEq] at h ⊢; exact ⟨h.1, trivial⟩
theorem Q.of_no {s : Sem α} (h : ∀ w, ∃ x w1, s.run P w = .halt x w1) : Q P s := fun a w1 e => by
  obtain ⟨x, w2, h2⟩ := h default
  rw [h2] at e; cases e
theorem Q.halt (x : Halt) : Q P (Sem.halt x : Sem α) := Q.of_no fun w => ⟨x, w, rfl⟩
theorem Q.stuck (s : String) : Q P (Go.stuck s : Sem α) := Q.halt _
theorem Q.unsup (u : Unsupported) : Q P (unsupported u : Sem α) := Q.halt _
theorem Q.unsup_bind (u : Unsupported) (f : γ → Sem α) : Q P ((unsupported u : Sem γ) >>= f) := Q.of_no fun w => ⟨_, w, rfl⟩
theorem Q.bind {x : Sem γ} {f : γ → Sem α} (h : Q P x) (k : ∀ b, Q P (f b)) : Q P (x >>= f) := fun a w1 e w => by
  rw [Sem.run_bind] at e ⊢
  cases hx : x.run P default with
  | halt y w2 => rw [hx] at e; cases e
  | ok b w2 =>
    have h0 := h b w2 hx
    have hd := h0 default
    rw [hx] at hd
    simp only [Result.ok.injEq, true_and] at hd
    rw [hx, hd, Result.andThen_ok] at e
    rw [h0 w, Result.andThen_ok]
    exact k b a w1 e w
theorem Q.program : Q P Go.program := fun a w1 h w => by
  simp only [run_program, Result.ok.injEq] at h ⊢; exact ⟨h.1, trivial⟩
theorem no_panic_ok (e : RuntimeError) (w : World) : ∃ x w1, (runtimePanic e : Sem α).run P w = .halt x w1 := by
  cases e <;> simp only [runtimePanic, Sem.run_bind, run_program, Result.andThen_ok] <;> first
    | exact ⟨_, _, rfl⟩
    | (simp only [elemOf, Sem.run_bind]
       cases hx : (underlying _ : Sem TypeDesc).run P w with
       | halt y w2 => exact ⟨_, _, rfl⟩
       | ok d w2 =>
         cases d <;> first | exact ⟨_, _, rfl⟩ | (simp only [Result.andThen_ok, Sem.run_bind, Sem.run_pure, newVar, newRow, newObj]; exact ⟨_, _, rfl⟩))
theorem Q.panic (e : RuntimeError) : Q P (runtimePanic e : Sem α) := Q.of_no (no_panic_ok e)
theorem Q.ite {c : Prop} [Decidable c] {x y : Sem α} (h : Q P x) (k : Q P y) : Q P (if c then x else y) := by split <;> assumption
theorem Q.typeInfo (t : TypeId) : Q P (Go.typeInfo t) := by
  unfold Go.typeInfo
  refine Q.program.bind fun p => ?_
  split
  · exact Q.pure _
  · exact Q.stuck _
theorem Q.underlying (t : TypeId) : Q P (Go.underlying t) := by
  unfold Go.underlying
  refine Q.program.bind fun p => ?_
  split
  · exact Q.pure _
  · exact Q.stuck _
theorem Q.sizeOf (t : TypeId) : Q P (Go.sizeOf t) := by unfold Go.sizeOf; exact (Q.typeInfo t).bind fun _ => Q.pure _
theorem Q.isAgg (t : TypeId) : Q P (Go.isAgg t) := by
  unfold Go.isAgg
  refine (Q.underlying t).bind fun d => ?_
  split <;> exact Q.pure _
theorem Q.part (t : TypeId) (c : Array Value) (o : Nat) : Q P (Go.part t c o) := by
  unfold Go.part
  refine (Q.isAgg t).bind fun b => ?_
  split
  · exact (Q.sizeOf t).bind fun _ => Q.pure _
  · split
    · exact Q.pure _
    · exact Q.stuck _
theorem Q.typeStr (t : TypeId) : Q P (Go.typeStr t) := by
  unfold Go.typeStr
  refine (Q.typeInfo t).bind fun i => ?_
  exact Q.ite (Q.unsup _) (Q.pure _)
theorem Q.forIn_list {γ δ : Type} (f : γ → δ → Sem (ForInStep δ)) (hf : ∀ a b, Q P (f a b)) : ∀ (l : List γ) (b : δ), Q P (forIn l b f) := by
  intro l
  induction l with
  | nil => intro b; simpa using Q.pure b
  | cons x l ih =>
    intro b
    rw [List.forIn_cons]
    refine (hf x b).bind fun s => ?_
    cases s with
    | done c => exact Q.pure _
    | yield c => exact ih c
theorem Q.forIn_array {γ δ : Type} (f : γ → δ → Sem (ForInStep δ)) (hf : ∀ a b, Q P (f a b)) (l : Array γ) (b : δ) : Q P (forIn l b f) := by
  rw [← Array.forIn_toList]; exact Q.forIn_list f hf _ b
theorem Q.forIn_range {δ : Type} (f : Nat → δ → Sem (ForInStep δ)) (hf : ∀ a b, Q P (f a b)) (n : Nat) (b : δ) : Q P (forIn [0:n] b f) := by
  rw [Std.Legacy.Range.forIn_eq_forIn_range']; exact Q.forIn_list f hf _ b

/-- a value that is nowhere, to be compared -/
def flat : Value → Bool
  | .agg c => c.all bare
  | v => bare v

theorem flat_bare {v : Value} (h : flat v = true) (hn : ∀ c, v ≠ .agg c) : bare v = true := by
  unfold flat at h
  split at h
  · exact absurd rfl (hn _)
  · exact h
theorem part_flat {t : TypeId} {c : Array Value} {o : Nat} (hc : c.all bare = true) {v : Value} {w w1 : World} (h : (Go.part t c o).run P w = .ok v w1) : flat v = true := by
  unfold Go.part at h
  rw [Sem.run_bind] at h
  cases hx : (Go.isAgg t).run P w with
  | halt y w2 => rw [hx] at h; cases h
  | ok b w2 =>
    rw [hx, Result.andThen_ok] at h
    have hb := Array.all_eq_true_iff_forall_mem.1 hc
    cases b with
    | true =>
      simp only [if_true, Sem.run_bind] at h
      cases hs : (Go.sizeOf t).run P w2 with
      | halt y w3 => rw [hs] at h; cases h
      | ok n w3 =>
        rw [hs] at h
        simp only [Result.andThen_ok, Sem.run_pure, Result.ok.injEq] at h
        rw [← h.1]
        simp only [flat]
        rw [Array.all_eq_true_iff_forall_mem]
        intro x hx
        obtain ⟨i, hi⟩ := Array.getElem?_of_mem hx
        rw [Array.getElem?_extract] at hi
        split at hi
        · exact hb x (Array.mem_of_getElem? hi)
        · cases hi
    | false =>
      simp only [Bool.false_eq_true, if_false] at h
      split at h
      · rename_i u hu
        simp only [Sem.run_pure, Result.ok.injEq] at h
        rw [← h.1]
        have := hb u (Array.mem_of_getElem? hu)
        unfold flat
        split
        · simp [bare] at this
        · exact this
      · cases h
theorem Q.bind_part {t : TypeId} {c : Array Value} {o : Nat} (hc : c.all bare = true) {f : Value → Sem α} (k : ∀ b, flat b = true → Q P (f b)) : Q P (Go.part t c o >>= f) := fun a w1 e w => by
  rw [Sem.run_bind] at e ⊢
  cases hx : (Go.part t c o).run P default with
  | halt y w2 => rw [hx] at e; cases e
  | ok b w2 =>
    have h0 := Q.part t c o b w2 hx
    have hd := h0 default
    rw [hx] at hd
    simp only [Result.ok.injEq, true_and] at hd
    have hf := part_flat hc hx
    rw [hx, hd, Result.andThen_ok] at e
    rw [h0 w, Result.andThen_ok]
    exact k b hf a w1 e w

theorem Q.equalIn : ∀ (d : Nat) (t : TypeId) (x y : Value), flat x = true → flat y = true → Q P (Op.equalIn d t x y) := by
  intro d
  induction d with
  | zero => intro t x y _ _; exact Q.unsup _
  | succ d ih =>
    intro t x y hx hy
    unfold Op.equalIn
    refine (Q.underlying t).bind fun u => ?_
    split <;> first
      | exact Q.pure _
      | exact Q.stuck _
      | exact Q.unsup _
      | exact Q.ite (Q.pure _) (Q.stuck _)
      | (simp [flat, bare] at hx; done)
      | (simp [flat, bare] at hy; done)
      | skip
    · rename_i a b
      cases a <;> cases b <;> first
        | (simp [flat, bare] at hx; done)
        | (simp [flat, bare] at hy; done)
        | exact Q.pure _
    · simp only [flat] at hx hy
      refine Q.program.bind fun p => ?_
      dsimp only
      refine Q.ite (Q.unsup_bind _ _) ?_
      refine Q.bind (Q.forIn_array _ (fun f b => ?_) _ _) fun r => ?_
      · refine Q.ite ?_ (Q.pure _)
        refine Q.bind_part hx fun b1 h1 => Q.bind_part hy fun b2 h2 => (ih _ _ _ h1 h2).bind fun r => ?_
        exact Q.ite (Q.pure _) (Q.pure _)
      · split <;> exact Q.pure _
    · simp only [flat] at hx hy
      refine (Q.sizeOf _).bind fun n => ?_
      refine Q.bind (Q.forIn_range _ (fun f b => ?_) _ _) fun r => ?_
      · refine Q.bind_part hx fun b1 h1 => Q.bind_part hy fun b2 h2 => (ih _ _ _ h1 h2).bind fun r => ?_
        exact Q.ite (Q.pure _) (Q.pure _)
      · dsimp only
        split <;> exact Q.pure _
theorem Q.equal (t : TypeId) {x y : Value} (hx : flat x = true) (hy : flat y = true) : Q P (Op.equal t x y) := Q.equalIn _ t x y hx hy
end
end Go.Proofs.YtjldcblklbikaaaZev
