/- A call whose arguments are told, reckoned: what it comes to in each world. No condition. -/
import Derived.Test.YtfolamkjlgpgmaaDoorZev16
namespace Go.Proofs.YtfolamkjlgpgmaaDoorZev
open Go.RowKit
set_option linter.unusedVariables false
set_option linter.unusedSectionVars false

section
variable [Sym] [Kin] [Glob]
/-- what a configuration takes for granted of its program -/
structure CfgOk (C : Cfg) : Prop where
  hk : HookOk C
  kp : HookKp C.hk
  xf : ExtOk C.P C.xf
  num : NoNum C.P
  mixed : C.P.follows .mixedOrders = true

/-- a call reckoned in a small world of labels is that call in each world that is one of it -/
theorem ev_calls (C : Cfg) (hC : CfgOk C) {n : Nat} {f : FuncId} {ro : Nat → Bool} {rd : Bool} {H : Heap} {hs : List Hint} {cs : List Ob} {args : List Value} {v : Value} {st' : St}
    (h : ev C ro rd n (.call f args) ⟨[], H, hs, cs, []⟩ = some (.val v, st')) (hc : ∀ p ∈ st'.cs, p.Holds C.P) (w0 : World) (K : Nat → Prop) (w : World) {β : Env} (hM : M w0 K ro β H w) {args' : Array Value} (ha : LsR β args args'.toList) :
    Calls C.P f args' w (CallR w0 K ro β st'.H v) := ev_snd C hC.hk hC.kp hC.xf hC.num hC.mixed n _ rd _ _ _ _ h hc w0 K β w hM v rfl args' ha
theorem ev_still (C : Cfg) (hC : CfgOk C) {n : Nat} {f : FuncId} {ro : Nat → Bool} {rd : Bool} {H : Heap} {hs : List Hint} {cs : List Ob} {args : List Value} {v : Value} {st' : St}
    (h : ev C ro rd n (.call f args) ⟨[], H, hs, cs, []⟩ = some (.val v, st')) (hv : still v = true) (hc : ∀ p ∈ st'.cs, p.Holds C.P) (w : World) {β : Env} (hM : M w (fun _ => False) ro β H w) {args' : Array Value} (ha : LsR β args args'.toList) :
    Calls C.P f args' w fun e w' => e = .returned v ∧ Below w.heap.size w w' := by
  refine (ev_calls C hC h hc w (fun _ => False) w hM ha).mono fun e w' hR => ?_
  obtain ⟨v', β', rfl, _, h2, h3⟩ := hR
  exact ⟨by rw [still_eq hv h3], h2.os, h2.tape, h2.output, h2.size, fun k hk => h2.block k hk (fun c => c)⟩

/-- did a run end in true, nothing being taken for granted? -/
def good (r : Option (X × St)) : Bool :=
  match r with
  | some (.val (.bool true), st) => st.cs.isEmpty
  | _ => false
theorem good_eq {r : Option (X × St)} (h : good r = true) : ∃ st, r = some (.val (.bool true), st) ∧ st.cs = [] := by
  unfold good at h
  split at h
  · rename_i st; exact ⟨st, rfl, List.isEmpty_iff.1 h⟩
  · cases h
/-- what a run that ended in true took for granted -/
def taken (r : Option (X × St)) : Option (List Ob) :=
  match r with
  | some (.val (.bool true), st) => some st.cs
  | _ => none
theorem taken_eq {r : Option (X × St)} {l : List Ob} (h : taken r = some l) : ∃ st, r = some (.val (.bool true), st) ∧ st.cs = l := by
  unfold taken at h
  split at h
  · rename_i st; cases h; exact ⟨st, rfl, rfl⟩
  · cases h

/-- a world and no labels but dead ones -/
theorem M.dead (w : World) (ro : Nat → Bool) (k : Nat) (hg : ∀ g, Glob.lab g = none := by exact fun _ => rfl) (hm : ∀ b o, Sym.mem b = some o → w.heap[b]? = some o := by exact fun _ _ h => (by cases h)) : M w (fun _ => False) ro (List.replicate k none) (List.replicate k none) w := by
  have hx : ∀ {α : Type} (l : Nat) (x : α), (List.replicate k (none : Option α))[l]? ≠ some (some x) := fun l x h => by
    have := List.eq_of_mem_replicate (List.mem_of_getElem? h)
    cases this
  exact ⟨by simp, fun l o hl => absurd hl (hx l o), fun l p hl => absurd hl (hx l p), fun l l' p p' hl => absurd hl (hx l p), fun l p hl => absurd hl (hx l p), rfl, rfl, rfl, Nat.le_refl _, fun _ _ _ => rfl, fun g l h => (by rw [hg] at h; cases h), fun b o h => ⟨lt_of_heap (hm b o h), fun c => c, hm b o h⟩⟩

theorem calls_of_good {C : Cfg} (hC : CfgOk C) {n : Nat} {f : FuncId} {ro : Nat → Bool} {rd : Bool} {H : Heap} {hs : List Hint} {args : List Value}
    (h : good (ev C ro rd n (.call f args) ⟨[], H, hs, [], []⟩) = true) (w : World) {β : Env} (hM : M w (fun _ => False) ro β H w) {args' : Array Value} (ha : LsR β args args'.toList) :
    Calls C.P f args' w fun e w' => e = .returned (.bool true) ∧ Below w.heap.size w w' := by
  obtain ⟨st, e, hc⟩ := good_eq h
  exact ev_still C hC e rfl (by rw [hc]; simp) w hM ha
/-- the same, what it took for granted being so -/
theorem calls_of_taken {C : Cfg} (hC : CfgOk C) {n : Nat} {f : FuncId} {ro : Nat → Bool} {rd : Bool} {H : Heap} {hs : List Hint} {cs l : List Ob} {args : List Value}
    (h : taken (ev C ro rd n (.call f args) ⟨[], H, hs, cs, []⟩) = some l) (hl : ∀ p ∈ l, p.Holds C.P) (w : World) {β : Env} (hM : M w (fun _ => False) ro β H w) {args' : Array Value} (ha : LsR β args args'.toList) :
    Calls C.P f args' w fun e w' => e = .returned (.bool true) ∧ Below w.heap.size w w' := by
  obtain ⟨st, e, hc⟩ := taken_eq h
  exact ev_still C hC e rfl (by rw [hc]; exact hl) w hM ha

/-- a slice that nobody looks into -/
theorem VR.deadSlice {β : Env} (hβ : β[0]? = some none) (a : Addr) (n c : Nat) (h : n ≤ c) : VR β (.slice (some ⟨0, 0, none⟩) n 0) (.slice (some a) n c) :=
  .sl ⟨rfl, h, fun h => by omega, .inr hβ⟩

/-! ### the call that is known to come to true -/
def Knows (P : Program) (f : FuncId) : Prop := ∀ w, Calls P f #[] w fun e w' => e = .returned (.bool true) ∧ Below w.heap.size w w'
def livesHook (f : FuncId) : Hook := fun _ g args H _ => if (g == f && args.isEmpty) = true then some (.bool true, H, []) else none
theorem livesHook_ok {P : Program} {f : FuncId} {xf : FuncId → Option Outs} (h : Knows P f) : HookOk ⟨P, livesHook f, xf⟩ := by
  intro ro g args H n v H' obs hk hobs w0 K β w hM args' ha
  simp only [livesHook] at hk
  split at hk
  · rename_i hc
    cases hk
    simp only [Bool.and_eq_true, beq_iff_eq, List.isEmpty_iff] at hc
    obtain ⟨rfl, rfl⟩ := hc
    have e0 : args' = #[] := Array.eq_empty_of_size_eq_zero (by have := ha.1; simpa using this.symm)
    subst e0
    exact (h w).mono fun e w' ⟨h1, h2⟩ => ⟨_, β, h1, Ext.refl β, hM.below h2, .bool _⟩
  · cases hk
theorem livesHook_kp (f : FuncId) : HookKp (livesHook f) := by
  intro ro g args H n v H' obs h
  simp only [livesHook] at h
  split at h
  · cases h; exact Kp.refl _ _
  · cases h
theorem noHook_kp : HookKp (fun _ _ _ _ _ => none) := fun _ _ _ _ _ _ _ _ h => by cases h
theorem noHook_ok {P : Program} {xf : FuncId → Option Outs} : HookOk ⟨P, fun _ _ _ _ _ => none, xf⟩ := fun _ _ _ _ _ _ _ _ h => by cases h
theorem noExt_ok {P : Program} : ExtOk P (fun _ => none) := fun g k h => by cases h
end
/-- where there are no symbols -/
instance (priority := low) noSym : Sym := ⟨fun _ => undef, fun _ _ => False, fun _ => [], fun _ => none, fun _ _ _ _ => False⟩
/-- where nothing is known of symbols -/
instance (priority := low) noKin : Kin := ⟨fun _ => none⟩
/-- where package variables have no labels -/
instance (priority := low) noGlob : Glob := ⟨fun _ => none⟩
end Go.Proofs.YtfolamkjlgpgmaaDoorZev
