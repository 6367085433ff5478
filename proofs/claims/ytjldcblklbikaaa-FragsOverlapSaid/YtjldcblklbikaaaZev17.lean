/- A call whose arguments are told, reckoned: what it comes to in each world. No condition. -/
import Derived.Test.YtjldcblklbikaaaZev16
namespace Go.Proofs.YtjldcblklbikaaaZev
open Go.RowKit
set_option linter.unusedVariables false

/-- a call reckoned in a small world of labels is that call in each world that is one of it -/
theorem ev_calls (P : Program) (hP : NoNum P) (hF : P.follows .mixedOrders = true) {n : Nat} {f : FuncId} {ro : Nat → Bool} {H : Heap} {hs : List Hint} {args : List Value} {v : Value} {st' : St}
    (h : ev P ro n (.call f args) ⟨[], H, hs, []⟩ = some (.val v, st')) (hv : still v = true) (hc : ∀ p ∈ st'.cs, p.1 = p.2) (w : World) {β : Env} (hM : M w (fun _ => False) ro β H w) {args' : Array Value} (ha : LsR β args args'.toList) :
    Calls P f args' w fun e w' => e = .returned v ∧ Below w.heap.size w w' := by
  have := ev_snd P hP hF n _ _ _ _ _ h hc w (fun _ => False) β w hM v rfl args' ha
  refine this.mono fun e w' hR => ?_
  obtain ⟨v', β', rfl, _, h2, h3⟩ := hR
  exact ⟨by rw [still_eq hv h3], h2.os, h2.tape, h2.output, h2.size, fun k hk => h2.block k hk (fun c => c)⟩

/-- did a run end in true, each told test being as it was told? -/
def good (r : Option (X × St)) : Bool :=
  match r with
  | some (.val (.bool true), st) => st.cs.isEmpty
  | _ => false
theorem good_eq {r : Option (X × St)} (h : good r = true) : ∃ st, r = some (.val (.bool true), st) ∧ st.cs = [] := by
  unfold good at h
  split at h
  · rename_i st; exact ⟨st, rfl, List.isEmpty_iff.1 h⟩
  · cases h

/-- a world and no labels but dead ones -/
theorem M.dead (w : World) (ro : Nat → Bool) (k : Nat) : M w (fun _ => False) ro (List.replicate k none) (List.replicate k none) w := by
  have hx : ∀ {α : Type} (l : Nat) (x : α), (List.replicate k (none : Option α))[l]? ≠ some (some x) := fun l x h => by
    have := List.eq_of_mem_replicate (List.mem_of_getElem? h)
    cases this
  exact ⟨by simp, fun l o hl => absurd hl (hx l o), fun l p hl => absurd hl (hx l p), fun l l' p p' hl => absurd hl (hx l p), fun l p hl => absurd hl (hx l p), rfl, rfl, rfl, Nat.le_refl _, fun _ _ _ => rfl⟩

theorem calls_of_good {P : Program} (hP : NoNum P) (hF : P.follows .mixedOrders = true) {n : Nat} {f : FuncId} {ro : Nat → Bool} {H : Heap} {hs : List Hint} {args : List Value}
    (h : good (ev P ro n (.call f args) ⟨[], H, hs, []⟩) = true) (w : World) {β : Env} (hM : M w (fun _ => False) ro β H w) {args' : Array Value} (ha : LsR β args args'.toList) :
    Calls P f args' w fun e w' => e = .returned (.bool true) ∧ Below w.heap.size w w' := by
  obtain ⟨st, e, hc⟩ := good_eq h
  exact ev_calls P hP hF e rfl (by rw [hc]; simp) w hM ha

/-- a slice that nobody looks into -/
theorem VR.deadSlice {β : Env} (hβ : β[0]? = some none) (a : Addr) (n c : Nat) (h : n ≤ c) : VR β (.slice (some ⟨0, 0, none⟩) n 0) (.slice (some a) n c) :=
  .sl ⟨rfl, h, fun h => by omega, .inr hβ⟩
end Go.Proofs.YtjldcblklbikaaaZev
