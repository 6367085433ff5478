/- What comes in: an address. No condition. -/
import Derived.Test.YtepoaapadalnoaaDoorOpen
import Derived.Test.YtepoaapadalnoaaDoorReads
import Derived.OpenShut
namespace Go.Proofs.YtepoaapadalnoaaDoor
open Go.RowKit Go.ChangeShapes Go.WideShapes
set_option linter.unusedVariables false
theorem one_at {cs : List Value} {k : Nat} {v : Value} (h : (cs.drop k).take 1 = [v]) : cs[k]? = some v := by
  have := congrArg (·[0]?) h
  simpa [List.getElem?_take] using this

theorem agg_of {v : Value} {cs : List Value} (h : v.cells.toList = cs) (hn : 1 < cs.length) : v = .agg cs.toArray := by
  subst h
  cases v with
  | agg xs => simp [Value.cells]
  | _ => simp [Value.cells] at hn
variable {H : Type} {enc : TypeId × Value → H} {w : World}
theorem int_come {P : Program} {t : TypeId} {k : IntKind} {held : Bool} {fuel : Nat} {cs : List Value} {x : DataW H × List MemPlace} {M : Nat} (hu : P.underlying t = some (.int k)) (hb : ∀ z, (Lit.int k z).wf = true → 0 ≤ z ∧ z < M) (h : DataW.trod enc P w 0 (fun _ => true) held fuel t cs = some x) : ∃ n : Nat, cs = [.int k (n : Int)] ∧ n < M := by
  obtain ⟨z, h1, _, h2⟩ := DataW.trod_int hu h
  obtain ⟨n, e, hn⟩ := nat_of (hb z h2)
  exact ⟨n, by rw [h1, e], hn⟩
theorem u8b : ∀ z, (Lit.int .u8 z).wf = true → 0 ≤ z ∧ z < (256 : Nat) := fun z h => by have := bounds_u8 h; omega
theorem adrL_get (a : Nat → Nat) {i : Nat} (h : i < 16) : (adrL a)[i]? = some (.int .u8 (a i : Int)) := by
  have := adrCells_get a h; simpa [adrCells] using this
theorem addr_come {held : Bool} {fuel : Nat} {cs : List Value} {x : DataW H × List MemPlace} (h : DataW.trod enc Tryd.prog w 0 (fun _ => true) held fuel 23 cs = some x) : ∃ a : Nat → Nat, cs = adrL a ∧ ∀ j, j < 16 → a j < 256 := by
  obtain ⟨xs, m, _, _, hl, hx, hi⟩ := DataW.trod_array Tryd.underlying23 h
  have e1 : Tryd.prog.cellsOf 5 = 1 := by kernel_rfl
  have e2 : Tryd.prog.cellsOf 23 = 16 := by kernel_rfl
  rw [e2] at hl
  have each : ∀ i, ∃ n : Nat, i < 16 → n < 256 ∧ cs[i]? = some (.int .u8 (n : Int)) := fun i => by
    by_cases hlt : i < 16
    · have := hi i hlt
      rw [e1, Nat.mul_one, List.getElem?_eq_getElem (by omega)] at this
      obtain ⟨n, h1, h2⟩ := int_come Tryd.underlying5 u8b this
      exact ⟨n, fun _ => ⟨h2, one_at h1⟩⟩
    · exact ⟨0, fun h => absurd h hlt⟩
  obtain ⟨a, ha⟩ := Classical.axiomOfChoice each
  refine ⟨a, ?_, fun j hj => (ha j hj).1⟩
  apply List.ext_getElem?
  intro i
  rcases Nat.lt_or_ge i 16 with hlt | hge
  · rw [(ha i hlt).2, adrL_get a hlt]
  · rw [List.getElem?_eq_none (by omega), List.getElem?_eq_none (by rw [adrL_length]; omega)]
theorem addr_in {held : Bool} {v : Value} {d : DataW H} {p : List MemPlace} (h : DataW.Trod enc Tryd.prog w 0 (fun _ => true) held 23 v d p) : ∃ a : Nat → Nat, v = .agg (adrCells a) ∧ ∀ j, j < 16 → a j < 256 := by
  obtain ⟨f, g⟩ := h
  obtain ⟨a, e, ha⟩ := addr_come g
  exact ⟨a, agg_of e (by rw [adrL_length]; decide), ha⟩
end Go.Proofs.YtepoaapadalnoaaDoor
