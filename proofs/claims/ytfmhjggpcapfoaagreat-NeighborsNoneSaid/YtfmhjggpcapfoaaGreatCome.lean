/- Bytes that come in: nil, none, or a row. No condition. -/
import Derived.Test.YtfmhjggpcapfoaaGreatBytes
import Derived.OpenShut
import Derived.LaidMore
import Derived.MakeChecks
import Derived.Test.YtfmhjggpcapfoaaGreatZev20
namespace Go.Proofs.YtfmhjggpcapfoaaGreat
open Go.RowKit Go.ChangeShapes Go.WideShapes Go.Proofs.YtfmhjggpcapfoaaGreatZev
set_option linter.unusedVariables false

theorem cell_of {w : World} {a : Addr} {v : Value} (h : w.cell? a = some v) : ∃ c t z, w.heap[a.block]? = some (.cells c t z) ∧ a.spot = none ∧ c[a.off]? = some v := by
  unfold World.cell? at h
  split at h
  · rename_i c t z hb
    split at h
    · cases h
    · rename_i hs
      exact ⟨c, t, z, hb, by cases hq : a.spot with
        | none => rfl
        | some x => rw [hq] at hs; exact absurd rfl hs, h⟩
  · cases h
theorem cells_at {w : World} {a : Addr} {l : List Value} (hn : 0 < l.length) (h : ∀ i, i < l.length → ∃ v, l[i]? = some v ∧ w.cell? (a.add i) = some v) : CellsAt w a l := by
  obtain ⟨v, _, h0⟩ := h 0 hn
  have e0 : a.add 0 = a := by simp [Addr.add]
  rw [e0] at h0
  obtain ⟨c, t, z, hb, hs, hc⟩ := cell_of h0
  have key : ∀ i, i < l.length → ∃ v, l[i]? = some v ∧ c[a.off + i]? = some v := fun i hi => by
    obtain ⟨v, q1, q2⟩ := h i hi
    refine ⟨v, q1, ?_⟩
    obtain ⟨c', t', z', hb', _, hc'⟩ := cell_of q2
    have e1 : (a.add i).block = a.block := by unfold Addr.add; split <;> rfl
    have e2 : (a.add i).off = a.off + i := by
      unfold Addr.add
      split
      · rename_i e; rw [e]; rfl
      · rfl
    rw [e1, hb] at hb'
    cases hb'
    rw [e2] at hc'
    exact hc'
  have hlast : a.off + l.length ≤ c.size := by
    obtain ⟨v, _, q⟩ := key (l.length - 1) (by omega)
    have := (Array.getElem?_eq_some_iff.1 q).1
    omega
  refine ⟨c, t, z, hb, hs, hlast, ?_⟩
  apply List.ext_getElem?
  intro i
  rcases Nat.lt_or_ge i l.length with hi | hi
  · obtain ⟨v, q1, q2⟩ := key i hi
    rw [List.getElem?_take_of_lt hi, List.getElem?_drop, q1]
    simpa using q2
  · rw [List.getElem?_eq_none hi, List.getElem?_eq_none (by rw [List.length_take]; omega)]

variable {H : Type} {enc : TypeId × Value → H} {P : Program} {w : World}
theorem bytes_come {t e : TypeId} {held : Bool} {fuel : Nat} {cs : List Value} {x : DataW H × List MemPlace} (ht : P.underlying t = some (.slice e)) (he : P.underlying e = some (.int .u8)) (hc : P.cellsOf e = 1)
    (h : DataW.trod enc P w 0 (fun _ => true) held fuel t cs = some x) :
    cs = [.slice none 0 0] ∨ (∃ a c, cs = [.slice (some a) 0 c]) ∨ ∃ a c l, cs = [.slice (some a) l.length c] ∧ l.length ≤ c ∧ CellsAt w a l ∧ ∀ v ∈ l, ∃ z, v = .int .u8 z := by
  rcases open_ints ht he hc h with ⟨h1, _⟩ | ⟨a, len, cap, zs, h1, _, hl, _, hz, _, hcell, _⟩
  · exact .inl h1
  · rcases Nat.eq_zero_or_pos len with h0 | h0
    · subst h0; exact .inr (.inl ⟨a, cap, h1⟩)
    · have hz : zs.length = cap := by simpa using hz
      refine .inr (.inr ⟨a, cap, (List.range len).map fun i => .int .u8 (zs.getD i 0), by simpa using h1, by simpa using hl, cells_at (by simpa using h0) fun i hi => ?_, fun v hv => ?_⟩)
      · have hi : i < len := by simpa using hi
        exact ⟨.int .u8 (zs.getD i 0), by rw [List.getElem?_map, List.getElem?_range hi]; rfl, hcell i (by omega)⟩
      · obtain ⟨i, _, rfl⟩ := List.mem_map.1 hv
        exact ⟨_, rfl⟩
theorem field_come {t : TypeId} {fs : Array Field} {held : Bool} {fuel : Nat} {cs : List Value} {x : DataW H × List MemPlace} (hu : P.underlying t = some (.struct fs)) (h : DataW.trod enc P w 0 (fun _ => true) held fuel t cs = some x) {i : Nat} {f : Field} (hf : fs[i]? = some f) {ft fo fn : Nat} (e1 : f.type = ft) (e2 : f.offset = fo) (e3 : P.cellsOf ft = fn) :
    ∃ m y, DataW.trod enc P w 0 (fun _ => true) held m ft ((cs.drop fo).take fn) = some y := by
  subst e1 e2 e3
  cases fuel with
  | zero => simp [DataW.trod] at h
  | succ m =>
    unfold DataW.trod at h
    rw [hu] at h
    simp only at h
    split at h
    case isFalse => cases h
    rw [Option.map_eq_some_iff] at h
    obtain ⟨xs, hxs, _⟩ := h
    obtain ⟨_, m2⟩ := mapM_get hxs
    obtain ⟨y, _, y2⟩ := m2 i f (by simpa using hf)
    exact ⟨m, y, y2⟩
end Go.Proofs.YtfmhjggpcapfoaaGreat
