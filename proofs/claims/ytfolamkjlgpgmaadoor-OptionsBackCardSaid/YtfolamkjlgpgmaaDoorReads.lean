/- A slice that reads as a function of the place, nil let in. No condition. -/
import Derived.Test.YtfolamkjlgpgmaaDoorBase
import Derived.OpenShut
namespace Go.Proofs.YtfolamkjlgpgmaaDoor
open Go.RowKit Go.ChangeShapes Go.WideShapes

/-- The first n places of the slice at A hold f's values, below block number B. -/
def RdS (w : World) (B : Nat) (A : Option Addr) (n : Nat) (f : Nat → Value) : Prop :=
  0 < n → ∃ b off, A = some ⟨b, off, none⟩ ∧ b < B ∧ ∀ k, k < n → w.cell? ⟨b, off + k, none⟩ = some (f k)

theorem RdS.below {w w' : World} {B n : Nat} {A : Option Addr} {f : Nat → Value} (h : RdS w B A n f) (hb : Below B w w') : RdS w' B A n f := by
  intro hn
  obtain ⟨b, off, e, hlt, hc⟩ := h hn
  exact ⟨b, off, e, hlt, fun k hk => (hb.cell (p := ⟨b, off + k, none⟩) hlt).trans (hc k hk)⟩

/-- Behind the call w' holds o in a block b that w had not; what w had stands. -/
structure Made (b : Nat) (o : Obj) (w w' : World) : Prop where
  new : w.heap.size ≤ b
  get : w'.heap[b]? = some o
  below : Below w.heap.size w w'

theorem Made.other {b : Nat} {o x : Obj} {w w' : World} (h : Made b o w w') {k : Nat} (hk : w.heap[k]? = some x) : w'.heap[k]? = some x :=
  (h.below.block k (lt_of_blk hk)).trans hk
theorem Made.ne {b k : Nat} {o x : Obj} {w w' : World} (h : Made b o w w') (hk : w.heap[k]? = some x) : k ≠ b := by
  have := lt_of_blk hk; have := h.new; omega
theorem Turned.keep {b k : Nat} {o x : Obj} {w w' : World} (h : Turned b o w w') (hk : w.heap[k]? = some x) (hne : k ≠ b) : w'.heap[k]? = some x :=
  (h.other hne).trans hk

theorem lt_of_cell {w : World} {b i : Nat} {v : Value} (h : w.cell? ⟨b, i, none⟩ = some v) : b < w.heap.size := by
  rcases Nat.lt_or_ge b w.heap.size with h1 | h1
  · exact h1
  · simp [World.cell?, Array.getElem?_eq_none h1] at h

theorem RdS.of_ints {H : Type} {enc : TypeId × Value → H} {P : Program} {w : World} {base : Nat} {spare : Nat → Bool} {held : Bool} {t e : TypeId} {k : IntKind} {fuel : Nat} {a0 : Option Addr} {len cap : Nat} {x : DataW H × List MemPlace}
    (ht : P.underlying t = some (.slice e)) (he : P.underlying e = some (.int k)) (hc : P.cellsOf e = 1)
    (h : DataW.trod enc P w base spare held fuel t [.slice a0 len cap] = some x) :
    ∃ zs : Nat → Int, RdS w w.heap.size a0 len (fun i => .int k (zs i)) ∧ len ≤ maxLen ∧ ∀ i, i < len → (Lit.int k (zs i)).wf = true := by
  rcases open_ints ht he hc h with ⟨hcs, _⟩ | ⟨a, len', cap', zs, hcs, _, hl, hm, hz, _, hcell, hwz⟩
  · simp only [List.cons.injEq, Value.slice.injEq, and_true] at hcs
    obtain ⟨rfl, rfl, rfl⟩ := hcs
    exact ⟨fun _ => 0, fun h => absurd h (by omega), by unfold maxLen; omega, fun i hi => absurd hi (by omega)⟩
  · simp only [List.cons.injEq, Value.slice.injEq, and_true] at hcs
    obtain ⟨rfl, rfl, rfl⟩ := hcs
    have hzl : len ≤ zs.length := by rw [hz]; split <;> omega
    refine ⟨fun i => zs.getD i 0, fun hn => ?_, by omega, fun i hi => hwz _ ?_⟩
    · obtain ⟨b, off, rfl, hcc⟩ := ints_at hcell (by omega)
      exact ⟨b, off, rfl, lt_of_cell (hcc 0 (by omega)), fun j hj => hcc j (by omega)⟩
    · show zs.getD i 0 ∈ zs
      rw [List.getD_eq_getElem?_getD, List.getElem?_eq_getElem (by omega), Option.getD_some]
      exact List.getElem_mem _

theorem RdS.congr {w : World} {B n : Nat} {A : Option Addr} {f g : Nat → Value} (h : RdS w B A n f) (e : ∀ k, k < n → f k = g k) : RdS w B A n g := by
  intro hn
  obtain ⟨b, off, e1, hlt, hc⟩ := h hn
  exact ⟨b, off, e1, hlt, fun k hk => by rw [hc k hk, e k hk]⟩

/-- unsigned numbers as natural ones, bounded outright -/
theorem RdS.nat {w : World} {B n M : Nat} {A : Option Addr} {kd : IntKind} {zs : Nat → Int} (h : RdS w B A n (fun i => .int kd (zs i))) (hM : 0 < M) (hz : ∀ i, i < n → 0 ≤ zs i ∧ zs i < M) :
    ∃ ns : Nat → Nat, RdS w B A n (fun i => .int kd (ns i)) ∧ ∀ i, ns i < M := by
  refine ⟨fun i => if i < n then (zs i).toNat else 0, h.congr fun k hk => ?_, fun i => ?_⟩
  · have := hz k hk
    simp only [if_pos hk]
    rw [Int.toNat_of_nonneg this.1]
  · by_cases hi : i < n
    · have := hz i hi
      simp only [if_pos hi]; omega
    · simp only [if_neg hi]; exact hM
theorem nat_of {x : Int} {M : Nat} (h : 0 ≤ x ∧ x < M) : ∃ n : Nat, x = n ∧ n < M := ⟨x.toNat, by omega, by omega⟩
end Go.Proofs.YtfolamkjlgpgmaaDoor
