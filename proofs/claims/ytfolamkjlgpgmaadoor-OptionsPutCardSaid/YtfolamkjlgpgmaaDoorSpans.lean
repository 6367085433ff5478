/- The spans that bytes read as options leave: each within its block, all apart. No program in sight. -/
import Derived.Test.YtfolamkjlgpgmaaDoorRefP
import Derived.Test.YtfolamkjlgpgmaaDoorStrips
namespace Go.Proofs.YtfolamkjlgpgmaaDoor
open Go.RowKit
set_option linter.unusedVariables false
set_option linter.unusedSimpArgs false
def spanOf (x : Opt) : Span := ⟨x.adr, x.data.length, x.cap⟩
theorem twin_span {w : World} {g s kb : Nat} {l : List Nat} (h : w.heap[g]? = some (.cells (row8 (twinL l s)).toArray 5 (0, 0))) (hl : l.length ≤ 5000) (hkb : w.heap.size ≤ kb) : SpanIn g kb w ⟨some ⟨g, 0, none⟩, l.length, l.length + 4⟩ := by
  refine ⟨by show l.length ≤ l.length + 4; omega, by show l.length + 4 ≤ 1000000000; omega, .inr ⟨g, 0, _, rfl, Nat.le_refl _, by have := lt_of_blk h; omega, h, ?_⟩⟩
  show 0 + (l.length + 4) ≤ _
  simp only [List.size_toArray, row8_length, twinL_length]; omega
theorem get_spans {w : World} {gt g c kb : Nat} {l : List Nat} {L : List (Nat × Nat × Nat)} (ht : w.heap[gt]? = some (.cells (row8 (twinL l 199)).toArray 5 (0, 0))) (hg : l ≠ [] → gt < g ∧ RowAt w g c l)
    (hb : ∀ x ∈ l, x < 256) (hL : getS l = some L) (hl : l.length ≤ 5000) (hkb : w.heap.size ≤ kb) :
    (∀ x ∈ (⟨some ⟨gt, 0, none⟩, l.length, l.length + 4⟩ : Span) :: (optL g l L).map spanOf, SpanIn gt kb w x) ∧ List.Pairwise apart2 ((⟨some ⟨gt, 0, none⟩, l.length, l.length + 4⟩ : Span) :: (optL g l L).map spanOf) := by
  obtain ⟨f1, f2, f3⟩ := getS_facts hb hL
  have hne : ∀ y ∈ L, l ≠ [] := fun y hy e => by have := f2 y hy; rw [e] at this; simp at this; omega
  refine ⟨fun x hx => ?_, List.pairwise_cons.2 ⟨fun x hx => ?_, ?_⟩⟩
  · rcases List.mem_cons.1 hx with rfl | hx
    · exact twin_span ht hl hkb
    · simp only [optL, List.map_map, List.mem_map, Function.comp] at hx
      obtain ⟨y, hy, rfl⟩ := hx
      obtain ⟨k1, cur, k2, k3, k4⟩ := hg (hne y hy)
      have hy2 := f2 y hy
      have hlen : l.length ≤ cur.size := by
        have := congrArg List.length k4
        rw [row8_length, List.length_take] at this
        have h2 : cur.toList.length = cur.size := Array.length_toList
        omega
      refine ⟨?_, ?_, .inr ⟨g, y.2.1, cur, rfl, by omega, by have := lt_of_blk k2; omega, k2, ?_⟩⟩
      · show ((l.drop y.2.1).take y.2.2).length ≤ y.2.2
        rw [List.length_take]; omega
      · show y.2.2 ≤ 1000000000; omega
      · show y.2.1 + y.2.2 ≤ cur.size; omega
  · simp only [optL, List.map_map, List.mem_map, Function.comp] at hx
    obtain ⟨y, hy, rfl⟩ := hx
    have k1 := (hg (hne y hy)).1
    intro g1 o o2 e1 e2
    cases e1
    cases e2
    omega
  · unfold optL
    rw [List.map_map, List.pairwise_map]
    refine f3.imp (fun {x y} h => ?_)
    intro g1 o o2 e1 e2
    cases e1
    cases e2
    exact .inl h
end Go.Proofs.YtfolamkjlgpgmaaDoor
