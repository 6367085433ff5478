/- Bytes read as options by both: what is known behind the two calls. No program in sight. -/
import Derived.Test.YtfolamkjlgpgmaaDoorRef
import Derived.Test.YtfolamkjlgpgmaaDoorSameO
import Derived.Test.YtfolamkjlgpgmaaDoorApart
namespace Go.Proofs.YtfolamkjlgpgmaaDoor
open Go.RowKit
set_option linter.unusedVariables false
set_option linter.unusedSimpArgs false
def GF (l : List Nat) (w1 w2 : World) (A : Option Addr) (Lo : List Opt) (ee : Int) : Prop := (getS l = none ∧ Lo = [] ∧ ee = 4) ∨
  ∃ L g c k, getS l = some L ∧ Lo = optL g l L ∧ ee = 0 ∧ w2.ownsRow w1.heap.size 41 2 (.slice A Lo.length k) Lo.length (rowV Lo) ∧ (l ≠ [] → w1.heap.size ≤ g ∧ RowAt w2 g c l)
theorem getU {l : List Nat} {w1 w2 : World} {e : Ending} (h : GetPost l w1 e w2) (hb : ∀ x ∈ l, x < 256) : ∃ A Lo c ee, e = .returned (.tuple #[.slice A (Lo : List Opt).length c, .int .i64 ee]) ∧ Below w1.heap.size w1 w2 ∧ GF l w1 w2 A Lo ee := by
  obtain ⟨h1, ⟨h2, h3⟩ | ⟨L, g, c, A, h2, h3, ⟨k, h4⟩, h5⟩⟩ := h
  · exact ⟨none, [], 0, 4, h3, h1, .inl ⟨h2, rfl, rfl⟩⟩
  · have hf := getS_facts hb h2
    have hlen : (optL g l L).length = L.length := by simp [optL]
    refine ⟨A, optL g l L, L.length, 0, by rw [hlen]; exact h3, h1, .inr ⟨L, g, c, k, h2, rfl, rfl, ?_, h5⟩⟩
    rw [hlen, ← rowO_eq (fun x hx => (hf.2.1 x hx).2.2.1)]
    exact h4
def RF (l : List Nat) (w2 w3 : World) (A : Option Addr) (M : List Opt) (c : Nat) (ff : Int) : Prop := (getS l = none ∧ M = [] ∧ ff = 4) ∨ ∃ L, getS l = some L ∧ ff = 0 ∧ RefB w2 w3 (.slice A M.length c) l L M
theorem refU {l : List Nat} {w2 w3 : World} {e : Ending} (h : RefPost l w2 e w3) : ∃ A M c ff, e = .returned (.tuple #[.slice A (M : List Opt).length c, .int .i64 ff]) ∧ Below w2.heap.size w2 w3 ∧ RF l w2 w3 A M c ff := by
  obtain ⟨h1, ⟨h2, h3⟩ | ⟨L, M, A, c, h2, h3, h4⟩⟩ := h
  · exact ⟨none, [], 0, 4, h3, h1, .inl ⟨h2, rfl, rfl⟩⟩
  · exact ⟨A, M, c, 0, h3, h1, .inr ⟨L, h2, rfl, h4⟩⟩
theorem rd_nil (w : World) (B : Nat) (A : Option Addr) : OptsRd w B A [] := ⟨fun h => absurd rfl h, by simp, by simp⟩
theorem both {l : List Nat} {w1 w2 w3 : World} {A A2 : Option Addr} {Lo M : List Opt} {c : Nat} {ee ff : Int} (h : GF l w1 w2 A Lo ee) (k : RF l w2 w3 A2 M c ff) (hb : Below w2.heap.size w2 w3) (h256 : ∀ x ∈ l, x < 256) (hl : l.length ≤ 5000) :
    ff = ee ∧ OptsRd w3 w3.heap.size A Lo ∧ OptsRd w3 w3.heap.size A2 M ∧ kdO Lo = kdO M ∧ (∀ x ∈ Lo, x.data.length ≤ 1000000000) ∧ Lo.length ≤ 64 ∧ M.length = Lo.length := by
  rcases h with ⟨h1, rfl, rfl⟩ | ⟨L, g, cg, kk, h1, rfl, rfl, h2, h3⟩
  · rcases k with ⟨k1, rfl, rfl⟩ | ⟨L2, k1, rfl, k2⟩
    · exact ⟨rfl, rd_nil _ _ _, rd_nil _ _ _, rfl, by simp, by simp, rfl⟩
    · rw [h1] at k1; cases k1
  · rcases k with ⟨k1, rfl, rfl⟩ | ⟨L2, k1, rfl, k2⟩
    · rw [h1] at k1; cases k1
    · rw [h1] at k1; cases k1
      obtain ⟨f1, f2, f3⟩ := getS_facts h256 h1
      have hsz := hb.size
      have hlen : (optL g l L).length = L.length := by simp [optL]
      have hopt : ∀ x ∈ optL g l L, Bs w2 w2.heap.size x.adr x.cap x.data ∧ x.data.length ≤ 1000000000 := by
        intro x hx
        simp only [optL, List.mem_map] at hx
        obtain ⟨y, hy, rfl⟩ := hx
        have hy2 := f2 y hy
        obtain ⟨r1, cur, r2, r3, r4⟩ := h3 (by rintro rfl; simp at hy2; omega)
        have hd : ((l.drop y.2.1).take y.2.2).length = y.2.2 := by rw [List.length_take, List.length_drop]; omega
        refine ⟨⟨fun _ => ⟨g, y.2.1, rfl, lt_of_blk r2, fun j x hx => ?_⟩, by rw [hd]; exact Nat.le_refl _, (fun e => by cases e), by show y.2.2 ≤ maxLen; unfold maxLen; omega⟩, by show ((l.drop y.2.1).take y.2.2).length ≤ _; omega⟩
        have hj : j < y.2.2 := by have := (List.getElem?_eq_some_iff.1 hx).1; rw [hd] at this; exact this
        rw [List.getElem?_take_of_lt hj, List.getElem?_drop] at hx
        have h5 := row8_get hx
        have hlt := (List.getElem?_eq_some_iff.1 hx).1
        rw [← r4, List.getElem?_take_of_lt hlt, Array.getElem?_toList] at h5
        rw [cell_blk r2]
        exact h5
      refine ⟨rfl, ((opts_own h2 (fun x hx => (hopt x hx).1) (by omega)).below hb).mono hsz, opts_own k2.own (fun x hx => ?_) (by have := k2.many; omega), by rw [optL_kd, k2.kds], fun x hx => (hopt x hx).2, by omega, by rw [hlen]; exact k2.len⟩
      obtain ⟨A9, c9, e9, b9, _⟩ := Bs.own (k2.each x hx)
      cases e9
      exact b9
theorem GF.spans {l : List Nat} {w1 w2 w : World} {A : Option Addr} {Lo : List Opt} {ee : Int} {gt kb : Nat} (h : GF l w1 w2 A Lo ee) (hb : Below w2.heap.size w2 w) (ht : w.heap[gt]? = some (.cells (row8 (twinL l 199)).toArray 5 (0, 0))) (hgt : gt < w1.heap.size)
    (h256 : ∀ x ∈ l, x < 256) (hl : l.length ≤ 5000) (hkb : w.heap.size ≤ kb) :
    (∀ x ∈ (⟨some ⟨gt, 0, none⟩, l.length, l.length + 4⟩ : Span) :: Lo.map spanOf, SpanIn gt kb w x) ∧ List.Pairwise apart2 ((⟨some ⟨gt, 0, none⟩, l.length, l.length + 4⟩ : Span) :: Lo.map spanOf) := by
  rcases h with ⟨h1, rfl, rfl⟩ | ⟨L, g, cg, kk, h1, rfl, rfl, h2, h3⟩
  · refine ⟨fun x hx => ?_, by simp⟩
    rw [List.map_nil, List.mem_singleton] at hx
    subst hx
    exact twin_span ht hl hkb
  · refine get_spans (c := cg) ht (fun hne => ?_) h256 h1 hl hkb
    obtain ⟨r1, cur, r2, r3, r4⟩ := h3 hne
    exact ⟨by omega, cur, (hb.block g (lt_of_blk r2)).trans r2, r3, r4⟩
end Go.Proofs.YtfolamkjlgpgmaaDoor
