/- Options made one behind the other, apart in memory. No condition. -/
import Derived.Test.YtfolamkjlgpgmaaDoorLong
import Derived.Test.YtfolamkjlgpgmaaDoorDom4
import Derived.Test.YtfolamkjlgpgmaaDoorInfoR
import Derived.Test.YtfolamkjlgpgmaaDoorLeftO
import Derived.Deep.MidRow
namespace Go.Proofs.YtfolamkjlgpgmaaDoor
open Go.RowKit
set_option linter.unusedVariables false
set_option linter.unusedSimpArgs false
theorem mid_at {W : World} {b ty : Nat} {z : Nat × Nat} (l r s : List Value) (h : W.heap[b]? = some (.cells (List.toArray (l ++ (r ++ s))) ty z)) : W.rangeAt b l.length r := by
  intro j v hv
  rw [cell_blk h, List.getElem?_toArray, List.getElem?_append_right (Nat.le_add_right _ _), Nat.add_sub_cancel_left, List.getElem?_append_left (List.getElem?_eq_some_iff.1 hv).1]
  exact hv
theorem size56 : (Tryd.prog.info? 56).map (·.size) = some 21 := by kernel_rfl
theorem size49 : (Tryd.prog.info? 49).map (·.size) = some 6 := by kernel_rfl
theorem size48 : (Tryd.prog.info? 48).map (·.size) = some 6 := by kernel_rfl
/-- the piece of a body at a path -/
def codeAt : List Nat → Code → Code
  | [], c => c
  | 0 :: p, .seq a _ => codeAt p a
  | 1 :: p, .seq _ b => codeAt p b
  | 0 :: p, .cond _ a _ => codeAt p a
  | 1 :: p, .cond _ _ b => codeAt p b
  | 0 :: p, .block _ c => codeAt p c
  | 0 :: p, .loop c => codeAt p c
  | 0 :: p, .scope c => codeAt p c
  | _, c => c
structure Acc (w0 W : World) (T : List Opt) : Prop where
  each : ∀ x ∈ T, Bs W W.heap.size x.adr x.cap x.data
  span : ∀ x ∈ T, SpanIn w0.heap.size W.heap.size W (spanOf x)
  apart : (T.map spanOf).Pairwise apart2
  below : Below w0.heap.size w0 W
theorem Acc.nil (w : World) : Acc w w [] := ⟨by simp, by simp, by simp, Below.refl _ _⟩
theorem Acc.step {w0 W W' : World} {T : List Opt} (h : Acc w0 W T) (hb : Below W.heap.size W W') : Acc w0 W' T :=
  ⟨fun x hx => ((h.each x hx).below hb).mono hb.size, fun x hx => ((h.span x hx).below hb (Nat.le_refl _)).mono hb.size, h.apart, h.below.trans (hb.mono h.below.size)⟩
theorem bs_cap {w : World} {B c k : Nat} {A : Option Addr} {l : List Nat} (h : Bs w B A k l) (h1 : l.length ≤ c) (h2 : c ≤ k) : Bs w B A c l :=
  ⟨h.rd, h1, fun e => ⟨(h.nil e).1, by have := (h.nil e).2; omega⟩, by have := h.max; omega⟩
theorem own_bs0 {w : World} {base c : Nat} {A : Option Addr} {l : List Nat} (h : w.ownsRow base 5 1 (.slice A l.length c) l.length (row8 l)) : Bs w w.heap.size A c l := by
  obtain ⟨A2, c2, e, h2, _⟩ := Bs.own h
  cases e
  exact h2
theorem Acc.made {w0 W W' : World} {T : List Opt} {kd : Nat} {bs : List Nat} {e : Ending} (h : Acc w0 W T) (hm : MadePost kd bs W e W') :
    ∃ A c n, e = .returned (.agg #[.int .u8 (kd : Int), .slice A n c]) ∧ bs.length = n ∧ Acc w0 W' (T ++ [⟨kd, A, c, bs⟩]) ∧ Below W.heap.size W W' := by
  obtain ⟨A, c, k, rfl, h1, h2, ho, hb⟩ := hm
  have hs : SpanIn W.heap.size W'.heap.size W' ⟨A, bs.length, c⟩ := own_span2 ho h1 h2 (Nat.le_refl _)
  have k0 := h.step hb
  refine ⟨A, c, _, rfl, rfl, ⟨fun x hx => ?_, fun x hx => ?_, ?_, k0.below⟩, hb⟩
  · rcases List.mem_append.1 hx with hx | hx
    · exact k0.each x hx
    · rw [List.mem_singleton] at hx; subst hx
      exact bs_cap (own_bs0 ho) h1 h2
  · rcases List.mem_append.1 hx with hx | hx
    · exact k0.span x hx
    · rw [List.mem_singleton] at hx; subst hx
      exact hs.low h.below.size
  · rw [List.map_append, List.pairwise_append]
    refine ⟨h.apart, by simp, fun x hx y hy => ?_⟩
    simp only [List.map_cons, List.map_nil, List.mem_singleton] at hy
    subst hy
    obtain ⟨z, hz, rfl⟩ := List.mem_map.1 hx
    exact apart_hi (h.span z hz) hs (Nat.le_refl _)
/-- a row of options made -/
def MadeRow (w0 W : World) (D : List (Nat × List Nat)) (v : Value) : Prop := ∃ (T : List Opt) (g : Nat), v = .slice (some ⟨g, 0, none⟩) 7 7 ∧ T.length = 7 ∧ kdO T = D ∧ OptsRd W W.heap.size (some ⟨g, 0, none⟩) T ∧ (∀ x ∈ T, SpanIn w0.heap.size W.heap.size W (spanOf x)) ∧ (T.map spanOf).Pairwise apart2 ∧ Below w0.heap.size w0 W
theorem Acc.row {w0 W : World} {T : List Opt} (h : Acc w0 W T) (hT : T.length = 7) : MadeRow w0 (W.alloc (.cells (rowV T).toArray 41)) (kdO T) (.slice (some ⟨W.heap.size, 0, none⟩) 7 7) := by
  have hb : Below W.heap.size W (W.alloc (.cells (rowV T).toArray 41)) := (Below.refl _ _).alloc (Nat.le_refl _) _
  have k0 := h.step hb
  have hr := heap_alloc_new W (.cells (rowV T).toArray 41)
  refine ⟨T, W.heap.size, rfl, hT, rfl, ⟨fun _ => ⟨W.heap.size, 0, rfl, lt_of_blk hr, fun i x hx => ?_⟩, k0.each, by omega⟩, k0.span, k0.apart, k0.below⟩
  obtain ⟨r1, r2⟩ := rowV_get hx
  rw [Nat.zero_add, cell_blk hr, cell_blk hr, List.getElem?_toArray, List.getElem?_toArray]
  exact ⟨r1, r2⟩
/-- what the kinds of options are made of -/
def madeD (kd bits v p n : Nat) (m x q : Nat → Nat) (on auto : Bool) (B : List Nat) (S : List (Nat → Nat)) (D : List ByteArray) : List (Nat × List Nat) :=
  [(kd, [m 0, m 1, m 2, m 3, m 4, m 5]), (3, infoB x bits v p (flagO on auto)), (4, List.replicate 6 0 ++ B), (5, [0, 0] ++ be4 n), (14, [q 0, q 1, q 2, q 3, q 4, q 5]), (25, servB n S), (31, domsB n D)]
end Go.Proofs.YtfolamkjlgpgmaaDoor
