/- An option of a prefix: the program's walk. No condition. -/
import Derived.Test.YtfolamkjlgpgmaaGreatDoorMade
namespace Go.Proofs.YtfolamkjlgpgmaaGreatDoor
open Go.RowKit
set_option linter.unusedVariables false
set_option linter.unusedSimpArgs false
/-- a prefix's flags, its bytes -/
def flagO (on auto : Bool) : Nat := (if on then 128 else 0) + (if auto then 64 else 0)
def adr16 (x : Nat → Nat) : List Nat := [x 0, x 1, x 2, x 3, x 4, x 5, x 6, x 7, x 8, x 9, x 10, x 11, x 12, x 13, x 14, x 15]
def infoB (x : Nat → Nat) (bits v p F : Nat) : List Nat := [bits, F] ++ be4 v ++ be4 p ++ be4 0 ++ adr16 x
theorem four_new (w : World) (a b c d : Obj) : Below w.heap.size w ((((w.alloc a).alloc b).alloc c).alloc d) ∧ ((((w.alloc a).alloc b).alloc c).alloc d).heap[w.heap.size]? = some a ∧ ((((w.alloc a).alloc b).alloc c).alloc d).heap[w.heap.size + 1]? = some b ∧
    ((((w.alloc a).alloc b).alloc c).alloc d).heap[w.heap.size + 1 + 1]? = some c ∧ ((((w.alloc a).alloc b).alloc c).alloc d).heap[w.heap.size + 1 + 1 + 1]? = some d ∧ ((((w.alloc a).alloc b).alloc c).alloc d).heap.size = w.heap.size + 1 + 1 + 1 + 1 := by
  obtain ⟨h1, h2, h3⟩ := two_new w a b
  obtain ⟨k1, k2, k3⟩ := two_new ((w.alloc a).alloc b) c d
  have hs : ((w.alloc a).alloc b).heap.size = w.heap.size + 1 + 1 := by simp
  refine ⟨h1.trans (k1.mono h1.size), (k1.block _ (lt_of_blk h2)).trans h2, (k1.block _ (lt_of_blk h3)).trans h3, ?_, ?_, by simp⟩
  · rw [hs] at k2; exact k2
  · rw [hs] at k3; exact k3
/-- while the numbers are put -/
structure IB (B : Nat) (W wr : World) (v : Value) (l : List Nat) : Prop where
  own : OwnC wr B v l
  below : Below W.heap.size W wr
  low : B ≤ wr.heap.size
theorem IB.put {B : Nat} {W wr w9 : World} {v : Value} {l bs : List Nat} {A : Option Addr} {c k : Nat} (h : IB B W wr v l) (h1 : c = bs.length) (h2 : c ≤ k) (h3 : w9.ownsRow wr.heap.size 5 1 (.slice A bs.length k) bs.length (row8 bs)) (h4 : Below wr.heap.size wr w9) : IB wr.heap.size W w9 (.slice A bs.length c) bs :=
  ⟨⟨A, c, k, rfl, .inr h1, by omega, h2, h3⟩, h.below.trans (h4.mono h.below.size), h4.size⟩
end Go.Proofs.YtfolamkjlgpgmaaGreatDoor
