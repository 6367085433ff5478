/- Options made one behind the other: the pieces of a body; what holds of them. No condition. -/
import Derived.Test.YtfolamkjlgpgmabDoorMade
import Derived.Test.YtfolamkjlgpgmabDoorRefP
import Derived.Deep.MidRow
namespace Go.Proofs.YtfolamkjlgpgmabDoor
open Go.RowKit
set_option linter.unusedVariables false
set_option linter.unusedSimpArgs false
theorem mid_at {W : World} {b ty : Nat} {z : Nat × Nat} (l r s : List Value) (h : W.heap[b]? = some (.cells (List.toArray (l ++ (r ++ s))) ty z)) : W.rangeAt b l.length r := by
  intro j v hv
  rw [cell_blk h, List.getElem?_toArray, List.getElem?_append_right (Nat.le_add_right _ _), Nat.add_sub_cancel_left, List.getElem?_append_left (List.getElem?_eq_some_iff.1 hv).1]
  exact hv
theorem size56 : (Tryd.prog.info? 30).map (·.size) = some 21 := by kernel_rfl
theorem size49 : (Tryd.prog.info? 23).map (·.size) = some 6 := by kernel_rfl
theorem size48 : (Tryd.prog.info? 22).map (·.size) = some 6 := by kernel_rfl
/-- the piece of a body at a path -/
def codeAt : List Nat → Code → Code
  | [], c => c
  | 0 :: p, .seq a _ => codeAt p a
  | 1 :: p, .seq _ b => codeAt p b
  | 0 :: p, .cond _ a _ => codeAt p a
  | 1 :: p, .cond _ _ b => codeAt p b
  | 0 :: p, .block _ c => codeAt p c
  | 0 :: p, .loop c => codeAt p c
  | 0 :: p, .scope c => codeAt p c
  | _, c => c
theorem bs_cap {w : World} {B c k : Nat} {A : Option Addr} {l : List Nat} (h : Bs w B A k l) (h1 : l.length ≤ c) (h2 : c ≤ k) : Bs w B A c l :=
  ⟨h.rd, h1, fun e => ⟨(h.nil e).1, by have := (h.nil e).2; omega⟩, by have := h.max; omega⟩
theorem own_bs0 {w : World} {base c : Nat} {A : Option Addr} {l : List Nat} (h : w.ownsRow base 5 1 (.slice A l.length c) l.length (row8 l)) : Bs w w.heap.size A c l := by
  obtain ⟨A2, c2, e, h2, _⟩ := Bs.own h
  cases e
  exact h2
/-- options made, what they read -/
structure AccL (w0 W : World) (T : List Opt) : Prop where
  each : ∀ x ∈ T, Bs W W.heap.size x.adr x.cap x.data
  below : Below w0.heap.size w0 W
theorem AccL.nil (w : World) : AccL w w [] := ⟨by simp, Below.refl _ _⟩
theorem AccL.step {w0 W W' : World} {T : List Opt} (h : AccL w0 W T) (hb : Below W.heap.size W W') : AccL w0 W' T :=
  ⟨fun x hx => ((h.each x hx).below hb).mono hb.size, h.below.trans (hb.mono h.below.size)⟩
theorem AccL.made {w0 W W' : World} {T : List Opt} {kd : Nat} {bs : List Nat} {e : Ending} (h : AccL w0 W T) (hm : MadePost kd bs W e W') :
    ∃ A c n, e = .returned (.agg #[.int .u8 (kd : Int), .slice A n c]) ∧ bs.length = n ∧ AccL w0 W' (T ++ [⟨kd, A, c, bs⟩]) ∧ Below W.heap.size W W' := by
  obtain ⟨A, c, k, rfl, h1, h2, ho, hb⟩ := hm
  have k0 := h.step hb
  refine ⟨A, c, _, rfl, rfl, ⟨fun x hx => ?_, k0.below⟩, hb⟩
  rcases List.mem_append.1 hx with hx | hx
  · exact k0.each x hx
  · rw [List.mem_singleton] at hx; subst hx
    exact bs_cap (own_bs0 ho) h1 h2
end Go.Proofs.YtfolamkjlgpgmabDoor
