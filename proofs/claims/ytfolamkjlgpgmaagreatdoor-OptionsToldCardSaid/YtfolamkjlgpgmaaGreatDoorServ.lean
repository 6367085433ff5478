/- An option of servers: the walks, the program's and the document's. No condition but that they are few. -/
import Derived.Test.YtfolamkjlgpgmaaGreatDoorInfo
namespace Go.Proofs.YtfolamkjlgpgmaaGreatDoor
open Go.RowKit
set_option linter.unusedVariables false
set_option linter.unusedSimpArgs false
/-- a slice at A reads as these addresses, below block B -/
structure AdrsAt (w : World) (B : Nat) (A : Option Addr) (L : List (Nat → Nat)) : Prop where
  at_ : L ≠ [] → ∃ b o, A = some ⟨b, o, none⟩ ∧ b < B ∧ ∀ i y, L[i]? = some y → ∀ j, j < 16 → w.cell? ⟨b, o + i * 16 + j, none⟩ = some (.int .u8 (y j : Int))
  many : L.length ≤ 1000000
theorem AdrsAt.below {w w' : World} {B : Nat} {A : Option Addr} {L : List (Nat → Nat)} (h : AdrsAt w B A L) (hb : Below B w w') : AdrsAt w' B A L := by
  refine ⟨fun hl => ?_, h.many⟩
  obtain ⟨b, o, e, hlt, hc⟩ := h.at_ hl
  exact ⟨b, o, e, hlt, fun i y hy j hj => (hb.cell (p := ⟨b, o + i * 16 + j, none⟩) hlt).trans (hc i y hy j hj)⟩
theorem AdrsAt.mono {w : World} {B C : Nat} {A : Option Addr} {L : List (Nat → Nat)} (h : AdrsAt w B A L) (hB : B ≤ C) : AdrsAt w C A L := by
  refine ⟨fun hl => ?_, h.many⟩
  obtain ⟨b, o, e, hlt, hc⟩ := h.at_ hl
  exact ⟨b, o, e, by omega, hc⟩
def adrsB (L : List (Nat → Nat)) : List Nat := L.flatMap adr16
theorem adrsB_succ {L : List (Nat → Nat)} {k : Nat} {y : Nat → Nat} (h : L[k]? = some y) : adrsB (L.take (k + 1)) = adrsB (L.take k) ++ adr16 y := by
  unfold adrsB
  rw [List.take_add_one, h]
  simp
theorem adrsB_length (L : List (Nat → Nat)) : (adrsB L).length = L.length * 16 := by
  induction L with
  | nil => rfl
  | cons y L ih => 
    have e : adrsB (y :: L) = adr16 y ++ adrsB L := by simp [adrsB]
    have e16 : (adr16 y).length = 16 := rfl
    rw [e, List.length_append, ih, e16, List.length_cons]; omega
/-- what servers' option has -/
def servB (n : Nat) (L : List (Nat → Nat)) : List Nat := [0, 0] ++ be4 n ++ adrsB L
theorem servB_succ {n : Nat} {L : List (Nat → Nat)} {k : Nat} {y : Nat → Nat} (h : L[k]? = some y) : servB n (L.take (k + 1)) = servB n (L.take k) ++ adr16 y := by
  unfold servB
  rw [adrsB_succ h]
  simp only [List.append_assoc]
theorem servB_length (n : Nat) (L : List (Nat → Nat)) : (servB n L).length = 6 + L.length * 16 := by
  unfold servB
  rw [List.length_append, adrsB_length]
  rfl
end Go.Proofs.YtfolamkjlgpgmaaGreatDoor
