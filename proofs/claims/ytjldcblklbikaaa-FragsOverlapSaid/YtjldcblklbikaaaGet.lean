/- Bytes read as options: the walk. No condition but that the bytes fit a machine. -/
import Derived.Test.YtjldcblklbikaaaRows8
import Derived.Test.YtjldcblklbikaaaGetPQ
namespace Go.Proofs.Ytjldcblklbikaaa
open Go.RowKit
set_option linter.unusedVariables false
set_option linter.unusedSimpArgs false
/-- options as values: of each its kind, its data in block g -/
def rowO (g : Nat) (L : List (Nat × Nat × Nat)) : List Value := L.flatMap fun x => [.int .u8 (x.1 : Int), .slice (some ⟨g, x.2.1, none⟩) x.2.2 x.2.2]
theorem rowO_length (g : Nat) (L : List (Nat × Nat × Nat)) : (rowO g L).length = 2 * L.length := by
  induction L with
  | nil => rfl
  | cons x L ih => simp only [rowO, List.flatMap_cons, List.length_append, List.length_cons, List.length_nil] at ih ⊢; omega
theorem Turned.grown {b : Nat} {o : Obj} {w w' : World} (h : Turned b o w w') : w.grownBy w' (some b) := ⟨h.os, h.tape, h.output, by rw [h.size]; exact Nat.le_refl _, fun k _ hk => h.other (fun e => hk (by rw [e]))⟩
/-- how many bytes a cutter has left -/
def leftN (W : World) (p : Nat) : Nat := match W.heap[p]? with
  | some (.cells cs _ _) => match cs[0]? with
    | some (Value.slice _ n _) => n
    | _ => 0
  | _ => 0
theorem rowO_snoc (g : Nat) (L : List (Nat × Nat × Nat)) (x : Nat × Nat × Nat) : rowO g (L ++ [x]) = rowO g L ++ [.int .u8 (x.1 : Int), .slice (some ⟨g, x.2.1, none⟩) x.2.2 x.2.2] := by simp [rowO]
theorem nextO_short {bs : List Nat} {pos : Nat} (h : ¬ pos + 1 < bs.length) : nextO bs pos = none := by unfold nextO; rw [if_neg (fun x => h x.1)]
theorem nextO_zero {bs : List Nat} {pos : Nat} (h : bs[pos + 1]? = some 0) : nextO bs pos = none := by
  unfold nextO; rw [if_neg]; rw [List.getD_eq_getElem?_getD, h]; simp
theorem nextO_far {bs : List Nat} {pos m : Nat} (h : bs[pos + 1]? = some m) (hf : ¬ pos + 8 * m ≤ bs.length) : nextO bs pos = none := by
  unfold nextO; rw [if_neg]; rw [List.getD_eq_getElem?_getD, h]; simp only [Option.getD_some]; omega
theorem nextO_some {bs : List Nat} {pos kd m : Nat} (hk : bs[pos]? = some kd) (h : bs[pos + 1]? = some m) (h0 : m ≠ 0) (hf : pos + 8 * m ≤ bs.length) : nextO bs pos = some (kd, 8 * m) := by
  have := (List.getElem?_eq_some_iff.1 h).1
  unfold nextO
  rw [List.getD_eq_getElem?_getD, List.getD_eq_getElem?_getD, h, hk, if_pos]
  · rfl
  · simp only [Option.getD_some]; omega
theorem own_slice2 {w : World} {base e size n : Nat} {v : Value} {xs : List Value} (h : w.ownsRow base e size v n xs) : ∃ q c, v = .slice q n c ∧ n ≤ c := by
  rcases h.2 with ⟨rfl, rfl⟩ | ⟨g, cap, cur, rfl, hb, hg, hn, _⟩
  · exact ⟨none, 0, rfl, Nat.le_refl _⟩
  · exact ⟨_, cap, rfl, hn⟩
end Go.Proofs.Ytjldcblklbikaaa
