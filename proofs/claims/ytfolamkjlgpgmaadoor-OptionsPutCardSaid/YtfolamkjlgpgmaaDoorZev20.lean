/- How what is taken for granted of symbols is shown. No condition. -/
import Derived.Test.YtfolamkjlgpgmaaDoorZev19
namespace Go.Proofs.YtfolamkjlgpgmaaDoorZev
open Go.RowKit
set_option linter.unusedVariables false
set_option linter.unusedSectionVars false
variable [Sym] [Kin] [Glob] {P : Program}

theorem obsNil : ∀ p ∈ ([] : List Ob), p.Holds P := fun p h => by cases h
theorem obsCons {p : Ob} {l : List Ob} (h : p.Holds P) (k : ∀ q ∈ l, q.Holds P) : ∀ q ∈ p :: l, q.Holds P := fun q hq => by
  rcases List.mem_cons.1 hq with rfl | hq
  · exact h
  · exact k q hq
theorem holds_bin {op : BinOp} {t : TypeId} {x y : Value} {i : Nat} (p1 : plainV (realV x) = true) (p2 : plainV (realV y) = true) (p3 : (Sym.val i).oneCell' = true)
    (h : binOp op t (realV x) (realV y) = pure (Sym.val i)) : Ob.Holds P (.bin op t x y i) := ⟨p1, p2, p3, fun w => by rw [h]; rfl⟩
theorem holds_un {op : UnOp} {x : Value} {i : Nat} (p3 : (Sym.val i).oneCell' = true) (h : Op.unary op (realV x) = pure (Sym.val i)) : Ob.Holds P (.un op x i) := ⟨p3, fun w => by rw [h]; rfl⟩
theorem holds_conv {s d : TypeId} {x : Value} {i : Nat} {k k0 : IntKind} {n : Int} {ds : TypeDesc} (hs : P.underlying s = some ds) (hd : P.underlying d = some (.int k)) (hx : realV x = .int k0 n) (hi : Sym.val i = .int k (k.wrap n)) : Ob.Holds P (.conv s d x i) := by
  refine ⟨by rw [hi]; rfl, fun w => ?_⟩
  rw [hx, hi]
  unfold convert
  simp [run_underlying hs, run_underlying hd, Conv.intToInt]
theorem holds_len {t ty e : TypeId} {fixed : Array Bool} {x : Value} {i : Nat} {o : Option Addr} {n c : Nat} (ht : P.underlying t = some (.slice e)) (hx : realV x = .slice o n c) (hi : Sym.val i = goInt n) : Ob.Holds P (.built .len #[t] ty fixed [x] i) := by
  refine ⟨by rw [hi]; rfl, fun w => ?_⟩
  rw [hi]
  simp only [List.map_cons, List.map_nil, hx, builtin]
  have h0 : (#[t] : Array TypeId)[0]? = some t := rfl
  simp [Builtin.len_, run_underlying ht]
/-- a slice that may come in -/
theorem slice_is {v : Value} (h : CellIs .slice v) : ∃ o n c, v = .slice o n c ∧ n ≤ c := by
  rcases h with rfl | ⟨a, n, c, rfl, h⟩
  · exact ⟨none, 0, 0, rfl, Nat.le_refl _⟩
  · exact ⟨some a, n, c, rfl, h⟩
end Go.Proofs.YtfolamkjlgpgmaaDoorZev
