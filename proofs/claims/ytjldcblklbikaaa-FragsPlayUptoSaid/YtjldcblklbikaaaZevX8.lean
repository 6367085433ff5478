/- Several texts in one: Zev19. No condition beyond those that each part names. -/
import Derived.Test.YtjldcblklbikaaaZevX7
/- What a value of one cell that may come in looks like; that values may come in, kept shut. No condition. -/
section
namespace Go.Proofs.YtjldcblklbikaaaZev
open Go.RowKit
set_option linter.unusedVariables false

theorem val_ok {P : Program} {w : World} {r : Reach} {base : Nat} {t : TypeId} {d : Lf} {v : Value} (hd : lfOf (P.underlying t) = some d) (h : Value.okWide P w r base t v) : CellIs d v := by
  unfold Value.okWide at h
  split at h
  · rename_i e; rw [e] at hd; cases hd
  · rename_i e; rw [e] at hd; cases hd
  · exact leaf_ok hd h

/-- a value may come in (shut, that no program be looked through) -/
@[irreducible] def MayCome (P : Program) (w : World) (r : Reach) (base : Nat) (t : TypeId) (v : Value) : Prop := Value.okWide P w r base t v
theorem MayCome.out {P : Program} {w : World} {r : Reach} {base : Nat} {t : TypeId} {v : Value} (h : MayCome P w r base t v) : Value.okWide P w r base t v := by
  unfold MayCome at h; exact h
theorem MayCome.hide {P : Program} {w : World} {r : Reach} {base : Nat} {ts : Array TypeId} {vs : Array Value} (h : ∀ (j : Nat) t v, ts[j]? = some t → vs[j]? = some v → Value.okWide P w r base t v) :
    ∀ (j : Nat) t v, ts[j]? = some t → vs[j]? = some v → MayCome P w r base t v := by
  intro j t v a b
  unfold MayCome
  exact h j t v a b
theorem row_come {P : Program} {w : World} {r : Reach} {base : Nat} {t : TypeId} {ds : List Lf} {v : Value} (hr : isRow P t = true) (hd : lfsOf P t = some ds) (hn : P.cellsOf t = ds.length) (h : MayCome P w r base t v) :
    ∃ cs : List Value, v = .agg cs.toArray ∧ CellsAre ds cs := row_ok hr hd hn h.out
theorem val_come {P : Program} {w : World} {r : Reach} {base : Nat} {t : TypeId} {d : Lf} {v : Value} (hd : lfOf (P.underlying t) = some d) (h : MayCome P w r base t v) : CellIs d v := val_ok hd h.out
end Go.Proofs.YtjldcblklbikaaaZev
end
