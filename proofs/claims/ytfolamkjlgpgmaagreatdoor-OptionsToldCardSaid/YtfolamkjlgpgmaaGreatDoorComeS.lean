/- What comes in: the shell's lemmas, and the laid variables' list. No condition. -/
import Derived.Test.YtfolamkjlgpgmaaGreatDoorCome
import Derived.ChangeMaps5
import Derived.MakeChecks
import Derived.LaidMore
import Derived.Lay
namespace Go.Proofs.YtfolamkjlgpgmaaGreatDoor
open Go.ChangeShapes Go.WideShapes
theorem reach_at {H : Type} {P : Program} {ts : List TypeId} {ds : List (DataW H)} (h : (DataW.weightsEach P ts ds).all (· ≤ reachBytes) = true) {j : Nat} {t : TypeId} {d : DataW H} (ht : ts[j]? = some t) (hd : ds[j]? = some d) : ∀ n ∈ d.weights P t, n ≤ reachBytes := fun n hn => by
  have := List.all_eq_true.1 h n (DataW.weights_mem_each ht hd n hn)
  simpa using this
theorem slice_at {P : Program} {W : World} {base : Nat} {ts : Array TypeId} {args : Array Value} (h : ∀ (j : Nat) t v, ts[j]? = some t → args[j]? = some v → Value.okWide P W .any base t v) (j : Nat) (t : TypeId) (v : Value) (h1 : ts[j]? = some t) (h2 : args[j]? = some v) {e : TypeId} (ht : P.underlying t = some (.slice e)) {A : Option Addr} {n c : Nat} (hv : v.cells.toList = [.slice A n c]) : v = .slice A n c :=
  slice_of ht (h j t v h1 h2) hv
theorem u16_in {H : Type} {enc : TypeId × Value → H} {P : Program} {W : World} {base : Nat} {ts : Array TypeId} {args : Array Value} (h : ∀ (j : Nat) t v, ts[j]? = some t → args[j]? = some v → Value.okWide P W .any base t v) (j : Nat) (t : TypeId) (v : Value) (h1 : ts[j]? = some t) (h2 : args[j]? = some v) (ht : P.underlying t = some (.int .u16)) {held : Bool} {d : DataW H} {p : List MemPlace} (hd : DataW.Trod enc P W 0 (fun _ => true) held t v d p) : ∃ n : Nat, v = .int .u16 (n : Int) ∧ n < 65536 := by
  obtain ⟨n, rfl, -, -, hw⟩ := open_int ht (h j t v h1 h2) hd
  obtain ⟨m, rfl, hm⟩ := nat_of (u16b _ hw)
  exact ⟨m, rfl, hm⟩
def laidL : List (String × DataW Unit) := [("unicode/utf8.acceptRanges", Rows.laid_unicode_utf8_acceptRanges), ("unicode/utf8.first", Rows.laid_unicode_utf8_first)]
theorem agg_of {v : Value} {cs : List Value} (h : v.cells.toList = cs) (hn : 1 < cs.length) : v = .agg cs.toArray := by
  subst h
  cases v with
  | agg xs => simp [Value.cells]
  | _ => simp [Value.cells] at hn
variable {H : Type} {enc : TypeId × Value → H} {w : World}
end Go.Proofs.YtfolamkjlgpgmaaGreatDoor
