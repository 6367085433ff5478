/- What comes in: a byte. No condition. -/
import Derived.Test.YtfolamkjlgpgmaaDoorComeS
namespace Go.Proofs.YtfolamkjlgpgmaaDoor
open Go.ChangeShapes Go.WideShapes
theorem u8_in {H : Type} {enc : TypeId × Value → H} {P : Program} {W : World} {base : Nat} {ts : Array TypeId} {args : Array Value} (h : ∀ (j : Nat) t v, ts[j]? = some t → args[j]? = some v → Value.okWide P W .any base t v) (j : Nat) (t : TypeId) (v : Value) (h1 : ts[j]? = some t) (h2 : args[j]? = some v) (ht : P.underlying t = some (.int .u8)) {held : Bool} {d : DataW H} {p : List MemPlace} (hd : DataW.Trod enc P W 0 (fun _ => true) held t v d p) : ∃ n : Nat, v = .int .u8 (n : Int) ∧ n < 256 := by
  obtain ⟨n, rfl, -, -, hw⟩ := open_int ht (h j t v h1 h2) hd
  obtain ⟨m, rfl, hm⟩ := nat_of (u8b _ hw)
  exact ⟨m, rfl, hm⟩
end Go.Proofs.YtfolamkjlgpgmaaDoor
