/- Rows of bytes: read, and of one's own. No condition. -/
import Derived.Test.YtfolamkjlgpgmaaDoorProg
import Derived.Test.YtfolamkjlgpgmaaDoorBase
import Derived.Test.YtfolamkjlgpgmaaDoorReads
import Derived.WalkKit
import Derived.WalkSpells
import Derived.WalkLawsBesides
import Derived.Deep.QuietTactic
import Derived.BigQuiet
import Derived.RegionTactic
import Derived.Deep.RegionWith
import Derived.Deep.RegionHeld3
import Derived.Deep.DeepCutAuto
import Derived.Laws.AppendOwn
import Derived.Laws.AppendOwnNone
import Derived.Outline
import Derived.Lib.Hide
namespace Go.Proofs.YtfolamkjlgpgmaaDoor
open Go.RowKit
set_option linter.unusedVariables false
theorem Turned.setRow {w : World} {b : Nat} {c : Array Value} {t : TypeId} {z : Nat × Nat} (h : w.heap[b]? = some (.cells c t z)) (cs : Array Value) : Turned b (.cells cs t z) w (w.setRow b cs) := by
  refine ⟨?_, rfl, rfl, rfl⟩
  have hb := lt_of_blk h
  apply Array.ext_getElem?
  intro k
  simp only [World.setRow, Array.getElem?_modify, Array.getElem?_setIfInBounds]
  by_cases hk : b = k
  · subst hk; rw [if_pos rfl, if_pos rfl, h]; simp [hb]
  · simp [hk]
theorem i64_small {m : Nat} (h : m < 9223372036854775808) : IntKind.i64.wrap (m : Int) = (m : Int) := by
  simp [IntKind.wrap, IntKind.signed, IntKind.bits]; omega
theorem u64_small {m : Nat} (h : m < 18446744073709551616) : IntKind.u64.wrap (m : Int) = (m : Int) := by
  simp [IntKind.wrap, IntKind.signed, IntKind.bits]; omega
theorem u8_small {m : Nat} (h : m < 256) : IntKind.u8.wrap (m : Int) = (m : Int) := by
  simp [IntKind.wrap, IntKind.signed, IntKind.bits]; omega
/-- bytes as values -/
def row8 (l : List Nat) : List Value := l.map fun (x : Nat) => .int .u8 (x : Int)
theorem row8_length (l : List Nat) : (row8 l).length = l.length := by simp [row8]
theorem row8_one (l : List Nat) : ∀ v ∈ row8 l, v.oneCell' = true := by
  intro v hv
  simp only [row8, List.mem_map] at hv
  obtain ⟨i, _, rfl⟩ := hv
  rfl
theorem row8_get {l : List Nat} {k x : Nat} (h : l[k]? = some x) : (row8 l)[k]? = some (.int .u8 (x : Int)) := by simp [row8, h]
theorem row8_inv {l : List Nat} {k : Nat} {v : Value} (h : (row8 l)[k]? = some v) : ∃ x, l[k]? = some x ∧ v = .int .u8 (x : Int) := by
  simp only [row8, List.getElem?_map] at h
  cases hx : l[k]? with
  | none => rw [hx] at h; cases h
  | some x => rw [hx] at h; cases h; exact ⟨x, rfl, rfl⟩
theorem row8_append (a b : List Nat) : row8 (a ++ b) = row8 a ++ row8 b := by simp [row8]
/-- a slice at A reads as these bytes, below block B -/
def RdL (w : World) (B : Nat) (A : Option Addr) (l : List Nat) : Prop :=
  l ≠ [] → ∃ b o, A = some ⟨b, o, none⟩ ∧ b < B ∧ ∀ k x : Nat, l[k]? = some x → w.cell? ⟨b, o + k, none⟩ = some (.int .u8 (x : Int))
theorem RdL.below {w w' : World} {B : Nat} {A : Option Addr} {l : List Nat} (h : RdL w B A l) (hb : Below B w w') : RdL w' B A l := fun hl => by
  obtain ⟨b, o, e, hlt, hc⟩ := h hl
  exact ⟨b, o, e, hlt, fun k x hx => (hb.cell (p := ⟨b, o + k, none⟩) hlt).trans (hc k x hx)⟩
theorem RdL.mono {w : World} {B C : Nat} {A : Option Addr} {l : List Nat} (h : RdL w B A l) (hB : B ≤ C) : RdL w C A l := fun hl => by
  obtain ⟨b, o, e, hlt, hc⟩ := h hl
  exact ⟨b, o, e, by omega, hc⟩
theorem RdL.nil {w : World} {B : Nat} {A : Option Addr} : RdL w B A [] := fun h => absurd rfl h
/-- what owns a row reads as it -/
theorem own_reads {w : World} {base : Nat} {v : Value} {l : List Nat} (h : w.ownsRow base 5 1 v l.length (row8 l)) : ∃ A c, v = .slice A l.length c ∧ l.length ≤ c ∧ c ≤ maxLen ∧ RdL w w.heap.size A l ∧ (A = none ∨ ∃ g, A = some ⟨g, 0, none⟩ ∧ base ≤ g ∧ g < w.heap.size) := by
  rcases h.2 with ⟨rfl, hl⟩ | ⟨g, cap, cur, rfl, hb, hg, hn, hm, hs, ht⟩
  · refine ⟨none, 0, by rw [hl], by omega, by unfold maxLen; omega, fun h => absurd (List.eq_nil_of_length_eq_zero hl) h, .inl rfl⟩
  · refine ⟨some ⟨g, 0, none⟩, cap, rfl, hn, hm, fun _ => ⟨g, 0, rfl, lt_of_blk hg, fun k x hx => ?_⟩, .inr ⟨g, rfl, hb, lt_of_blk hg⟩⟩
    have h1 := row8_get hx
    have hk : k < l.length := (List.getElem?_eq_some_iff.1 hx).1
    rw [← ht, List.getElem?_take_of_lt (by omega)] at h1
    rw [Nat.zero_add, cell_blk hg]
    simpa using h1
theorem info5 : (Tryd.prog.info? 5).map (fun i => (i.zero, i.size, i.bytes)) = some (some (.int .u8 0), 1, 1) := by kernel_rfl
theorem own_below {w w' : World} {base e size n : Nat} {v : Value} {xs : List Value} (h : w.ownsRow base e size v n xs) (hb : Below w.heap.size w w') : w'.ownsRow base e size v n xs :=
  h.kept (row := none) ⟨hb.os, hb.tape, hb.output, hb.size, fun k hk _ => hb.block k hk⟩ (by cases v.ownBlock <;> simp)
theorem own_mono {w : World} {B C e size n : Nat} {v : Value} {xs : List Value} (h : w.ownsRow C e size v n xs) (hB : B ≤ C) : w.ownsRow B e size v n xs := by
  refine ⟨h.1, ?_⟩
  rcases h.2 with h1 | ⟨g, cap, cur, h1, h2, h3⟩
  · exact .inl h1
  · exact .inr ⟨g, cap, cur, h1, by omega, h3⟩
theorem Below.grown' {B : Nat} {w wr w' : World} {row : Option Nat} (h : Below B w wr) (hg : wr.grownBy w' row) (hB : B ≤ wr.heap.size) (hr : ∀ k, row = some k → B ≤ k) : Below B w w' := by
  refine h.trans ⟨hg.os, hg.tape, hg.output, hg.size, fun k hk => hg.block k (by omega) (fun e => ?_)⟩
  have := hr k e.symm
  omega
end Go.Proofs.YtfolamkjlgpgmaaDoor
