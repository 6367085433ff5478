/- Several texts in one: Base, Reads, Words, Cut, Take, Num, Of. No condition beyond those that each part names. -/
import Derived.WalkKit
import Derived.Deep.Draws
import Derived.OpenShut
import Derived.Test.YthbkjhacnnoolaaDoorProg
import Derived.WalkSpells
import Derived.WalkLawsBesides
import Derived.Deep.QuietTactic
import Derived.BigQuiet
import Derived.RegionTactic
import Derived.Deep.RegionWith
import Derived.Deep.RegionHeld3
import Derived.Deep.DeepCutAuto
import Derived.Laws.AppendOwn
import Derived.Laws.AppendOwnNone
import Derived.Outline
import Derived.Lib.Hide
import Derived.Laws.Bits64
/- Small laws on a world's blocks: what a whole block says of its cells, and a world in which one block has been turned. No condition. -/
namespace Go.Proofs.YthbkjhacnnoolaaDoor
open Go.RowKit

theorem cell_blk {w : World} {b : Nat} {c : Array Value} {t : TypeId} {z : Nat × Nat} (h : w.heap[b]? = some (.cells c t z)) (i : Nat) :
    w.cell? ⟨b, i, none⟩ = c[i]? := by
  simp [World.cell?, h]

theorem frozen_blk {w : World} {b : Nat} {c : Array Value} {t : TypeId} (h : w.heap[b]? = some (.cells c t (0, 0))) (i : Nat) :
    w.frozen? ⟨b, i, none⟩ = false := by
  simp [World.frozen?, h]

theorem setCell_blk {w : World} {b : Nat} {c : Array Value} {t : TypeId} {z : Nat × Nat} (h : w.heap[b]? = some (.cells c t z)) (i : Nat) (v : Value) :
    (w.setCell ⟨b, i, none⟩ v).heap = w.heap.setIfInBounds b (.cells (c.setIfInBounds i v) t z) := by
  have hb : b < w.heap.size := by
    rcases Nat.lt_or_ge b w.heap.size with h1 | h1
    · exact h1
    · rw [Array.getElem?_eq_none h1] at h; cases h
  apply Array.ext_getElem?
  intro k
  simp only [World.setCell, Array.getElem?_modify, Array.getElem?_setIfInBounds]
  by_cases hk : b = k
  · subst hk; rw [if_pos rfl, if_pos rfl, h]; simp [hb]
  · simp [hk]

/-- w' is w, its block b turned to o; what was drawn aside. -/
structure Turned (b : Nat) (o : Obj) (w w' : World) : Prop where
  heap : w'.heap = w.heap.setIfInBounds b o
  os : w'.os = w.os
  tape : w'.tape = w.tape
  output : w'.output = w.output

theorem Turned.refl {b : Nat} {o : Obj} {w : World} (h : w.heap[b]? = some o) : Turned b o w w := by
  refine ⟨?_, rfl, rfl, rfl⟩
  apply Array.ext_getElem?
  intro k
  rw [Array.getElem?_setIfInBounds]
  by_cases hk : b = k
  · subst hk
    have hb : b < w.heap.size := by
      rcases Nat.lt_or_ge b w.heap.size with h1 | h1
      · exact h1
      · rw [Array.getElem?_eq_none h1] at h; cases h
    rw [if_pos rfl, if_pos hb, h]
  · simp [hk]

theorem Turned.setCell {w : World} {b : Nat} {c : Array Value} {t : TypeId} {z : Nat × Nat} (h : w.heap[b]? = some (.cells c t z)) (i : Nat) (v : Value) :
    Turned b (.cells (c.setIfInBounds i v) t z) w (w.setCell ⟨b, i, none⟩ v) := ⟨setCell_blk h i v, rfl, rfl, rfl⟩

theorem Turned.trans {b : Nat} {o o' : Obj} {w w1 w2 : World} (h : Turned b o w w1) (k : Turned b o' w1 w2) : Turned b o' w w2 := by
  refine ⟨?_, k.os.trans h.os, k.tape.trans h.tape, k.output.trans h.output⟩
  rw [k.heap, h.heap]
  apply Array.ext_getElem?
  intro j
  simp only [Array.getElem?_setIfInBounds, Array.size_setIfInBounds]
  by_cases hj : b = j <;> simp [hj]

theorem Turned.size {b : Nat} {o : Obj} {w w' : World} (h : Turned b o w w') : w'.heap.size = w.heap.size := by rw [h.heap]; simp

theorem Turned.get {b : Nat} {o : Obj} {w w' : World} (h : Turned b o w w') (hb : b < w.heap.size) : w'.heap[b]? = some o := by
  rw [h.heap, Array.getElem?_setIfInBounds]; simp [hb]

theorem Turned.other {b : Nat} {o : Obj} {w w' : World} (h : Turned b o w w') {k : Nat} (hk : k ≠ b) : w'.heap[k]? = w.heap[k]? := by
  rw [h.heap, Array.getElem?_setIfInBounds, if_neg (fun e => hk e.symm)]

theorem Turned.drewN {b : Nat} {o : Obj} {w w' : World} (h : Turned b o w w') (n : Nat) : Turned b o w (w'.drewN n) := ⟨h.heap, h.os, h.tape, h.output⟩
theorem Turned.drew {b : Nat} {o : Obj} {w w' : World} (h : Turned b o w w') : Turned b o w w'.drew := ⟨h.heap, h.os, h.tape, h.output⟩
theorem Turned.of_drewN {b : Nat} {o : Obj} {w w' : World} {n : Nat} (h : Turned b o (w.drewN n) w') : Turned b o w w' := ⟨h.heap, h.os, h.tape, h.output⟩

theorem Turned.below {b : Nat} {o : Obj} {w w' : World} (h : Turned b o w w') {B : Nat} (hB : B ≤ b) : Below B w w' :=
  ⟨h.os, h.tape, h.output, by rw [h.size]; exact Nat.le_refl _, fun k hk => h.other (by omega)⟩

theorem lt_of_blk {w : World} {b : Nat} {o : Obj} (h : w.heap[b]? = some o) : b < w.heap.size := by
  rcases Nat.lt_or_ge b w.heap.size with h1 | h1
  · exact h1
  · rw [Array.getElem?_eq_none h1] at h; cases h

end Go.Proofs.YthbkjhacnnoolaaDoor

/- A slice that reads as a function of the place, nil let in. No condition. -/
namespace Go.Proofs.YthbkjhacnnoolaaDoor
open Go.RowKit Go.ChangeShapes Go.WideShapes

/-- The first n places of the slice at A hold f's values, below block number B. -/
def RdS (w : World) (B : Nat) (A : Option Addr) (n : Nat) (f : Nat → Value) : Prop :=
  0 < n → ∃ b off, A = some ⟨b, off, none⟩ ∧ b < B ∧ ∀ k, k < n → w.cell? ⟨b, off + k, none⟩ = some (f k)

theorem RdS.below {w w' : World} {B n : Nat} {A : Option Addr} {f : Nat → Value} (h : RdS w B A n f) (hb : Below B w w') : RdS w' B A n f := by
  intro hn
  obtain ⟨b, off, e, hlt, hc⟩ := h hn
  exact ⟨b, off, e, hlt, fun k hk => (hb.cell (p := ⟨b, off + k, none⟩) hlt).trans (hc k hk)⟩

/-- Behind the call w' holds o in a block b that w had not; what w had stands. -/
structure Made (b : Nat) (o : Obj) (w w' : World) : Prop where
  new : w.heap.size ≤ b
  get : w'.heap[b]? = some o
  below : Below w.heap.size w w'

theorem Made.other {b : Nat} {o x : Obj} {w w' : World} (h : Made b o w w') {k : Nat} (hk : w.heap[k]? = some x) : w'.heap[k]? = some x :=
  (h.below.block k (lt_of_blk hk)).trans hk
theorem Made.ne {b k : Nat} {o x : Obj} {w w' : World} (h : Made b o w w') (hk : w.heap[k]? = some x) : k ≠ b := by
  have := lt_of_blk hk; have := h.new; omega
theorem Turned.keep {b k : Nat} {o x : Obj} {w w' : World} (h : Turned b o w w') (hk : w.heap[k]? = some x) (hne : k ≠ b) : w'.heap[k]? = some x :=
  (h.other hne).trans hk

theorem lt_of_cell {w : World} {b i : Nat} {v : Value} (h : w.cell? ⟨b, i, none⟩ = some v) : b < w.heap.size := by
  rcases Nat.lt_or_ge b w.heap.size with h1 | h1
  · exact h1
  · simp [World.cell?, Array.getElem?_eq_none h1] at h

theorem RdS.of_ints {H : Type} {enc : TypeId × Value → H} {P : Program} {w : World} {base : Nat} {spare : Nat → Bool} {held : Bool} {t e : TypeId} {k : IntKind} {fuel : Nat} {a0 : Option Addr} {len cap : Nat} {x : DataW H × List MemPlace}
    (ht : P.underlying t = some (.slice e)) (he : P.underlying e = some (.int k)) (hc : P.cellsOf e = 1)
    (h : DataW.trod enc P w base spare held fuel t [.slice a0 len cap] = some x) :
    ∃ zs : Nat → Int, RdS w w.heap.size a0 len (fun i => .int k (zs i)) ∧ len ≤ maxLen ∧ ∀ i, i < len → (Lit.int k (zs i)).wf = true := by
  rcases open_ints ht he hc h with ⟨hcs, _⟩ | ⟨a, len', cap', zs, hcs, _, hl, hm, hz, _, hcell, hwz⟩
  · simp only [List.cons.injEq, Value.slice.injEq, and_true] at hcs
    obtain ⟨rfl, rfl, rfl⟩ := hcs
    exact ⟨fun _ => 0, fun h => absurd h (by omega), by unfold maxLen; omega, fun i hi => absurd hi (by omega)⟩
  · simp only [List.cons.injEq, Value.slice.injEq, and_true] at hcs
    obtain ⟨rfl, rfl, rfl⟩ := hcs
    have hzl : len ≤ zs.length := by rw [hz]; split <;> omega
    refine ⟨fun i => zs.getD i 0, fun hn => ?_, by omega, fun i hi => hwz _ ?_⟩
    · obtain ⟨b, off, rfl, hcc⟩ := ints_at hcell (by omega)
      exact ⟨b, off, rfl, lt_of_cell (hcc 0 (by omega)), fun j hj => hcc j (by omega)⟩
    · show zs.getD i 0 ∈ zs
      rw [List.getD_eq_getElem?_getD, List.getElem?_eq_getElem (by omega), Option.getD_some]
      exact List.getElem_mem _

theorem RdS.congr {w : World} {B n : Nat} {A : Option Addr} {f g : Nat → Value} (h : RdS w B A n f) (e : ∀ k, k < n → f k = g k) : RdS w B A n g := by
  intro hn
  obtain ⟨b, off, e1, hlt, hc⟩ := h hn
  exact ⟨b, off, e1, hlt, fun k hk => by rw [hc k hk, e k hk]⟩

/-- unsigned numbers as natural ones, bounded outright -/
theorem RdS.nat {w : World} {B n M : Nat} {A : Option Addr} {kd : IntKind} {zs : Nat → Int} (h : RdS w B A n (fun i => .int kd (zs i))) (hM : 0 < M) (hz : ∀ i, i < n → 0 ≤ zs i ∧ zs i < M) :
    ∃ ns : Nat → Nat, RdS w B A n (fun i => .int kd (ns i)) ∧ ∀ i, ns i < M := by
  refine ⟨fun i => if i < n then (zs i).toNat else 0, h.congr fun k hk => ?_, fun i => ?_⟩
  · have := hz k hk
    simp only [if_pos hk]
    rw [Int.toNat_of_nonneg this.1]
  · by_cases hi : i < n
    · have := hz i hi
      simp only [if_pos hi]; omega
    · simp only [if_neg hi]; exact hM
theorem nat_of {x : Int} {M : Nat} (h : 0 ≤ x ∧ x < M) : ∃ n : Nat, x = n ∧ n < M := ⟨x.toNat, by omega, by omega⟩
end Go.Proofs.YthbkjhacnnoolaaDoor

/- Rows of bytes: read, and of one's own. No condition. -/
namespace Go.Proofs.YthbkjhacnnoolaaDoor
open Go.RowKit
set_option linter.unusedVariables false
theorem Turned.setRow {w : World} {b : Nat} {c : Array Value} {t : TypeId} {z : Nat × Nat} (h : w.heap[b]? = some (.cells c t z)) (cs : Array Value) : Turned b (.cells cs t z) w (w.setRow b cs) := by
  refine ⟨?_, rfl, rfl, rfl⟩
  have hb := lt_of_blk h
  apply Array.ext_getElem?
  intro k
  simp only [World.setRow, Array.getElem?_modify, Array.getElem?_setIfInBounds]
  by_cases hk : b = k
  · subst hk; rw [if_pos rfl, if_pos rfl, h]; simp [hb]
  · simp [hk]
theorem i64_small {m : Nat} (h : m < 9223372036854775808) : IntKind.i64.wrap (m : Int) = (m : Int) := by
  simp [IntKind.wrap, IntKind.signed, IntKind.bits]; omega
theorem u64_small {m : Nat} (h : m < 18446744073709551616) : IntKind.u64.wrap (m : Int) = (m : Int) := by
  simp [IntKind.wrap, IntKind.signed, IntKind.bits]; omega
theorem u8_small {m : Nat} (h : m < 256) : IntKind.u8.wrap (m : Int) = (m : Int) := by
  simp [IntKind.wrap, IntKind.signed, IntKind.bits]; omega
/-- bytes as values -/
def row8 (l : List Nat) : List Value := l.map fun (x : Nat) => .int .u8 (x : Int)
theorem row8_length (l : List Nat) : (row8 l).length = l.length := by simp [row8]
theorem row8_one (l : List Nat) : ∀ v ∈ row8 l, v.oneCell' = true := by
  intro v hv
  simp only [row8, List.mem_map] at hv
  obtain ⟨i, _, rfl⟩ := hv
  rfl
theorem row8_get {l : List Nat} {k x : Nat} (h : l[k]? = some x) : (row8 l)[k]? = some (.int .u8 (x : Int)) := by simp [row8, h]
theorem row8_inv {l : List Nat} {k : Nat} {v : Value} (h : (row8 l)[k]? = some v) : ∃ x, l[k]? = some x ∧ v = .int .u8 (x : Int) := by
  simp only [row8, List.getElem?_map] at h
  cases hx : l[k]? with
  | none => rw [hx] at h; cases h
  | some x => rw [hx] at h; cases h; exact ⟨x, rfl, rfl⟩
theorem row8_append (a b : List Nat) : row8 (a ++ b) = row8 a ++ row8 b := by simp [row8]
/-- a slice at A reads as these bytes, below block B -/
def RdL (w : World) (B : Nat) (A : Option Addr) (l : List Nat) : Prop :=
  l ≠ [] → ∃ b o, A = some ⟨b, o, none⟩ ∧ b < B ∧ ∀ k x : Nat, l[k]? = some x → w.cell? ⟨b, o + k, none⟩ = some (.int .u8 (x : Int))
theorem RdL.below {w w' : World} {B : Nat} {A : Option Addr} {l : List Nat} (h : RdL w B A l) (hb : Below B w w') : RdL w' B A l := fun hl => by
  obtain ⟨b, o, e, hlt, hc⟩ := h hl
  exact ⟨b, o, e, hlt, fun k x hx => (hb.cell (p := ⟨b, o + k, none⟩) hlt).trans (hc k x hx)⟩
theorem RdL.mono {w : World} {B C : Nat} {A : Option Addr} {l : List Nat} (h : RdL w B A l) (hB : B ≤ C) : RdL w C A l := fun hl => by
  obtain ⟨b, o, e, hlt, hc⟩ := h hl
  exact ⟨b, o, e, by omega, hc⟩
theorem RdL.nil {w : World} {B : Nat} {A : Option Addr} : RdL w B A [] := fun h => absurd rfl h
/-- what owns a row reads as it -/
theorem own_reads {w : World} {base : Nat} {v : Value} {l : List Nat} (h : w.ownsRow base 5 1 v l.length (row8 l)) : ∃ A c, v = .slice A l.length c ∧ l.length ≤ c ∧ c ≤ maxLen ∧ RdL w w.heap.size A l ∧ (A = none ∨ ∃ g, A = some ⟨g, 0, none⟩ ∧ base ≤ g ∧ g < w.heap.size) := by
  rcases h.2 with ⟨rfl, hl⟩ | ⟨g, cap, cur, rfl, hb, hg, hn, hm, hs, ht⟩
  · refine ⟨none, 0, by rw [hl], by omega, by unfold maxLen; omega, fun h => absurd (List.eq_nil_of_length_eq_zero hl) h, .inl rfl⟩
  · refine ⟨some ⟨g, 0, none⟩, cap, rfl, hn, hm, fun _ => ⟨g, 0, rfl, lt_of_blk hg, fun k x hx => ?_⟩, .inr ⟨g, rfl, hb, lt_of_blk hg⟩⟩
    have h1 := row8_get hx
    have hk : k < l.length := (List.getElem?_eq_some_iff.1 hx).1
    rw [← ht, List.getElem?_take_of_lt (by omega)] at h1
    rw [Nat.zero_add, cell_blk hg]
    simpa using h1
theorem info5 : (Tryd.prog.info? 5).map (fun i => (i.zero, i.size, i.bytes)) = some (some (.int .u8 0), 1, 1) := by kernel_rfl
theorem own_below {w w' : World} {base e size n : Nat} {v : Value} {xs : List Value} (h : w.ownsRow base e size v n xs) (hb : Below w.heap.size w w') : w'.ownsRow base e size v n xs :=
  h.kept (row := none) ⟨hb.os, hb.tape, hb.output, hb.size, fun k hk _ => hb.block k hk⟩ (by cases v.ownBlock <;> simp)
theorem own_mono {w : World} {B C e size n : Nat} {v : Value} {xs : List Value} (h : w.ownsRow C e size v n xs) (hB : B ≤ C) : w.ownsRow B e size v n xs := by
  refine ⟨h.1, ?_⟩
  rcases h.2 with h1 | ⟨g, cap, cur, h1, h2, h3⟩
  · exact .inl h1
  · exact .inr ⟨g, cap, cur, h1, by omega, h3⟩
theorem Below.grown' {B : Nat} {w wr w' : World} {row : Option Nat} (h : Below B w wr) (hg : wr.grownBy w' row) (hB : B ≤ wr.heap.size) (hr : ∀ k, row = some k → B ≤ k) : Below B w w' := by
  refine h.trans ⟨hg.os, hg.tape, hg.output, hg.size, fun k hk => hg.block k (by omega) (fun e => ?_)⟩
  have := hr k e.symm
  omega
end Go.Proofs.YthbkjhacnnoolaaDoor

/- A slice cloned, clipped; a cutter of bytes. No condition but that the bytes fit a machine. -/
namespace Go.Proofs.YthbkjhacnnoolaaDoor
open Go.RowKit
set_option linter.unusedVariables false
set_option linter.unusedSimpArgs false
/-- a slice of bytes that can be read -/
structure Bs (w : World) (B : Nat) (A : Option Addr) (c : Nat) (l : List Nat) : Prop where
  rd : RdL w B A l
  cap : l.length ≤ c
  nil : A = none → l = [] ∧ c = 0
  max : c ≤ maxLen
theorem Bs.below {w w' : World} {B c : Nat} {A : Option Addr} {l : List Nat} (h : Bs w B A c l) (hb : Below B w w') : Bs w' B A c l := ⟨h.rd.below hb, h.cap, h.nil, h.max⟩
theorem Bs.mono {w : World} {B C c : Nat} {A : Option Addr} {l : List Nat} (h : Bs w B A c l) (hB : B ≤ C) : Bs w C A c l := ⟨h.rd.mono hB, h.cap, h.nil, h.max⟩
theorem Bs.own {w : World} {base : Nat} {v : Value} {l : List Nat} (h : w.ownsRow base 5 1 v l.length (row8 l)) : ∃ A c, v = .slice A l.length c ∧ Bs w w.heap.size A c l ∧ (A = none ∨ ∃ g, A = some ⟨g, 0, none⟩ ∧ base ≤ g ∧ g < w.heap.size) := by
  rcases h.2 with ⟨rfl, hl⟩ | ⟨g, cap, cur, rfl, hb, hg, hn, hm, hs, ht⟩
  · exact ⟨none, 0, by rw [hl], ⟨fun h => absurd (List.eq_nil_of_length_eq_zero hl) h, by omega, fun _ => ⟨List.eq_nil_of_length_eq_zero hl, rfl⟩, (by unfold maxLen; omega)⟩, .inl rfl⟩
  · obtain ⟨A, c, e, h1, h2, h3, h4⟩ := own_reads h
    cases e
    exact ⟨_, _, rfl, ⟨h3, hn, (fun h => by cases h), hm⟩, .inr ⟨g, rfl, hb, lt_of_blk hg⟩⟩
end Go.Proofs.YthbkjhacnnoolaaDoor
