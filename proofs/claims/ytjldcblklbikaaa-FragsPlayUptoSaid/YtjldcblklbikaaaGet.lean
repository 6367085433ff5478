/- Several texts in one: Rows8, GetPQ, Get. No condition beyond those that each part names. -/
import Derived.WalkKit
import Derived.Deep.Draws
import Derived.OpenShut
import Derived.Test.YtjldcblklbikaaaProg
import Derived.WalkSpells
import Derived.WalkLawsBesides
import Derived.Deep.QuietTactic
import Derived.BigQuiet
import Derived.RegionTactic
import Derived.Deep.RegionWith
import Derived.Deep.RegionHeld3
import Derived.Deep.DeepCutAuto
import Derived.Laws.AppendOwn
import Derived.Laws.AppendOwnNone
import Derived.Outline
import Derived.Lib.Hide
import Derived.Laws.Bits64
/- Several texts in one: Base, Reads, Words, Cut, Take, Num, Of. No condition beyond those that each part names. -/
/- Small laws on a world's blocks: what a whole block says of its cells, and a world in which one block has been turned. No condition. -/
namespace Go.Proofs.Ytjldcblklbikaaa
open Go.RowKit

theorem cell_blk {w : World} {b : Nat} {c : Array Value} {t : TypeId} {z : Nat × Nat} (h : w.heap[b]? = some (.cells c t z)) (i : Nat) :
    w.cell? ⟨b, i, none⟩ = c[i]? := by
  simp [World.cell?, h]

theorem frozen_blk {w : World} {b : Nat} {c : Array Value} {t : TypeId} (h : w.heap[b]? = some (.cells c t (0, 0))) (i : Nat) :
    w.frozen? ⟨b, i, none⟩ = false := by
  simp [World.frozen?, h]

theorem setCell_blk {w : World} {b : Nat} {c : Array Value} {t : TypeId} {z : Nat × Nat} (h : w.heap[b]? = some (.cells c t z)) (i : Nat) (v : Value) :
    (w.setCell ⟨b, i, none⟩ v).heap = w.heap.setIfInBounds b (.cells (c.setIfInBounds i v) t z) := by
  have hb : b < w.heap.size := by
    rcases Nat.lt_or_ge b w.heap.size with h1 | h1
    · exact h1
    · rw [Array.getElem?_eq_none h1] at h; cases h
  apply Array.ext_getElem?
  intro k
  simp only [World.setCell, Array.getElem?_modify, Array.getElem?_setIfInBounds]
  by_cases hk : b = k
  · subst hk; rw [if_pos rfl, if_pos rfl, h]; simp [hb]
  · simp [hk]

/-- w' is w, its block b turned to o; what was drawn aside. -/
structure Turned (b : Nat) (o : Obj) (w w' : World) : Prop where
  heap : w'.heap = w.heap.setIfInBounds b o
  os : w'.os = w.os
  tape : w'.tape = w.tape
  output : w'.output = w.output

theorem Turned.refl {b : Nat} {o : Obj} {w : World} (h : w.heap[b]? = some o) : Turned b o w w := by
  refine ⟨?_, rfl, rfl, rfl⟩
  apply Array.ext_getElem?
  intro k
  rw [Array.getElem?_setIfInBounds]
  by_cases hk : b = k
  · subst hk
    have hb : b < w.heap.size := by
      rcases Nat.lt_or_ge b w.heap.size with h1 | h1
      · exact h1
      · rw [Array.getElem?_eq_none h1] at h; cases h
    rw [if_pos rfl, if_pos hb, h]
  · simp [hk]

theorem Turned.setCell {w : World} {b : Nat} {c : Array Value} {t : TypeId} {z : Nat × Nat} (h : w.heap[b]? = some (.cells c t z)) (i : Nat) (v : Value) :
    Turned b (.cells (c.setIfInBounds i v) t z) w (w.setCell ⟨b, i, none⟩ v) := ⟨setCell_blk h i v, rfl, rfl, rfl⟩

theorem Turned.trans {b : Nat} {o o' : Obj} {w w1 w2 : World} (h : Turned b o w w1) (k : Turned b o' w1 w2) : Turned b o' w w2 := by
  refine ⟨?_, k.os.trans h.os, k.tape.trans h.tape, k.output.trans h.output⟩
  rw [k.heap, h.heap]
  apply Array.ext_getElem?
  intro j
  simp only [Array.getElem?_setIfInBounds, Array.size_setIfInBounds]
  by_cases hj : b = j <;> simp [hj]

theorem Turned.size {b : Nat} {o : Obj} {w w' : World} (h : Turned b o w w') : w'.heap.size = w.heap.size := by rw [h.heap]; simp

theorem Turned.get {b : Nat} {o : Obj} {w w' : World} (h : Turned b o w w') (hb : b < w.heap.size) : w'.heap[b]? = some o := by
  rw [h.heap, Array.getElem?_setIfInBounds]; simp [hb]

theorem Turned.other {b : Nat} {o : Obj} {w w' : World} (h : Turned b o w w') {k : Nat} (hk : k ≠ b) : w'.heap[k]? = w.heap[k]? := by
  rw [h.heap, Array.getElem?_setIfInBounds, if_neg (fun e => hk e.symm)]

theorem Turned.drewN {b : Nat} {o : Obj} {w w' : World} (h : Turned b o w w') (n : Nat) : Turned b o w (w'.drewN n) := ⟨h.heap, h.os, h.tape, h.output⟩
theorem Turned.drew {b : Nat} {o : Obj} {w w' : World} (h : Turned b o w w') : Turned b o w w'.drew := ⟨h.heap, h.os, h.tape, h.output⟩
theorem Turned.of_drewN {b : Nat} {o : Obj} {w w' : World} {n : Nat} (h : Turned b o (w.drewN n) w') : Turned b o w w' := ⟨h.heap, h.os, h.tape, h.output⟩

theorem Turned.below {b : Nat} {o : Obj} {w w' : World} (h : Turned b o w w') {B : Nat} (hB : B ≤ b) : Below B w w' :=
  ⟨h.os, h.tape, h.output, by rw [h.size]; exact Nat.le_refl _, fun k hk => h.other (by omega)⟩

theorem lt_of_blk {w : World} {b : Nat} {o : Obj} (h : w.heap[b]? = some o) : b < w.heap.size := by
  rcases Nat.lt_or_ge b w.heap.size with h1 | h1
  · exact h1
  · rw [Array.getElem?_eq_none h1] at h; cases h

end Go.Proofs.Ytjldcblklbikaaa

/- A slice that reads as a function of the place, nil let in. No condition. -/
namespace Go.Proofs.Ytjldcblklbikaaa
open Go.RowKit Go.ChangeShapes Go.WideShapes

/-- The first n places of the slice at A hold f's values, below block number B. -/
def RdS (w : World) (B : Nat) (A : Option Addr) (n : Nat) (f : Nat → Value) : Prop :=
  0 < n → ∃ b off, A = some ⟨b, off, none⟩ ∧ b < B ∧ ∀ k, k < n → w.cell? ⟨b, off + k, none⟩ = some (f k)

theorem RdS.below {w w' : World} {B n : Nat} {A : Option Addr} {f : Nat → Value} (h : RdS w B A n f) (hb : Below B w w') : RdS w' B A n f := by
  intro hn
  obtain ⟨b, off, e, hlt, hc⟩ := h hn
  exact ⟨b, off, e, hlt, fun k hk => (hb.cell (p := ⟨b, off + k, none⟩) hlt).trans (hc k hk)⟩

/-- Behind the call w' holds o in a block b that w had not; what w had stands. -/
structure Made (b : Nat) (o : Obj) (w w' : World) : Prop where
  new : w.heap.size ≤ b
  get : w'.heap[b]? = some o
  below : Below w.heap.size w w'

theorem Made.other {b : Nat} {o x : Obj} {w w' : World} (h : Made b o w w') {k : Nat} (hk : w.heap[k]? = some x) : w'.heap[k]? = some x :=
  (h.below.block k (lt_of_blk hk)).trans hk
theorem Made.ne {b k : Nat} {o x : Obj} {w w' : World} (h : Made b o w w') (hk : w.heap[k]? = some x) : k ≠ b := by
  have := lt_of_blk hk; have := h.new; omega
theorem Turned.keep {b k : Nat} {o x : Obj} {w w' : World} (h : Turned b o w w') (hk : w.heap[k]? = some x) (hne : k ≠ b) : w'.heap[k]? = some x :=
  (h.other hne).trans hk

theorem lt_of_cell {w : World} {b i : Nat} {v : Value} (h : w.cell? ⟨b, i, none⟩ = some v) : b < w.heap.size := by
  rcases Nat.lt_or_ge b w.heap.size with h1 | h1
  · exact h1
  · simp [World.cell?, Array.getElem?_eq_none h1] at h

theorem RdS.of_ints {H : Type} {enc : TypeId × Value → H} {P : Program} {w : World} {base : Nat} {spare : Nat → Bool} {held : Bool} {t e : TypeId} {k : IntKind} {fuel : Nat} {a0 : Option Addr} {len cap : Nat} {x : DataW H × List MemPlace}
    (ht : P.underlying t = some (.slice e)) (he : P.underlying e = some (.int k)) (hc : P.cellsOf e = 1)
    (h : DataW.trod enc P w base spare held fuel t [.slice a0 len cap] = some x) :
    ∃ zs : Nat → Int, RdS w w.heap.size a0 len (fun i => .int k (zs i)) ∧ len ≤ maxLen ∧ ∀ i, i < len → (Lit.int k (zs i)).wf = true := by
  rcases open_ints ht he hc h with ⟨hcs, _⟩ | ⟨a, len', cap', zs, hcs, _, hl, hm, hz, _, hcell, hwz⟩
  · simp only [List.cons.injEq, Value.slice.injEq, and_true] at hcs
    obtain ⟨rfl, rfl, rfl⟩ := hcs
    exact ⟨fun _ => 0, fun h => absurd h (by omega), by unfold maxLen; omega, fun i hi => absurd hi (by omega)⟩
  · simp only [List.cons.injEq, Value.slice.injEq, and_true] at hcs
    obtain ⟨rfl, rfl, rfl⟩ := hcs
    have hzl : len ≤ zs.length := by rw [hz]; split <;> omega
    refine ⟨fun i => zs.getD i 0, fun hn => ?_, by omega, fun i hi => hwz _ ?_⟩
    · obtain ⟨b, off, rfl, hcc⟩ := ints_at hcell (by omega)
      exact ⟨b, off, rfl, lt_of_cell (hcc 0 (by omega)), fun j hj => hcc j (by omega)⟩
    · show zs.getD i 0 ∈ zs
      rw [List.getD_eq_getElem?_getD, List.getElem?_eq_getElem (by omega), Option.getD_some]
      exact List.getElem_mem _

theorem RdS.congr {w : World} {B n : Nat} {A : Option Addr} {f g : Nat → Value} (h : RdS w B A n f) (e : ∀ k, k < n → f k = g k) : RdS w B A n g := by
  intro hn
  obtain ⟨b, off, e1, hlt, hc⟩ := h hn
  exact ⟨b, off, e1, hlt, fun k hk => by rw [hc k hk, e k hk]⟩

/-- unsigned numbers as natural ones, bounded outright -/
theorem RdS.nat {w : World} {B n M : Nat} {A : Option Addr} {kd : IntKind} {zs : Nat → Int} (h : RdS w B A n (fun i => .int kd (zs i))) (hM : 0 < M) (hz : ∀ i, i < n → 0 ≤ zs i ∧ zs i < M) :
    ∃ ns : Nat → Nat, RdS w B A n (fun i => .int kd (ns i)) ∧ ∀ i, ns i < M := by
  refine ⟨fun i => if i < n then (zs i).toNat else 0, h.congr fun k hk => ?_, fun i => ?_⟩
  · have := hz k hk
    simp only [if_pos hk]
    rw [Int.toNat_of_nonneg this.1]
  · by_cases hi : i < n
    · have := hz i hi
      simp only [if_pos hi]; omega
    · simp only [if_neg hi]; exact hM
theorem nat_of {x : Int} {M : Nat} (h : 0 ≤ x ∧ x < M) : ∃ n : Nat, x = n ∧ n < M := ⟨x.toNat, by omega, by omega⟩
end Go.Proofs.Ytjldcblklbikaaa

/- Rows of bytes: read, and of one's own. No condition. -/
namespace Go.Proofs.Ytjldcblklbikaaa
open Go.RowKit
set_option linter.unusedVariables false
theorem Turned.setRow {w : World} {b : Nat} {c : Array Value} {t : TypeId} {z : Nat × Nat} (h : w.heap[b]? = some (.cells c t z)) (cs : Array Value) : Turned b (.cells cs t z) w (w.setRow b cs) := by
  refine ⟨?_, rfl, rfl, rfl⟩
  have hb := lt_of_blk h
  apply Array.ext_getElem?
  intro k
  simp only [World.setRow, Array.getElem?_modify, Array.getElem?_setIfInBounds]
  by_cases hk : b = k
  · subst hk; rw [if_pos rfl, if_pos rfl, h]; simp [hb]
  · simp [hk]
theorem i64_small {m : Nat} (h : m < 9223372036854775808) : IntKind.i64.wrap (m : Int) = (m : Int) := by
  simp [IntKind.wrap, IntKind.signed, IntKind.bits]; omega
theorem u64_small {m : Nat} (h : m < 18446744073709551616) : IntKind.u64.wrap (m : Int) = (m : Int) := by
  simp [IntKind.wrap, IntKind.signed, IntKind.bits]; omega
theorem u8_small {m : Nat} (h : m < 256) : IntKind.u8.wrap (m : Int) = (m : Int) := by
  simp [IntKind.wrap, IntKind.signed, IntKind.bits]; omega
/-- bytes as values -/
def row8 (l : List Nat) : List Value := l.map fun (x : Nat) => .int .u8 (x : Int)
theorem row8_length (l : List Nat) : (row8 l).length = l.length := by simp [row8]
theorem row8_one (l : List Nat) : ∀ v ∈ row8 l, v.oneCell' = true := by
  intro v hv
  simp only [row8, List.mem_map] at hv
  obtain ⟨i, _, rfl⟩ := hv
  rfl
theorem row8_get {l : List Nat} {k x : Nat} (h : l[k]? = some x) : (row8 l)[k]? = some (.int .u8 (x : Int)) := by simp [row8, h]
theorem row8_inv {l : List Nat} {k : Nat} {v : Value} (h : (row8 l)[k]? = some v) : ∃ x, l[k]? = some x ∧ v = .int .u8 (x : Int) := by
  simp only [row8, List.getElem?_map] at h
  cases hx : l[k]? with
  | none => rw [hx] at h; cases h
  | some x => rw [hx] at h; cases h; exact ⟨x, rfl, rfl⟩
theorem row8_append (a b : List Nat) : row8 (a ++ b) = row8 a ++ row8 b := by simp [row8]
/-- a slice at A reads as these bytes, below block B -/
def RdL (w : World) (B : Nat) (A : Option Addr) (l : List Nat) : Prop :=
  l ≠ [] → ∃ b o, A = some ⟨b, o, none⟩ ∧ b < B ∧ ∀ k x : Nat, l[k]? = some x → w.cell? ⟨b, o + k, none⟩ = some (.int .u8 (x : Int))
theorem RdL.below {w w' : World} {B : Nat} {A : Option Addr} {l : List Nat} (h : RdL w B A l) (hb : Below B w w') : RdL w' B A l := fun hl => by
  obtain ⟨b, o, e, hlt, hc⟩ := h hl
  exact ⟨b, o, e, hlt, fun k x hx => (hb.cell (p := ⟨b, o + k, none⟩) hlt).trans (hc k x hx)⟩
theorem RdL.mono {w : World} {B C : Nat} {A : Option Addr} {l : List Nat} (h : RdL w B A l) (hB : B ≤ C) : RdL w C A l := fun hl => by
  obtain ⟨b, o, e, hlt, hc⟩ := h hl
  exact ⟨b, o, e, by omega, hc⟩
theorem RdL.nil {w : World} {B : Nat} {A : Option Addr} : RdL w B A [] := fun h => absurd rfl h
/-- what owns a row reads as it -/
theorem own_reads {w : World} {base : Nat} {v : Value} {l : List Nat} (h : w.ownsRow base 5 1 v l.length (row8 l)) : ∃ A c, v = .slice A l.length c ∧ l.length ≤ c ∧ c ≤ maxLen ∧ RdL w w.heap.size A l ∧ (A = none ∨ ∃ g, A = some ⟨g, 0, none⟩ ∧ base ≤ g ∧ g < w.heap.size) := by
  rcases h.2 with ⟨rfl, hl⟩ | ⟨g, cap, cur, rfl, hb, hg, hn, hm, hs, ht⟩
  · refine ⟨none, 0, by rw [hl], by omega, by unfold maxLen; omega, fun h => absurd (List.eq_nil_of_length_eq_zero hl) h, .inl rfl⟩
  · refine ⟨some ⟨g, 0, none⟩, cap, rfl, hn, hm, fun _ => ⟨g, 0, rfl, lt_of_blk hg, fun k x hx => ?_⟩, .inr ⟨g, rfl, hb, lt_of_blk hg⟩⟩
    have h1 := row8_get hx
    have hk : k < l.length := (List.getElem?_eq_some_iff.1 hx).1
    rw [← ht, List.getElem?_take_of_lt (by omega)] at h1
    rw [Nat.zero_add, cell_blk hg]
    simpa using h1
theorem info5 : (Try.prog.info? 5).map (fun i => (i.zero, i.size, i.bytes)) = some (some (.int .u8 0), 1, 1) := by kernel_rfl
theorem own_below {w w' : World} {base e size n : Nat} {v : Value} {xs : List Value} (h : w.ownsRow base e size v n xs) (hb : Below w.heap.size w w') : w'.ownsRow base e size v n xs :=
  h.kept (row := none) ⟨hb.os, hb.tape, hb.output, hb.size, fun k hk _ => hb.block k hk⟩ (by cases v.ownBlock <;> simp)
theorem own_mono {w : World} {B C e size n : Nat} {v : Value} {xs : List Value} (h : w.ownsRow C e size v n xs) (hB : B ≤ C) : w.ownsRow B e size v n xs := by
  refine ⟨h.1, ?_⟩
  rcases h.2 with h1 | ⟨g, cap, cur, h1, h2, h3⟩
  · exact .inl h1
  · exact .inr ⟨g, cap, cur, h1, by omega, h3⟩
theorem Below.grown' {B : Nat} {w wr w' : World} {row : Option Nat} (h : Below B w wr) (hg : wr.grownBy w' row) (hB : B ≤ wr.heap.size) (hr : ∀ k, row = some k → B ≤ k) : Below B w w' := by
  refine h.trans ⟨hg.os, hg.tape, hg.output, hg.size, fun k hk => hg.block k (by omega) (fun e => ?_)⟩
  have := hr k e.symm
  omega
end Go.Proofs.Ytjldcblklbikaaa

/- A slice cloned, clipped; a cutter of bytes. No condition but that the bytes fit a machine. -/
namespace Go.Proofs.Ytjldcblklbikaaa
open Go.RowKit
set_option linter.unusedVariables false
set_option linter.unusedSimpArgs false
/-- a slice of bytes that can be read -/
structure Bs (w : World) (B : Nat) (A : Option Addr) (c : Nat) (l : List Nat) : Prop where
  rd : RdL w B A l
  cap : l.length ≤ c
  nil : A = none → l = [] ∧ c = 0
  max : c ≤ maxLen
theorem Bs.below {w w' : World} {B c : Nat} {A : Option Addr} {l : List Nat} (h : Bs w B A c l) (hb : Below B w w') : Bs w' B A c l := ⟨h.rd.below hb, h.cap, h.nil, h.max⟩
theorem Bs.mono {w : World} {B C c : Nat} {A : Option Addr} {l : List Nat} (h : Bs w B A c l) (hB : B ≤ C) : Bs w C A c l := ⟨h.rd.mono hB, h.cap, h.nil, h.max⟩
theorem Bs.own {w : World} {base : Nat} {v : Value} {l : List Nat} (h : w.ownsRow base 5 1 v l.length (row8 l)) : ∃ A c, v = .slice A l.length c ∧ Bs w w.heap.size A c l ∧ (A = none ∨ ∃ g, A = some ⟨g, 0, none⟩ ∧ base ≤ g ∧ g < w.heap.size) := by
  rcases h.2 with ⟨rfl, hl⟩ | ⟨g, cap, cur, rfl, hb, hg, hn, hm, hs, ht⟩
  · exact ⟨none, 0, by rw [hl], ⟨fun h => absurd (List.eq_nil_of_length_eq_zero hl) h, by omega, fun _ => ⟨List.eq_nil_of_length_eq_zero hl, rfl⟩, (by unfold maxLen; omega)⟩, .inl rfl⟩
  · obtain ⟨A, c, e, h1, h2, h3, h4⟩ := own_reads h
    cases e
    exact ⟨_, _, rfl, ⟨h3, hn, (fun h => by cases h), hm⟩, .inr ⟨g, rfl, hb, lt_of_blk hg⟩⟩
set_option maxRecDepth 100000 in
set_option maxHeartbeats 1000000 in
theorem clip56 (A : Option Addr) (n c : Nat) (hn : n ≤ c) (w : World) : Calls Try.prog 40 #[.slice A n c] w fun e w' => e = .returned (.slice A n n) ∧ w = w' := by
  go_enter Try.func40, Try.ntmps40
  go_wp2_with fail
  go_ret
  exact ⟨rfl, rfl⟩
set_option maxRecDepth 100000 in
set_option maxHeartbeats 1000000 in
theorem clone60 {A : Option Addr} {c B : Nat} {l : List Nat} (w : World) (h : Bs w B A c l) (hl : l.length ≤ 1000000000) :
    Calls Try.prog 41 #[.slice A l.length c] w fun e w' => ∃ v', e = .returned v' ∧ w'.ownsRow w.heap.size 5 1 v' l.length (row8 l) ∧ Below w.heap.size w w' ∧ (v' = .slice none 0 0 ↔ A = none) := by
  obtain ⟨i5, hi, hz0, hz1, hz2⟩ := info_parts info5
  cases A with
  | none =>
    obtain ⟨rfl, rfl⟩ := h.nil rfl
    clear h
    have hne := fun (W : World) => Lib.run_eql_slice_nil (P := Try.prog) W 41 5 none 0 0 0 0 Try.underlying41
    simp only [Option.isNone_none] at hne
    go_enter Try.func41, Try.ntmps41
    go_wp2_with fail
    go_ret
    exact ⟨_, rfl, World.ownsRow_nil _ _ _ _, Below.refl _ _, by simp⟩
  | some a =>
    have hd : ∀ W : World, W.heap = (w.alloc (.cells #[] 5)).heap → ∀ j u, (row8 l)[j]? = some u → W.cell? (a.add j) = some u := by
      intro W hW j u hu
      obtain ⟨x, hx, rfl⟩ := row8_inv hu
      obtain ⟨b', o', e, hb, hc⟩ := h.rd (by rintro rfl; simp at hx)
      cases e
      have h1 := hc j x hx
      have hadd : (⟨b', o', none⟩ : Addr).add j = ⟨b', o' + j, none⟩ := by unfold Addr.add; split <;> simp_all
      rw [hadd, ← h1]
      have hlt := lt_of_cell h1
      simp only [World.cell?, hW, heap_alloc_old w _ hlt]
    have hown : (w.alloc (.cells #[] 5)).ownsRow w.heap.size 5 1 (.slice (some ⟨w.heap.size, 0, none⟩) 0 0) 0 [] := World.ownsRow_made w #[] 0 (Nat.le_refl _) (by unfold maxLen; omega) (by simp)
    have hne := fun (n : Nat) (W : World) => Lib.run_eql_slice_nil (P := Try.prog) W 41 5 (some a) n c 0 0 Try.underlying41
    simp only [Option.isNone_some] at hne
    have HD := Lib.hid hd
    have HO := Lib.hid hown
    have hlen := row8_length l
    have HL := Lib.hid hlen
    have hone := row8_one l
    have H1 := Lib.hid hone
    obtain ⟨n, hn⟩ : ∃ n, l.length = n := ⟨_, rfl⟩
    rw [hn] at HL hl ⊢
    clear h hd hown hlen hone hn
    go_enter Try.func41, Try.ntmps41
    go_wp2_with (at_builtin; refine wpList_append_own _ rfl _ _ 41 rfl w.heap.size 5 i5 (.int .u8 0) 1 1 Try.underlying41 hi hz0 hz1 hz2 rfl (by decide) _ _ _ rfl HO.out a n c (row8 l) rfl ?c1 ?c2 H1.out ?c3 ?c4 ?c5 ?_)
    case c1 => rw [HL.out]; omega
    case c2 => exact HD.out _ rfl
    case c3 => unfold maxLen; omega
    case c4 => omega
    case c5 => simp
    intro v' w1 hown' hgrow hnil
    have HR := Lib.hid hown'
    have HG := Lib.hid hgrow
    have HN := Lib.hid hnil
    clear hown' hgrow hnil
    go_wp2_with fail
    go_ret
    refine ⟨v', rfl, by have := HR.out; simpa using this, ?_, ?_⟩
    · exact Below.grown' ((Below.refl _ _).alloc (Nat.le_refl _) _) HG.out (by simp) (fun k hk => by simp [Value.ownBlock] at hk; omega)
    · constructor
      · intro e; exact absurd e HN.out
      · intro e; cases e
end Go.Proofs.Ytjldcblklbikaaa

/- A cutter of bytes: what it takes. No condition but that the bytes fit a machine. -/
namespace Go.Proofs.Ytjldcblklbikaaa
open Go.RowKit
set_option linter.unusedVariables false
set_option linter.unusedSimpArgs false
end Go.Proofs.Ytjldcblklbikaaa

/- A cutter of bytes: a number of one byte, bytes, what is left; a cutter of bytes that come. No condition but that the bytes fit a machine. -/
namespace Go.Proofs.Ytjldcblklbikaaa
open Go.RowKit
set_option linter.unusedVariables false
set_option linter.unusedSimpArgs false
theorem or_byte {x : Nat} (hx : x < 256) : bits .or .u64 (IntKind.u64.wrap ((0 : Nat) : Int)) (IntKind.u64.wrap (x : Int)) = (x : Int) := by
  rw [u64_small (by decide), u64_small (by omega)]
  rw [(bits_nat .u64 64 (by decide) (fun n h0 h1 => by simp [IntKind.wrap, IntKind.signed, IntKind.bits]; omega) 0 x (by decide) (by omega)).2]
  simp
end Go.Proofs.Ytjldcblklbikaaa

/- A cutter of bytes that come. No condition but that the bytes fit a machine. -/
namespace Go.Proofs.Ytjldcblklbikaaa
open Go.RowKit
set_option linter.unusedVariables false
set_option linter.unusedSimpArgs false
/-- block g holds bytes, and room -/
def RowAt (w : World) (g c : Nat) (l : List Nat) : Prop := ∃ cur, w.heap[g]? = some (.cells cur 5 (0, 0)) ∧ cur.size = c ∧ cur.toList.take l.length = row8 l
end Go.Proofs.Ytjldcblklbikaaa

/- Several texts in one: GetP, GetQ. No condition beyond those that each part names. -/
/- Bytes read as options, in plain words: the kind of each, where its data stand, how many. No program in sight. -/
namespace Go.Proofs.Ytjldcblklbikaaa
set_option linter.unusedVariables false
/-- the option at a place: its kind, its bytes -/
def nextO (bs : List Nat) (pos : Nat) : Option (Nat × Nat) :=
  if pos + 1 < bs.length ∧ bs.getD (pos + 1) 0 ≠ 0 ∧ pos + 8 * bs.getD (pos + 1) 0 ≤ bs.length then some (bs.getD pos 0, 8 * bs.getD (pos + 1) 0) else none
def scan (bs : List Nat) : Nat → Nat → Nat → Option (List (Nat × Nat × Nat))
  | 0, _, _ => none
  | f + 1, pos, k => if bs.length ≤ pos then some [] else
    match nextO bs pos with
    | none => none
    | some (kd, n) => if k = 64 then none else (scan bs f (pos + n) (k + 1)).map ((kd, pos + 2, n - 2) :: ·)
def getS (bs : List Nat) : Option (List (Nat × Nat × Nat)) := scan bs (bs.length + 1) 0 0
/-- so far -/
def Scn (bs : List Nat) (pos : Nat) (L : List (Nat × Nat × Nat)) : Prop := ∃ f, bs.length < f + pos ∧ getS bs = (scan bs f pos L.length).map (L ++ ·)
theorem Scn.start (bs : List Nat) : Scn bs 0 [] := ⟨bs.length + 1, by omega, by
  unfold getS
  cases scan bs (bs.length + 1) 0 [].length <;> simp_all⟩
theorem nextO_pos {bs : List Nat} {pos kd n : Nat} (h : nextO bs pos = some (kd, n)) : pos + 1 < bs.length ∧ 8 ≤ n ∧ pos + n ≤ bs.length ∧ kd = bs.getD pos 0 ∧ n = 8 * bs.getD (pos + 1) 0 := by
  unfold nextO at h
  split at h
  · rename_i h1
    simp only [Option.some.injEq, Prod.mk.injEq] at h
    omega
  · cases h
theorem Scn.next {bs : List Nat} {pos kd n : Nat} {L : List (Nat × Nat × Nat)} (h : Scn bs pos L) (hp : pos < bs.length) (hn : nextO bs pos = some (kd, n)) (hL : L.length ≠ 64) : Scn bs (pos + n) (L ++ [(kd, pos + 2, n - 2)]) := by
  obtain ⟨f, hf, e⟩ := h
  have h8 := nextO_pos hn
  match f, hf, e with
  | 0, hf, _ => omega
  | f + 1, hf, e =>
    refine ⟨f, by omega, ?_⟩
    rw [e, scan, if_neg (by omega), hn]
    simp only [if_neg hL, List.length_append, List.length_singleton]
    cases scan bs f (pos + n) (L.length + 1) <;> simp
theorem Scn.fail {bs : List Nat} {pos : Nat} {L : List (Nat × Nat × Nat)} (h : Scn bs pos L) (hp : pos < bs.length) (hn : nextO bs pos = none ∨ L.length = 64) : getS bs = none := by
  obtain ⟨f, hf, e⟩ := h
  match f, hf, e with
  | 0, hf, _ => omega
  | f + 1, hf, e =>
    rw [e, scan, if_neg (by omega)]
    cases hx : nextO bs pos with
    | none => rfl
    | some x =>
      obtain ⟨kd, n⟩ := x
      rcases hn with hn | hn
      · rw [hx] at hn; cases hn
      · simp only [if_pos hn]; rfl
theorem Scn.done {bs : List Nat} {pos : Nat} {L : List (Nat × Nat × Nat)} (h : Scn bs pos L) (hq : pos ≤ bs.length) (hp : bs.length ≤ pos) : getS bs = some L := by
  obtain ⟨f, hf, e⟩ := h
  match f, hf, e with
  | 0, hf, _ => omega
  | f + 1, hf, e =>
    rw [e, scan, if_pos hp]
    simp
end Go.Proofs.Ytjldcblklbikaaa

/- What bytes read as options give, in plain words: where the data stand, one behind the other. No program in sight. -/
namespace Go.Proofs.Ytjldcblklbikaaa
set_option linter.unusedVariables false
theorem scan_facts {bs : List Nat} (hb : ∀ x ∈ bs, x < 256) : ∀ f pos k L, scan bs f pos k = some L → k ≤ 64 →
    L.length + k ≤ 64 ∧ (∀ x ∈ L, x.1 < 256 ∧ pos + 2 ≤ x.2.1 ∧ x.2.1 + x.2.2 ≤ bs.length ∧ 6 ≤ x.2.2) ∧ L.Pairwise (fun x y => x.2.1 + x.2.2 ≤ y.2.1) := by
  intro f
  induction f with
  | zero => intro pos k L h; cases h
  | succ f ih =>
    intro pos k L h hk
    rw [scan] at h
    by_cases hp : bs.length ≤ pos
    · rw [if_pos hp] at h
      cases h
      exact ⟨by simpa using hk, by simp, .nil⟩
    · rw [if_neg hp] at h
      cases hx : nextO bs pos with
      | none => rw [hx] at h; cases h
      | some y =>
        obtain ⟨kd, n⟩ := y
        rw [hx] at h
        simp only at h
        have h8 := nextO_pos hx
        by_cases h64 : k = 64
        · rw [if_pos h64] at h; cases h
        · rw [if_neg h64] at h
          cases hs : scan bs f (pos + n) (k + 1) with
          | none => rw [hs] at h; cases h
          | some M =>
            rw [hs] at h
            simp only [Option.map_some, Option.some.injEq] at h
            subst h
            obtain ⟨i1, i2, i3⟩ := ih (pos + n) (k + 1) M hs (by omega)
            refine ⟨by simp only [List.length_cons]; omega, ?_, ?_⟩
            · intro x hm
              rcases List.mem_cons.1 hm with rfl | hm
              · refine ⟨?_, ?_, ?_, ?_⟩
                · show kd < 256
                  rw [h8.2.2.2.1, List.getD_eq_getElem?_getD, List.getElem?_eq_getElem (by omega)]
                  exact hb _ (List.getElem_mem _)
                · show pos + 2 ≤ pos + 2; omega
                · show pos + 2 + (n - 2) ≤ bs.length; omega
                · show 6 ≤ n - 2; omega
              · have := i2 x hm
                refine ⟨this.1, ?_, this.2.2⟩
                omega
            · refine List.pairwise_cons.2 ⟨fun y hy => ?_, i3⟩
              have := (i2 y hy).2.1
              show pos + 2 + (n - 2) ≤ y.2.1
              omega
theorem getS_facts {bs : List Nat} {L : List (Nat × Nat × Nat)} (hb : ∀ x ∈ bs, x < 256) (h : getS bs = some L) :
    L.length ≤ 64 ∧ (∀ x ∈ L, x.1 < 256 ∧ 2 ≤ x.2.1 ∧ x.2.1 + x.2.2 ≤ bs.length ∧ 6 ≤ x.2.2) ∧ L.Pairwise (fun x y => x.2.1 + x.2.2 ≤ y.2.1) := by
  obtain ⟨h1, h2, h3⟩ := scan_facts hb _ _ _ _ h (by omega)
  exact ⟨by omega, fun x hx => by have := h2 x hx; exact ⟨this.1, by omega, this.2.2⟩, h3⟩
end Go.Proofs.Ytjldcblklbikaaa

/- Bytes read as options: the walk. No condition but that the bytes fit a machine. -/
namespace Go.Proofs.Ytjldcblklbikaaa
open Go.RowKit
set_option linter.unusedVariables false
set_option linter.unusedSimpArgs false
/-- options as values: of each its kind, its data in block g -/
def rowO (g : Nat) (L : List (Nat × Nat × Nat)) : List Value := L.flatMap fun x => [.int .u8 (x.1 : Int), .slice (some ⟨g, x.2.1, none⟩) x.2.2 x.2.2]
theorem rowO_length (g : Nat) (L : List (Nat × Nat × Nat)) : (rowO g L).length = 2 * L.length := by
  induction L with
  | nil => rfl
  | cons x L ih => simp only [rowO, List.flatMap_cons, List.length_append, List.length_cons, List.length_nil] at ih ⊢; omega
theorem Turned.grown {b : Nat} {o : Obj} {w w' : World} (h : Turned b o w w') : w.grownBy w' (some b) := ⟨h.os, h.tape, h.output, by rw [h.size]; exact Nat.le_refl _, fun k _ hk => h.other (fun e => hk (by rw [e]))⟩
/-- how many bytes a cutter has left -/
def leftN (W : World) (p : Nat) : Nat := match W.heap[p]? with
  | some (.cells cs _ _) => match cs[0]? with
    | some (Value.slice _ n _) => n
    | _ => 0
  | _ => 0
theorem rowO_snoc (g : Nat) (L : List (Nat × Nat × Nat)) (x : Nat × Nat × Nat) : rowO g (L ++ [x]) = rowO g L ++ [.int .u8 (x.1 : Int), .slice (some ⟨g, x.2.1, none⟩) x.2.2 x.2.2] := by simp [rowO]
theorem nextO_short {bs : List Nat} {pos : Nat} (h : ¬ pos + 1 < bs.length) : nextO bs pos = none := by unfold nextO; rw [if_neg (fun x => h x.1)]
theorem nextO_zero {bs : List Nat} {pos : Nat} (h : bs[pos + 1]? = some 0) : nextO bs pos = none := by
  unfold nextO; rw [if_neg]; rw [List.getD_eq_getElem?_getD, h]; simp
theorem nextO_far {bs : List Nat} {pos m : Nat} (h : bs[pos + 1]? = some m) (hf : ¬ pos + 8 * m ≤ bs.length) : nextO bs pos = none := by
  unfold nextO; rw [if_neg]; rw [List.getD_eq_getElem?_getD, h]; simp only [Option.getD_some]; omega
theorem nextO_some {bs : List Nat} {pos kd m : Nat} (hk : bs[pos]? = some kd) (h : bs[pos + 1]? = some m) (h0 : m ≠ 0) (hf : pos + 8 * m ≤ bs.length) : nextO bs pos = some (kd, 8 * m) := by
  have := (List.getElem?_eq_some_iff.1 h).1
  unfold nextO
  rw [List.getD_eq_getElem?_getD, List.getD_eq_getElem?_getD, h, hk, if_pos]
  · rfl
  · simp only [Option.getD_some]; omega
theorem own_slice2 {w : World} {base e size n : Nat} {v : Value} {xs : List Value} (h : w.ownsRow base e size v n xs) : ∃ q c, v = .slice q n c ∧ n ≤ c := by
  rcases h.2 with ⟨rfl, rfl⟩ | ⟨g, cap, cur, rfl, hb, hg, hn, _⟩
  · exact ⟨none, 0, rfl, Nat.le_refl _⟩
  · exact ⟨_, cap, rfl, hn⟩
end Go.Proofs.Ytjldcblklbikaaa
