/- A pool in memory; which datagram has a name: the walks. No condition but that the pool is one. -/
import Derived.Test.YtjldcblklbikaaaFE
namespace Go.Proofs.Ytjldcblklbikaaa
open Go.RowKit
set_option linter.unusedVariables false
set_option linter.unusedSimpArgs false
/-- a datagram in the pool, and where it lies -/
structure Dg where
  blk : Nat
  src : List Nat
  dst : List Nat
  id : Nat
  over : Nat
  bad : Bool
  v : Value
  L : List El
def Dg.cells (d : Dg) : List Value := nmL d.src d.dst d.id ++ [.int .u64 (d.over : Int), .bool d.bad, d.v]
/-- a body in a block of its own -/
structure BodyAt (w : World) (e : El) : Prop where
  bs : Bs w w.heap.size e.adr e.cap e.pk.body
  blk : e.adr = none ∨ ∃ g cur, e.adr = some ⟨g, 0, none⟩ ∧ w.heap[g]? = some (.cells cur 5 (0, 0)) ∧ e.cap ≤ cur.size
theorem BodyAt.keep {w w' : World} {e : El} (h : BodyAt w e) (hk : ∀ g, e.adr = some ⟨g, 0, none⟩ → w'.heap[g]? = w.heap[g]?) (hs : w.heap.size ≤ w'.heap.size) : BodyAt w' e := by
  refine ⟨⟨fun hl => ?_, h.bs.cap, h.bs.nil, h.bs.max⟩, ?_⟩
  · obtain ⟨b, o, hA, hb, hc⟩ := h.bs.rd hl
    refine ⟨b, o, hA, by omega, fun k x hx => ?_⟩
    rcases h.blk with h1 | ⟨g, cur, h1, h2, h3⟩
    · rw [h1] at hA; cases hA
    · rw [h1] at hA; cases hA
      exact (World.cell?_of_block (w := w) (a := ⟨b, 0 + k, none⟩) (hk b h1)).trans (hc k x hx)
  · rcases h.blk with h1 | ⟨g, cur, h1, h2, h3⟩
    · exact .inl h1
    · exact .inr ⟨g, cur, h1, (hk g h1).trans h2, h3⟩
theorem own_keep {w w' : World} {B e s n : Nat} {v : Value} {xs : List Value} (h : w.ownsRow B e s v n xs) (hk : ∀ k, v.ownBlock = some k → w'.heap[k]? = w.heap[k]?) : w'.ownsRow B e s v n xs :=
  ⟨h.1, h.2.imp_right fun ⟨g, cap, cur, hv, hb, hg, r⟩ => ⟨g, cap, cur, hv, hb, (hk g (by rw [hv]; rfl)).trans hg, r⟩⟩
/-- what was there stays, but for the blocks of F -/
structure Kept (F : Nat → Prop) (w w' : World) : Prop where
  os : w'.os = w.os
  tape : w'.tape = w.tape
  output : w'.output = w.output
  size : w.heap.size ≤ w'.heap.size
  block : ∀ k, k < w.heap.size → ¬ F k → w'.heap[k]? = w.heap[k]?
theorem Kept.refl (F : Nat → Prop) (w : World) : Kept F w w := ⟨rfl, rfl, rfl, Nat.le_refl _, fun _ _ _ => rfl⟩
theorem Kept.trans {F G : Nat → Prop} {a b c : World} (h : Kept F a b) (k : Kept G b c) (hG : ∀ i, i < a.heap.size → G i → F i) : Kept F a c :=
  ⟨k.os.trans h.os, k.tape.trans h.tape, k.output.trans h.output, Nat.le_trans h.size k.size, fun i hi hf => (k.block i (Nat.lt_of_lt_of_le hi h.size) (fun hg => hf (hG i hi hg))).trans (h.block i hi hf)⟩
theorem Kept.mono {F G : Nat → Prop} {a b : World} (h : Kept F a b) (hG : ∀ i, i < a.heap.size → F i → G i) : Kept G a b := ⟨h.os, h.tape, h.output, h.size, fun i hi hf => h.block i hi (fun hg => hf (hG i hi hg))⟩
theorem Kept.of_below {F : Nat → Prop} {a b : World} {B : Nat} (h : Below B a b) (hB : a.heap.size ≤ B) : Kept F a b := ⟨h.os, h.tape, h.output, h.size, fun i hi _ => h.block i (by omega)⟩
theorem Kept.of_turned {F : Nat → Prop} {a b : World} {k : Nat} {o : Obj} (h : Turned k o a b) (hk : F k) : Kept F a b := ⟨h.os, h.tape, h.output, by rw [h.size]; exact Nat.le_refl _, fun i _ hf => h.other (fun e => hf (e ▸ hk))⟩
theorem Kept.of_grown {F : Nat → Prop} {a b : World} {r : Option Nat} (h : a.grownBy b r) (hr : ∀ k, r = some k → F k) : Kept F a b := ⟨h.os, h.tape, h.output, h.size, fun i hi hf => h.block i hi (fun e => hf (hr i e.symm))⟩
theorem Kept.below {F : Nat → Prop} {a b : World} (h : Kept F a b) {B : Nat} (hB : B ≤ a.heap.size) (hF : ∀ k, F k → B ≤ k) : Below B a b := ⟨h.os, h.tape, h.output, h.size, fun i hi => h.block i (by omega) (fun hf => by have := hF i hf; omega)⟩
structure DgAt (w : World) (d : Dg) : Prop where
  blk : w.heap[d.blk]? = some (.cells d.cells.toArray 75 (0, 0))
  src : d.src.length = 16
  dst : d.dst.length = 16
  src8 : ∀ y ∈ d.src, y < 256
  dst8 : ∀ y ∈ d.dst, y < 256
  id : d.id < 4294967296
  over : d.over < 18446744073709551616
  own : w.ownsRow 0 43 40 d.v d.L.length (d.L.flatMap El.cells)
  each : ∀ e ∈ d.L, PkOk e.pk ∧ BodyAt w e ∧ e.pk.body.length ≤ 1000000
  many : d.L.length ≤ 32
def ptrTo (d : Dg) : Value := .pointer (some ⟨d.blk, 0, none⟩)
structure PoolAt (w : World) (pb : Nat) (rv : Value) (D : List Dg) : Prop where
  blk : w.heap[pb]? = some (.cells #[rv, .bool true] 58 (0, 0))
  row : w.ownsRow 0 71 1 rv D.length (D.map ptrTo)
  each : ∀ d ∈ D, DgAt w d
  blks : D.Pairwise fun a b => a.blk ≠ b.blk
  rows : D.Pairwise fun a b => a.v.ownBlock = none ∨ a.v.ownBlock ≠ b.v.ownBlock
  four : D.length ≤ 4
/-- the blocks that are a datagram's own, a pool's own; those of the bodies -/
def Dg.foot (d : Dg) (k : Nat) : Prop := k = d.blk ∨ d.v.ownBlock = some k
def foot (pb : Nat) (rv : Value) (D : List Dg) (k : Nat) : Prop := k = pb ∨ rv.ownBlock = some k ∨ ∃ d ∈ D, d.foot k
def Dg.bods (d : Dg) (k : Nat) : Prop := ∃ e ∈ d.L, e.adr = some ⟨k, 0, none⟩
def bods (D : List Dg) (k : Nat) : Prop := ∃ d ∈ D, d.bods k
theorem DgAt.keep {w w' : World} {d : Dg} (h : DgAt w d) (hk : ∀ k, d.foot k ∨ d.bods k → w'.heap[k]? = w.heap[k]?) (hs : w.heap.size ≤ w'.heap.size) : DgAt w' d :=
  ⟨(hk _ (.inl (.inl rfl))).trans h.blk, h.src, h.dst, h.src8, h.dst8, h.id, h.over, own_keep h.own (fun k e => hk k (.inl (.inr e))), fun e he => ⟨(h.each e he).1, (h.each e he).2.1.keep (fun g hg => hk g (.inr ⟨e, he, hg⟩)) hs, (h.each e he).2.2⟩, h.many⟩
theorem PoolAt.keep {w w' : World} {pb : Nat} {rv : Value} {D : List Dg} (h : PoolAt w pb rv D) (hk : ∀ k, foot pb rv D k ∨ bods D k → w'.heap[k]? = w.heap[k]?) (hs : w.heap.size ≤ w'.heap.size) : PoolAt w' pb rv D :=
  ⟨(hk _ (.inl (.inl rfl))).trans h.blk, own_keep h.row (fun k e => hk k (.inl (.inr (.inl e)))), fun d hd => (h.each d hd).keep (fun k hf => hk k (hf.imp (fun f => .inr (.inr ⟨d, hd, f⟩)) (fun b => ⟨d, hd, b⟩))) hs, h.blks, h.rows, h.four⟩
theorem own_lt {w : World} {B e s n : Nat} {v : Value} {xs : List Value} (h : w.ownsRow B e s v n xs) {k : Nat} (hk : v.ownBlock = some k) : k < w.heap.size := (h.lt k hk).2
theorem BodyAt.lt {w : World} {e : El} (h : BodyAt w e) {k : Nat} (hk : e.adr = some ⟨k, 0, none⟩) : k < w.heap.size := by
  rcases h.blk with h1 | ⟨g, cur, h1, h2, h3⟩
  · rw [h1] at hk; cases hk
  · rw [h1] at hk; cases hk; exact lt_of_blk h2
theorem PoolAt.lt {w : World} {pb : Nat} {rv : Value} {D : List Dg} (h : PoolAt w pb rv D) {k : Nat} (hk : foot pb rv D k ∨ bods D k) : k < w.heap.size := by
  rcases hk with (rfl | hk | ⟨d, hd, rfl | hk⟩) | ⟨d, hd, e, he, hk⟩
  · exact lt_of_blk h.blk
  · exact own_lt h.row hk
  · exact lt_of_blk (h.each d hd).blk
  · exact own_lt (h.each d hd).own hk
  · exact ((h.each d hd).each e he).2.1.lt hk
theorem PoolAt.below {w w' : World} {pb : Nat} {rv : Value} {D : List Dg} (h : PoolAt w pb rv D) (hb : Below w.heap.size w w') : PoolAt w' pb rv D := h.keep (fun k hk => hb.block k (h.lt hk)) hb.size
theorem Dg.len {w : World} {d : Dg} (h : DgAt w d) : d.cells.length = 36 := by simp [Dg.cells, nmL_length h.src h.dst]
theorem Dg.tail {w : World} {d : Dg} (h : DgAt w d) (j : Nat) : w.cell? ⟨d.blk, 33 + j, none⟩ = ([.int .u64 (d.over : Int), .bool d.bad, d.v] : List Value)[j]? := by
  have e : d.cells[33 + j]? = ([.int .u64 (d.over : Int), .bool d.bad, d.v] : List Value)[j]? := by
    unfold Dg.cells
    rw [List.getElem?_append_right (by rw [nmL_length h.src h.dst]; omega), nmL_length h.src h.dst]; congr 1; omega
  rw [cell_blk h.blk]; simpa using e
theorem Dg.name {w : World} {d : Dg} (h : DgAt w d) : w.rangeAt d.blk 0 (nmL d.src d.dst d.id) := fun j v hj => by
  rw [Nat.zero_add, cell_blk h.blk]
  have e : d.cells[j]? = some v := by
    unfold Dg.cells
    rw [List.getElem?_append_left (List.getElem?_eq_some_iff.1 hj).1]; exact hj
  simpa using e
/-- a row of one's own reads as packets -/
theorem own_pks {w : World} {B : Nat} {v : Value} {L : List El} (h : w.ownsRow B 43 40 v L.length (L.flatMap El.cells)) (he : ∀ e ∈ L, PkOk e.pk ∧ Bs w w.heap.size e.adr e.cap e.pk.body ∧ e.pk.body.length ≤ 1000000) (hm : L.length ≤ 100000) :
    ∃ A c, v = .slice A L.length c ∧ PksRd w w.heap.size A L := by
  rcases h.2 with ⟨rfl, hl⟩ | ⟨g, cap, cur, rfl, hb, hg, hn, hx, hs, ht⟩
  · exact ⟨none, 0, by rw [hl], hm, he, fun hne => absurd (List.length_eq_zero_iff.1 hl) hne⟩
  · refine ⟨_, _, rfl, hm, he, fun hne => ⟨g, 0, rfl, lt_of_blk hg, fun k e hk j v hj => ?_⟩⟩
    have hlen : ∀ e ∈ L, e.cells.length = 40 := fun e hm => (El.at_ (he e hm).1).len
    have hcell : ∀ (M : List El), (∀ e ∈ M, e.cells.length = 40) → ∀ (k : Nat) (e : El), M[k]? = some e → ∀ j v, e.cells[j]? = some v → (M.flatMap El.cells)[k * 40 + j]? = some v := by
      intro M
      induction M with
      | nil => intro _ k e hk; simp at hk
      | cons m M ih =>
        intro hM k e hk j v hj
        rw [List.flatMap_cons]
        cases k with
        | zero =>
          simp at hk; subst hk
          rw [Nat.zero_mul, Nat.zero_add, List.getElem?_append_left (List.getElem?_eq_some_iff.1 hj).1]; exact hj
        | succ k =>
          have h40 := hM m List.mem_cons_self
          rw [List.getElem?_append_right (by omega), h40, show (k + 1) * 40 + j - 40 = k * 40 + j by omega]
          exact ih (fun e he => hM e (List.mem_cons_of_mem _ he)) k e (by simpa using hk) j v hj
    have h1 := hcell L hlen k e hk j v hj
    rw [← ht, List.getElem?_take] at h1
    split at h1
    · rw [Nat.zero_add, cell_blk hg]
      simpa using h1
    · cases h1
end Go.Proofs.Ytjldcblklbikaaa
