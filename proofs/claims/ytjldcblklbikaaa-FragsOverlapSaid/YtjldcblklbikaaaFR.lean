/- A datagram spoilt, made, grown, in memory; the walk's helpers. No condition. -/
import Derived.Test.YtjldcblklbikaaaFQ
import Derived.Great.BuildSlice
import Derived.Deep.CutBlock
namespace Go.Proofs.Ytjldcblklbikaaa
open Go.RowKit
set_option linter.unusedVariables false
set_option linter.unusedSimpArgs false
theorem Turned.same {b : Nat} {o : Obj} {w w' : World} (h : Turned b o w w') (hb : w.heap[b]? = some o) (B : Nat) : Below B w w' := ⟨h.os, h.tape, h.output, by rw [h.size]; exact Nat.le_refl _, fun k hk => by
  by_cases e : k = b
  · subst e; rw [h.get (lt_of_blk hb), hb]
  · exact h.other e⟩
theorem dg_set {s d : List Nat} {i : Nat} {T : List Value} {j : Nat} {v : Value} (h1 : s.length = 16) (h2 : d.length = 16) : (nmL s d i ++ T).toArray.setIfInBounds (33 + j) v = (nmL s d i ++ T.set j v).toArray := by
  rw [List.setIfInBounds_toArray, List.set_append_right _ _ (by rw [nmL_length h1 h2]; omega), nmL_length h1 h2, show 33 + j - 33 = j by omega]
def Dg.spoiled (d : Dg) : Dg := { d with bad := true, v := .slice none 0 0, L := [] }
theorem spoiled_cells {w : World} {d : Dg} (h : DgAt w d) : ((d.cells.toArray.setIfInBounds 34 (.bool true)).setIfInBounds 35 (.slice none 0 0)) = d.spoiled.cells.toArray := by
  unfold Dg.cells
  rw [show (34 : Nat) = 33 + 1 from rfl, dg_set h.src h.dst, show (35 : Nat) = 33 + 2 from rfl, dg_set h.src h.dst]
  rfl
theorem DgAt.spoil {w w' : World} {d : Dg} (h : DgAt w d) (ht : Turned d.blk (.cells d.spoiled.cells.toArray 75 (0, 0)) w w') : DgAt w' d.spoiled :=
  ⟨ht.get (lt_of_blk h.blk), h.src, h.dst, h.src8, h.dst8, h.id, h.over, World.ownsRow_nil _ _ _ _, fun e he => (by cases he), (by show (0 : Nat) ≤ 32; omega)⟩
theorem PoolAt.spoil {w w' : World} {pb : Nat} {rv : Value} {D : List Dg} {k : Nat} {d : Dg} (h : PoolAt w pb rv D) (hk : D[k]? = some d) (ht : Turned d.blk (.cells d.spoiled.cells.toArray 75 (0, 0)) w w') : AddMem pb rv D w w' rv (D.set k d.spoiled) :=
  h.set hk rfl ((h.each d (List.mem_of_getElem? hk)).spoil ht) (Kept.of_turned ht (.inl rfl)) (fun g hg => by cases hg) (fun g hg => by obtain ⟨e, he, _⟩ := hg; cases he)
theorem spoiled_abs (d : Dg) : d.spoiled.abs = spoilS d.abs := rfl
/-- a datagram without parts -/
def Dg.fresh (b : Nat) (x : Pk) (over : Nat) : Dg := ⟨b, x.src, x.dst, x.id, over, false, .slice none 0 0, []⟩
theorem built75 {s d : List Nat} {i o : Nat} (h1 : s.length = 16) (h2 : d.length = 16) : Try.prog.built 75 [(0, .agg (nmL s d i).toArray), (1, .int .u64 (o : Int))] = some (nmL s d i ++ [Value.int .u64 (o : Int), Value.bool false, Value.slice none 0 0]).toArray := by
  obtain ⟨a0, a1, a2, a3, a4, a5, a6, a7, a8, a9, a10, a11, a12, a13, a14, a15, rfl⟩ := list16 h1
  obtain ⟨b0, b1, b2, b3, b4, b5, b6, b7, b8, b9, b10, b11, b12, b13, b14, b15, rfl⟩ := list16 h2
  clear h1 h2
  kernel_rfl
theorem wpList_build2 {P : Program} {ops : Array Oper} {rest : List Oper} {o : Oper} {a : Act} {w : World} {Q : Exit → Act → World → Prop} (hg : o.guard = none) (t : TypeId) (i0 i1 : Nat) (x0 x1 : Operand) (ho : o.op = .build t #[(i0, x0), (i1, x1)])
    (v0 v1 : Value) (h0 : a.eval x0 = v0) (h1 : a.eval x1 = v1) (cs : Array Value) (hf : P.built t [(i0, v0), (i1, v1)] = some cs)
    (h : wpList P ops Q rest (a.put o.dst (.agg cs)) w) : wpList P ops Q (o :: rest) a w := by
  have e : ((#[(i0, x0), (i1, x1)] : Array (Nat × Operand)).map fun (i, x) => (i, a.eval x)).toList = [(i0, v0), (i1, v1)] := by simp [h0, h1]
  exact wpList_build hg t _ ho (by rw [e, hf]; rfl) (by rw [e, hf]; exact h)
theorem fill43 {x : Pk} {v : Value} (h1 : x.src.length = 16) (h2 : x.dst.length = 16) (hv : v.oneCell' = true) : Instr.fill (fun i => some (i * 40, 40)) ((Array.range (1 * 40)).map ((Value.agg (pkL nilPk none 0).toArray).cells[· % (Value.agg (pkL nilPk none 0).toArray).cells.size]!)) [(0, .agg (pkV x v).toArray)] = some (pkV x v).toArray := by
  obtain ⟨s, d, hops, alert, is, id, off, more, next, body⟩ := x
  simp only at h1 h2
  obtain ⟨a0, a1, a2, a3, a4, a5, a6, a7, a8, a9, a10, a11, a12, a13, a14, a15, rfl⟩ := list16 h1
  obtain ⟨b0, b1, b2, b3, b4, b5, b6, b7, b8, b9, b10, b11, b12, b13, b14, b15, rfl⟩ := list16 h2
  clear h1 h2
  cases v <;> first | kernel_rfl | cases hv
/-- one more datagram -/
theorem PoolAt.add {w w' : World} {pb : Nat} {rv rv' : Value} {D : List Dg} {d : Dg} (h : PoolAt w pb rv D) (h4 : D.length ≠ 4) (hb : w.heap.size ≤ d.blk) (hd : DgAt w' d) (hv : d.v.ownBlock = none) (hL : d.L = [])
    (hkeep : Kept (fun i => i = pb ∨ rv.ownBlock = some i) w w') (hbk : w'.heap[pb]? = some (.cells #[rv', .bool true] 58 (0, 0))) (hrow : w'.ownsRow 0 71 1 rv' (D.length + 1) (D.map ptrTo ++ [ptrTo d]))
    (hro : ∀ g, rv'.ownBlock = some g → rv.ownBlock = some g ∨ w.heap.size ≤ g) : AddMem pb rv D w w' rv' (D ++ [d]) := by
  have hno : ∀ (b : Dg), b ∈ D → ∀ i, b.foot i ∨ b.bods i → ¬ (i = pb ∨ rv.ownBlock = some i) := by
    intro b hbm i hi
    have hbd := h.each b hbm
    rcases hi with (rfl | hi) | hi
    · rintro (e | e)
      · have := hbd.kdb.one (e ▸ h.kdp); omega
      · have := hbd.kdb.one (h.kdr e); omega
    · rintro (e | e)
      · have := (hbd.kdv hi).one (e ▸ h.kdp); omega
      · have := (hbd.kdv hi).one (h.kdr e); omega
    · rintro (e | e)
      · have := (hbd.kdo hi).one (e ▸ h.kdp); omega
      · have := (hbd.kdo hi).one (h.kdr e); omega
  refine ⟨⟨hbk, ?_, ?_, ?_, ?_, ?_⟩, hkeep.mono fun i _ hf => hf.elim (fun e => .inl e) (fun e => .inr (.inl e)), ?_, ?_⟩
  · rw [List.length_append, List.map_append]; exact hrow
  · intro b hbm
    rcases List.mem_append.1 hbm with hbm | hbm
    · exact (h.each b hbm).keep (fun i hi => hkeep.block i (h.lt (hi.imp (fun f => .inr (.inr ⟨b, hbm, f⟩)) (fun o => ⟨b, hbm, o⟩))) (hno b hbm i hi)) hkeep.size
    · rw [List.mem_singleton] at hbm; subst hbm; exact hd
  · rw [List.pairwise_append]
    refine ⟨h.blks, List.pairwise_singleton _ _, fun a ha b hb' => ?_⟩
    rw [List.mem_singleton] at hb'; subst hb'
    have := lt_of_blk (h.each a ha).blk
    omega
  · rw [List.pairwise_append]
    refine ⟨h.rows, List.pairwise_singleton _ _, fun a ha b hb' => ?_⟩
    rw [List.mem_singleton] at hb'; subst hb'
    rw [hv]
    cases e : a.v.ownBlock with
    | none => exact .inl rfl
    | some g => exact .inr (fun x => by cases x)
  · rw [List.length_append, List.length_singleton]
    have := h.four; omega
  · rintro i (rfl | hi | ⟨b, hbm, hi⟩)
    · exact .inl (.inl rfl)
    · exact (hro i hi).imp (fun e => .inr (.inl e)) id
    · rcases List.mem_append.1 hbm with hbm | hbm
      · exact .inl (.inr (.inr ⟨b, hbm, hi⟩))
      · rw [List.mem_singleton] at hbm; subst hbm
        rcases hi with rfl | hi
        · exact .inr hb
        · rw [hv] at hi; cases hi
  · rintro i ⟨b, hbm, hi⟩
    rcases List.mem_append.1 hbm with hbm | hbm
    · exact .inl ⟨b, hbm, hi⟩
    · rw [List.mem_singleton] at hbm; subst hbm
      obtain ⟨e, he, _⟩ := hi
      rw [hL] at he; cases he
/-- some taken out -/
theorem PoolAt.del {w w' : World} {pb : Nat} {rv rv' : Value} {D : List Dg} {t : Dg → Bool} (h : PoolAt w pb rv D)
    (hkeep : Kept (fun i => i = pb ∨ rv.ownBlock = some i) w w') (hbk : w'.heap[pb]? = some (.cells #[rv', .bool true] 58 (0, 0))) (hrow : w'.ownsRow 0 71 1 rv' (D.filter t).length ((D.filter t).map ptrTo))
    (hro : ∀ g, rv'.ownBlock = some g → rv.ownBlock = some g) : AddMem pb rv D w w' rv' (D.filter t) := by
  have hno : ∀ (b : Dg), b ∈ D → ∀ i, b.foot i ∨ b.bods i → ¬ (i = pb ∨ rv.ownBlock = some i) := by
    intro b hbm i hi
    have hbd := h.each b hbm
    rcases hi with (rfl | hi) | hi
    · rintro (e | e)
      · have := hbd.kdb.one (e ▸ h.kdp); omega
      · have := hbd.kdb.one (h.kdr e); omega
    · rintro (e | e)
      · have := (hbd.kdv hi).one (e ▸ h.kdp); omega
      · have := (hbd.kdv hi).one (h.kdr e); omega
    · rintro (e | e)
      · have := (hbd.kdo hi).one (e ▸ h.kdp); omega
      · have := (hbd.kdo hi).one (h.kdr e); omega
  refine ⟨⟨hbk, hrow, ?_, h.blks.filter _, h.rows.filter _, Nat.le_trans (List.length_filter_le _ _) h.four⟩, hkeep.mono fun i _ hf => hf.elim (fun e => .inl e) (fun e => .inr (.inl e)), ?_, ?_⟩
  · intro b hbm
    have hbm := (List.mem_filter.1 hbm).1
    exact (h.each b hbm).keep (fun i hi => hkeep.block i (h.lt (hi.imp (fun f => .inr (.inr ⟨b, hbm, f⟩)) (fun o => ⟨b, hbm, o⟩))) (hno b hbm i hi)) hkeep.size
  · rintro i (rfl | hi | ⟨b, hbm, hi⟩)
    · exact .inl (.inl rfl)
    · exact .inl (.inr (.inl (hro i hi)))
    · exact .inl (.inr (.inr ⟨b, (List.mem_filter.1 hbm).1, hi⟩))
  · rintro i ⟨b, hbm, hi⟩
    exact .inl ⟨b, (List.mem_filter.1 hbm).1, hi⟩
end Go.Proofs.Ytjldcblklbikaaa
