/- Words for what Learn is told, and the world in which it begins. No condition. -/
import Derived.Test.YtkhbchgocilclaaMap
import Derived.Deep.MidRow
namespace Go.Proofs.Ytkhbchgocilclaa
open Go.RowKit
set_option linter.unusedVariables false

theorem wpList_load_mid_g {P : Program} {ops : Array Oper} {rest : List Oper} {op : Oper} {a : Act} {w : World} {Q : Exit → Act → World → Prop} (hw : Region.wanted op (yielded ops a.tmps) = true) (ty : TypeId) (x : Operand) (ho : op.op = .load ty x)
    (b o : Nat) (hx : a.eval x = .pointer (some ⟨b, o, none⟩)) (cs : List Value) (d : TypeDesc) (hc : w.rangeAt b o cs)
    (hu : P.underlying ty = some d) (hd : d.isRow = true) (hi : (P.info? ty).map (·.size) = some cs.length)
    (h : wpList P ops Q rest (a.put op.dst (.agg cs.toArray)) w) : wpList P ops Q (op :: rest) a w :=
  BigFrame.wpList_want hw fun _ hK => wp_load_mid ty x ho b o hx cs d hc hu hd hi (hK _ _ h)

/-- a prefix as it is told -/
structure Info where
  a : Nat → Nat
  n : Nat
  on : Bool
  au : Bool
  v : Nat
  pr : Nat
structure Info.Ok (i : Info) : Prop where
  a : ∀ k, k < 16 → i.a k < 256
  n : i.n < 256
  v : i.v < 4294967296
def Info.L (i : Info) : List Value := adrL i.a ++ [Value.int .u8 (i.n : Int), .bool i.on, .bool i.au, .int .u32 (i.v : Int), .int .u32 (i.pr : Int)]
def Info.cells (i : Info) : Array Value := i.L.toArray
def preL (a : Nat → Nat) (n : Nat) : List Value := adrL a ++ [Value.int .u8 (n : Int)]
theorem preL_length (a : Nat → Nat) (n : Nat) : (preL a n).length = 17 := by simp [preL, adrL_length]
theorem preL_one (a : Nat → Nat) (n : Nat) : ∀ v ∈ preL a n, v.oneCell' = true := by
  intro v hv
  rcases List.mem_append.1 hv with h | h
  · exact adrL_one a v h
  · rw [List.mem_singleton] at h; subst h; rfl
theorem Info.get (i : Info) : i.cells[17]? = some (.bool i.on) ∧ i.cells[19]? = some (.int .u32 (i.v : Int)) := by
  simp only [Info.cells, Info.L, List.getElem?_toArray]
  rw [List.getElem?_append_right (by rw [adrL_length]; omega), List.getElem?_append_right (by rw [adrL_length]; omega), adrL_length]
  exact ⟨rfl, rfl⟩
theorem range_info {w : World} {b : Nat} {t : TypeId} {z : Nat × Nat} {i : Info} (h : w.heap[b]? = some (.cells i.cells t z)) : w.rangeAt b 0 (preL i.a i.n) := by
  intro j v hj
  have hl : j < (preL i.a i.n).length := (List.getElem?_eq_some_iff.1 hj).1
  rw [preL_length] at hl
  rw [Nat.zero_add, cell_blk h]
  have e : i.L = preL i.a i.n ++ [.bool i.on, .bool i.au, .int .u32 (i.v : Int), .int .u32 (i.pr : Int)] := by simp [Info.L, preL]
  simp only [Info.cells, List.getElem?_toArray]
  rw [e, List.getElem?_append_left (by rw [preL_length]; exact hl), hj]
theorem info25 (a : Nat → Nat) (n : Nat) : (Try.prog.info? 25).map (·.size) = some (preL a n).length := by rw [preL_length]; kernel_rfl
theorem info23 (a : Nat → Nat) : (Try.prog.info? 23).map (·.size) = some (adrL a).length := by rw [adrL_length]; kernel_rfl
theorem zeroPre : #[Value.int .u8 0, .int .u8 0, .int .u8 0, .int .u8 0, .int .u8 0, .int .u8 0, .int .u8 0, .int .u8 0, .int .u8 0, .int .u8 0, .int .u8 0, .int .u8 0, .int .u8 0, .int .u8 0, .int .u8 0, .int .u8 0, .int .u8 0] = preCells (fun _ => 0) 0 := by kernel_rfl

/-- the world behind Learn's first two statements -/
structure Begun (i : Info) (b mb : Nat) (D : PD) (B1 B2 : Nat) (w w1 : World) : Prop where
  hb : w1.heap[b]? = some (.cells #[.map (some mb)] 58 (0, 0))
  h1 : w1.heap[B1]? = some (.cells i.cells 28 (0, 0))
  h2 : w1.heap[B2]? = some (.cells (preCells i.a i.n) 25 (0, 0))
  map : MapIs w1 mb D
  g1 : w.heap.size ≤ B1
  g2 : w.heap.size ≤ B2
  below : Below w.heap.size w w1

theorem MapIs.below {w w' : World} {mb B : Nat} {D : PD} (h : MapIs w mb D) (hb : Below B w w') (hlt : mb < B) : MapIs w' mb D := by
  obtain ⟨es, clock, hm, rest⟩ := h
  exact ⟨es, clock, (hb.block mb hlt).trans hm, rest⟩

theorem begun_mk {i : Info} {b mb : Nat} {D : PD} {w : World} (h : w.heap[b]? = some (.cells #[.map (some mb)] 58 (0, 0))) (hm : MapIs w mb D) :
    Begun i b mb D w.heap.size (w.heap.size + 1) w (((w.alloc (.cells i.cells 28)).alloc (.cells (preCells (fun _ => 0) 0) 25)).setRow (w.heap.size + 1) (preL i.a i.n).toArray) := by
  have hb := lt_of_blk h
  have hmb := hm.lt
  have t := Turned.setRow (heap_alloc2_new w (.cells i.cells 28) (.cells (preCells (fun _ => 0) 0) 25)) (preL i.a i.n).toArray
  have hB : Below w.heap.size w ((w.alloc (.cells i.cells 28)).alloc (.cells (preCells (fun _ => 0) 0) 25)) := ((Below.refl _ _).alloc (Nat.le_refl _) _).alloc (by simp) _
  have hB2 := hB.trans (t.below (B := w.heap.size) (by omega))
  refine ⟨(hB2.block b hb).trans h, (t.other (by omega)).trans (heap_alloc2_old _ _ _), t.get (by simp), hm.below hB2 hmb, Nat.le_refl _, by omega, hB2⟩


def putAt : Array Value → Nat → List Value → Array Value
  | c, _, [] => c
  | c, o, v :: r => putAt (c.setIfInBounds o v) (o + 1) r
theorem putAt_get : ∀ (vs : List Value) (c : Array Value) (o j : Nat), (putAt c o vs)[j]? = if o ≤ j ∧ j < o + vs.length ∧ j < c.size then vs[j - o]? else c[j]?
  | [], c, o, j => by simp only [putAt, List.length_nil]; rw [if_neg (by omega)]
  | v :: r, c, o, j => by
    rw [putAt, putAt_get r]
    simp only [Array.size_setIfInBounds, List.length_cons, Array.getElem?_setIfInBounds]
    by_cases h1 : o + 1 ≤ j ∧ j < o + 1 + r.length ∧ j < c.size
    · rw [if_pos h1, if_pos (by omega), show j - o = (j - (o + 1)) + 1 from by omega, List.getElem?_cons_succ]
    · rw [if_neg h1]
      by_cases h2 : o = j
      · subst h2
        by_cases h3 : o < c.size
        · rw [if_pos rfl, if_pos h3, if_pos (by omega), Nat.sub_self]; rfl
        · rw [if_pos rfl, if_neg h3, if_neg (by omega), Array.getElem?_eq_none (by omega)]
      · rw [if_neg h2, if_neg (by omega)]
theorem Turned.setCells {b : Nat} {t : TypeId} {z : Nat × Nat} : ∀ (vs : List Value) (o : Nat) (c : Array Value) (w : World), w.heap[b]? = some (.cells c t z) → Turned b (.cells (putAt c o vs) t z) w (w.setCells b o vs)
  | [], _, _, _, h => Turned.refl h
  | v :: r, o, c, w, h => by
    have t1 := Turned.setCell h o v
    exact t1.trans (Turned.setCells r (o + 1) _ _ (t1.get (lt_of_blk h)))
theorem putAt_pre (a x : Nat → Nat) (n : Nat) : putAt (preCells a n) 0 (adrL x) = preCells x n := by
  apply Array.ext_getElem?
  intro j
  have hs : (preCells a n).size = 17 := by simp [preCells, adrL_length]
  have hs2 : (preCells x n).size = 17 := by simp [preCells, adrL_length]
  rw [putAt_get, adrL_length, hs]
  by_cases h : j < 16
  · rw [if_pos (by omega), preCells_get _ _ h, Nat.sub_zero]
    have := adrCells_get x h
    simpa [adrCells] using this
  · rw [if_neg (by omega)]
    by_cases h2 : j = 16
    · subst h2; rw [preCells_last, preCells_last]
    · rw [Array.getElem?_eq_none (by omega), Array.getElem?_eq_none (by omega)]
theorem there_blk {w : World} {b : Nat} {c : Array Value} {t : TypeId} (h : w.heap[b]? = some (.cells c t (0, 0))) {n : Nat} (hn : n ≤ c.size) : w.there b 0 n := by
  intro j hj
  rw [Nat.zero_add]
  refine ⟨?_, frozen_blk h j⟩
  rw [cell_blk h, Array.getElem?_eq_getElem (by omega)]
  rfl
theorem range_preL {w : World} {b : Nat} {t : TypeId} {z : Nat × Nat} {a : Nat → Nat} {n : Nat} (h : w.heap[b]? = some (.cells (preCells a n) t z)) : w.rangeAt b 0 (preL a n) := by
  intro j v hj
  rw [Nat.zero_add, cell_blk h]
  simpa [preCells, preL] using hj
end Go.Proofs.Ytkhbchgocilclaa
