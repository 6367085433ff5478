/- Is a text an address, is it none; the chapter's answers. -/
import Derived.Test.YtepoaapadalnoaaDoorGetE
import Derived.Stop.BytesEq
namespace Go.Proofs.YtepoaapadalnoaaDoor
open Go.RowKit
set_option linter.unusedVariables false
set_option linter.unusedSimpArgs false
theorem adr_cell {a : Nat → Nat} (ha : ∀ i, i < 16 → a i < 256) : adrCells a = (((List.range 16).map fun i => UInt8.ofNat (a i)).map Extern.Stop.cell).toArray := by
  unfold adrCells adrL rowL
  rw [List.map_map]
  congr 1
  refine List.map_congr_left fun i hi => ?_
  have := ha i (by simpa using hi)
  simp [Extern.Stop.cell, Nat.mod_eq_of_lt this]
def adrEq (a b : Nat → Nat) : Bool := ((List.range 16).map fun i => UInt8.ofNat (a i)) == ((List.range 16).map fun i => UInt8.ofNat (b i))
theorem size5 (w : World) : (sizeOf 5).run Tryd.prog w = .ok 1 w := by
  have h : (Tryd.prog.info? 5).map (·.size) = some 1 := by kernel_rfl
  cases e : Tryd.prog.info? 5 with
  | none => rw [e] at h; cases h
  | some i => rw [e] at h; simp only [Option.map_some, Option.some.injEq] at h; simp [sizeOf, typeInfo, e, h]
theorem adr_eql {a b : Nat → Nat} (ha : ∀ i, i < 16 → a i < 256) (hb : ∀ i, i < 16 → b i < 256) (W : World) : (binOp .eql 23 (.agg (adrCells a)) (.agg (adrCells b))).run Tryd.prog W = .ok (.bool (adrEq a b)) W := by
  rw [adr_cell ha, adr_cell hb, run_eql_bytes W 23 5 16 (by kernel_rfl) (by kernel_rfl) size5 _ _ (by simp) (by simp)]
  rfl
theorem adrEq_iff {a b : Nat → Nat} (ha : ∀ i, i < 16 → a i < 256) (hb : ∀ i, i < 16 → b i < 256) : adrEq a b = true ↔ ∀ i, i < 16 → a i = b i := by
  unfold adrEq
  rw [beq_iff_eq]
  constructor
  · intro h i hi
    have h1 := congrArg (fun l => l[i]?) h
    simp only [List.getElem?_map, List.getElem?_range hi, Option.map_some, Option.some.injEq] at h1
    have h2 := congrArg UInt8.toNat h1
    simpa [Nat.mod_eq_of_lt (ha i hi), Nat.mod_eq_of_lt (hb i hi)] using h2
  · intro h
    refine List.map_congr_left fun i hi => ?_
    rw [h i (by simpa using hi)]
theorem adrG_lt {l : List Nat} (h : ∀ x ∈ l, x < 65536) : ∀ i, i < 16 → adrG l i < 256 := fun i _ => by
  have hx : l.getD (i / 2) 0 < 65536 := by
    rw [List.getD_eq_getElem?_getD]
    cases he : l[i / 2]? with
    | none => decide
    | some z => exact h z (List.mem_of_getElem? he)
  unfold adrG
  split <;> omega
/-- is a text an address? -/
def isL (s : List UInt8) (a : Nat → Nat) : Bool := match getL s with | some l => adrEq a (adrG l) | none => false
theorem getV_form (r : Option (List Nat)) : ∃ (c : Nat → Nat) (z : Int), getV r = .tuple #[.agg (adrCells c), .int .i64 z] ∧ ((z = 4 ∧ r = none ∧ c = fun _ => 0) ∨ (z = 0 ∧ ∃ l, r = some l ∧ c = adrG l)) := by
  cases r with
  | none => exact ⟨fun _ => 0, 4, rfl, .inl ⟨rfl, rfl, rfl⟩⟩
  | some l => exact ⟨adrG l, 0, rfl, .inr ⟨rfl, l, rfl, rfl⟩⟩
theorem wpList_load_row_w {P : Program} {ops : Array Oper} {rest : List Oper} {o : Oper} {a : Act} {w : World} {Q : Exit → Act → World → Prop} (hw : Region.wanted o (yielded ops a.tmps) = true) (ty : TypeId) (x : Operand) (ho : o.op = .load ty x)
    (g : Nat) (hx : a.eval x = .pointer (some ⟨g, 0, none⟩)) (t : TypeId) (cs : Array Value) (fr : Nat × Nat) (d : TypeDesc) (hg : w.heap[g]? = some (.cells cs t fr))
    (hu : P.underlying ty = some d) (hd : (match d with | .struct _ | .array _ _ => true | _ => false) = true) (hi : (P.info? ty).map (·.size) = some cs.size)
    (h : wpList P ops Q rest (a.put o.dst (.agg cs)) w) : wpList P ops Q (o :: rest) a w :=
  wpList_step fun K hK => by rw [if_pos hw]; exact wp_load_row ty x ho g hx t cs fr d hg hu hd hi (hK _ _ h)
set_option maxRecDepth 100000 in
set_option maxHeartbeats 1000000 in
theorem none16 (s : ByteArray) (w : World) (L : Lay07 w) (hs : s.size < 1000000000) :
    Calls Tryd.prog 16 #[.string s] w fun e w' => e = .returned (.bool (getL s.data.toList).isNone) ∧ Below w.heap.size w w' := by
  have HL := Lib.hid L
  clear L
  go_enter Tryd.func16, Tryd.ntmps16
  go_wp2_with fail
  refine (get11 s _ HL.out hs).mono ?_
  rintro e w1 ⟨rfl, b1⟩
  obtain ⟨c, z, hv, hz⟩ := getV_form (getL s.data.toList)
  rw [hv]
  have hG : (w1.alloc (.cells (adrCells fun _ => 0) 23)).heap[w1.heap.size]? = some (.cells (adrCells fun _ => 0) 23 (0, 0)) := heap_alloc_new _ _
  have t := Turned.setRow hG (adrCells c)
  have hG2 := t.get (lt_of_blk hG)
  have hB := b1.trans ((((Below.refl w1.heap.size w1).alloc (Nat.le_refl _) (.cells (adrCells fun _ => 0) 23)).trans (t.below (Nat.le_refl _))).mono b1.size)
  have HS : Hid ((Tryd.prog.info? 23).map (·.size) = some (adrCells c).size) := Lib.hid (by rw [adrCells_size]; kernel_rfl)
  rw [← zeroAdr] at hG hG2 hB
  have H1 := Lib.hid hG; have H2 := Lib.hid hG2; have HB := Lib.hid hB; have HZ := Lib.hid hz
  clear b1 hv t hG hG2 hB hz
  rcases HZ.out with ⟨rfl, hn, hc⟩ | ⟨rfl, l, hl, hc⟩
  · have he : ∀ W, (binOp .eql 23 (.agg (adrCells c)) (.agg (adrCells fun _ => 0))).run Tryd.prog W = .ok (.bool true) W := fun W => by
      rw [hc, adr_eql (fun _ _ => by decide) (fun _ _ => by decide) W, show adrEq (fun _ => 0) (fun _ => 0) = true by decide +kernel]
    rw [← zeroAdr] at he
    have HN := Lib.hid hn
    clear HZ hn hc
    go_wp2_with (first
      | (refine wpList_store_row rfl 23 _ _ rfl w1.heap.size (adrCells c) rfl rfl 23 _ H1.out HS.out ?hold (cells_one _ _ _) ?_)
      | (refine wpList_load_row_w rfl 23 _ rfl w1.heap.size rfl 23 _ (0, 0) _ H2.out Tryd.underlying23 rfl HS.out ?_))
    case hold => exact Eq.trans (by kernel_rfl) (adrCells_size _).symm
    go_ret
    exact ⟨by rw [HN.out]; rfl, HB.out⟩
  · have HN := Lib.hid hl
    clear HZ hl hc
    go_wp2_with (first
      | (refine wpList_store_row rfl 23 _ _ rfl w1.heap.size (adrCells c) rfl rfl 23 _ H1.out HS.out ?hold (cells_one _ _ _) ?_)
      | (refine wpList_load_row_w rfl 23 _ rfl w1.heap.size rfl 23 _ (0, 0) _ H2.out Tryd.underlying23 rfl HS.out ?_))
    case hold => exact Eq.trans (by kernel_rfl) (adrCells_size _).symm
    go_ret
    exact ⟨by rw [HN.out]; rfl, HB.out⟩
set_option maxRecDepth 100000 in
set_option maxHeartbeats 1000000 in
theorem is13 (s : ByteArray) (a : Nat → Nat) (w : World) (L : Lay07 w) (hs : s.size < 1000000000) (ha : ∀ i, i < 16 → a i < 256) :
    Calls Tryd.prog 13 #[.string s, .agg (adrCells a)] w fun e w' => e = .returned (.bool (isL s.data.toList a)) ∧ Below w.heap.size w w' := by
  have B0 : Below w.heap.size w (w.alloc (.cells (adrCells a) 23)) := (Below.refl _ _).alloc (Nat.le_refl _) _
  have hA0 : (w.alloc (.cells (adrCells a) 23)).heap[w.heap.size]? = some (.cells (adrCells a) 23 (0, 0)) := heap_alloc_new _ _
  have HL := Lib.hid (L.step B0)
  clear L
  go_enter Tryd.func13, Tryd.ntmps13
  go_wp2_with fail
  refine (get11 s _ HL.out hs).mono ?_
  rintro e w1 ⟨rfl, b1⟩
  have hA1 := (b1.block _ (lt_of_blk hA0)).trans hA0
  have B1 := B0.trans (b1.mono B0.size)
  obtain ⟨c, z, hv, hz⟩ := getV_form (getL s.data.toList)
  rw [hv]
  have hG : (w1.alloc (.cells (adrCells fun _ => 0) 23)).heap[w1.heap.size]? = some (.cells (adrCells fun _ => 0) 23 (0, 0)) := heap_alloc_new _ _
  have t := Turned.setRow hG (adrCells c)
  have hG2 := t.get (lt_of_blk hG)
  have hA := lt_of_blk hA1
  have hA2 := (t.other (k := w.heap.size) (by omega)).trans ((heap_alloc_old w1 (.cells (adrCells fun _ => 0) 23) hA).trans hA1)
  have hB := B1.trans ((((Below.refl w1.heap.size w1).alloc (Nat.le_refl _) (.cells (adrCells fun _ => 0) 23)).trans (t.below (Nat.le_refl _))).mono B1.size)
  have HS : Hid ((Tryd.prog.info? 23).map (·.size) = some (adrCells c).size) := Lib.hid (by rw [adrCells_size]; kernel_rfl)
  have HSA : Hid ((Tryd.prog.info? 23).map (·.size) = some (adrCells a).size) := Lib.hid (by rw [adrCells_size]; kernel_rfl)
  rw [← zeroAdr] at hG hG2 hB hA2
  have H1 := Lib.hid hG; have H2 := Lib.hid hG2; have HB := Lib.hid hB; have HZ := Lib.hid hz; have HA := Lib.hid hA2
  clear b1 hv t hG hG2 hB hz hA0 hA1 hA2 B0 B1 HL
  rcases HZ.out with ⟨rfl, hn, hc⟩ | ⟨rfl, l, hl, hc⟩
  · have HN := Lib.hid hn
    clear HZ hn hc
    go_wp2_with (first
      | (refine wpList_store_row rfl 23 _ _ rfl w1.heap.size (adrCells c) rfl rfl 23 _ H1.out HS.out ?hold (cells_one _ _ _) ?_)
      | (refine wpList_load_row_w rfl 23 _ rfl w1.heap.size rfl 23 _ (0, 0) _ H2.out Tryd.underlying23 rfl HS.out ?_))
    case hold => exact Eq.trans (by kernel_rfl) (adrCells_size _).symm
    go_ret
    exact ⟨by unfold isL; rw [HN.out]; rfl, HB.out⟩
  · have he : ∀ W, (binOp .eql 23 (.agg (adrCells a)) (.agg (adrCells c))).run Tryd.prog W = .ok (.bool (adrEq a c)) W := fun W => by
      rw [hc]; exact adr_eql ha (adrG_lt (getL_lt hl).2) W
    have HN := Lib.hid hl
    have HC := Lib.hid hc
    clear HZ hl hc
    go_wp2_with (first
      | (refine wpList_store_row rfl 23 _ _ rfl w1.heap.size (adrCells c) rfl rfl 23 _ H1.out HS.out ?hold (cells_one _ _ _) ?_)
      | (refine wpList_load_row_w rfl 23 _ rfl w.heap.size rfl 23 _ (0, 0) _ HA.out Tryd.underlying23 rfl HSA.out ?_)
      | (refine wpList_load_row_w rfl 23 _ rfl w1.heap.size rfl 23 _ (0, 0) _ H2.out Tryd.underlying23 rfl HS.out ?_))
    case hold => exact Eq.trans (by kernel_rfl) (adrCells_size _).symm
    go_ret
    have e2 : isL s.data.toList a = adrEq a c := by
      unfold isL; rw [HN.out, HC.out]
    exact ⟨by rw [e2]; rfl, HB.out⟩
end Go.Proofs.YtepoaapadalnoaaDoor
