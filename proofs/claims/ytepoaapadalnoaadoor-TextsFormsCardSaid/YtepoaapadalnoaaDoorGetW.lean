/- The law on a text read as an address: the walk. No condition. -/
import Derived.Test.YtepoaapadalnoaaDoorGetK
import Derived.Test.YtepoaapadalnoaaDoorLives
namespace Go.Proofs.YtepoaapadalnoaaDoor
open Go.RowKit
set_option linter.unusedVariables false
set_option linter.unusedSimpArgs false
theorem getV_two (r : Option (List Nat)) : ∃ (c : Nat → Nat) (z : Int), getV r = .tuple #[.agg (adrCells c), .int .i64 z] ∧ (∀ l, r = some l → c = adrG l) ∧ (r = none → c = fun _ => 0) := by
  cases r with
  | none => exact ⟨fun _ => 0, 4, rfl, (by intro l h; cases h), (by intro _; rfl)⟩
  | some l => exact ⟨adrG l, 0, rfl, (by intro m h; cases h; rfl), (by intro h; cases h)⟩
/-- two addresses laid down, one behind the other -/
structure TwoA (A C : Nat) (a c : Nat → Nat) (w W : World) : Prop where
  lay : Lay07 W
  ha : W.heap[A]? = some (.cells (adrCells a) 23 (0, 0))
  hc : W.heap[C]? = some (.cells (adrCells c) 23 (0, 0))
  below : Below w.heap.size w W
structure OneA (A : Nat) (a : Nat → Nat) (w W : World) : Prop where
  lay : Lay07 W
  ha : W.heap[A]? = some (.cells (adrCells a) 23 (0, 0))
  hA : w.heap.size ≤ A
  below : Below w.heap.size w W
theorem OneA.step {A : Nat} {a : Nat → Nat} {w W W2 : World} (I : OneA A a w W) (hb : Below W.heap.size W W2) : OneA A a w W2 :=
  ⟨I.lay.step hb, (hb.block _ (lt_of_blk I.ha)).trans I.ha, I.hA, I.below.trans (hb.mono I.below.size)⟩
/-- a new variable takes an address -/
theorem lay_adr {w W : World} (L : Lay07 W) (hb : Below w.heap.size w W) (c : Nat → Nat) : OneA W.heap.size c w ((W.alloc (.cells (adrCells fun _ => 0) 23)).setRow W.heap.size (adrCells c)) ∧ ∀ k, k < W.heap.size → ((W.alloc (.cells (adrCells fun _ => 0) 23)).setRow W.heap.size (adrCells c)).heap[k]? = W.heap[k]? := by
  have hG : (W.alloc (.cells (adrCells fun _ => 0) 23)).heap[W.heap.size]? = some (.cells (adrCells fun _ => 0) 23 (0, 0)) := heap_alloc_new _ _
  have t := Turned.setRow hG (adrCells c)
  have hB : Below W.heap.size W ((W.alloc (.cells (adrCells fun _ => 0) 23)).setRow W.heap.size (adrCells c)) := ((Below.refl W.heap.size W).alloc (Nat.le_refl _) _).trans (t.below (Nat.le_refl _))
  exact ⟨⟨L.step hB, t.get (lt_of_blk hG), hb.size, hb.trans (hB.mono hb.size)⟩, fun k hk => hB.block k hk⟩
set_option maxRecDepth 100000 in
set_option maxHeartbeats 4000000 in
theorem textsGet_walk (s : ByteArray) (w : World) (L : Lay07 w) : Calls Tryd.prog 4 #[.string s] w fun e w' => e = .returned (.bool true) ∧ Below w.heap.size w w' := by
  have HL := Lib.hid L
  clear L
  by_cases h1 : 1000 < s.size
  · have h1i : (1000 : Int) < s.size := by omega
    go_enter Tryd.func4, Tryd.ntmps4
    go_wp2_with fail
    refine (lives10 _ HL.out).mono ?_
    rintro e w1 ⟨rfl, b1⟩
    have HB := Lib.hid b1
    clear b1
    go_wp2_with fail
    go_ret
    exact ⟨rfl, HB.out⟩
  · have h1i : ¬ ((1000 : Int) < s.size) := by omega
    go_enter Tryd.func4, Tryd.ntmps4
    go_wp2_with fail
    refine (get11 s _ HL.out (by omega)).mono ?_
    rintro e w1 ⟨rfl, b1⟩
    obtain ⟨c, z, hv, hcs, hcn⟩ := getV_two (getL s.data.toList)
    have hc256 : ∀ i, i < 16 → c i < 256 := by
      cases hg : getL s.data.toList with
      | none => rw [hcn hg]; intro i _; show (0 : Nat) < 256; decide
      | some l => rw [hcs l hg]; exact adrG_lt (getL_lt hg).2
    rw [hv]
    have HV := Lib.hid hv
    have he : ∀ W, (binOp .eql 23 (.agg (adrCells c)) (.agg (adrCells c))).run Tryd.prog W = .ok (.bool true) W := fun W => by
      rw [adr_eql hc256 hc256 W, show adrEq c c = true from beq_self_eq_true _]
    have HE := Lib.hid he
    have HS : Hid ((Tryd.prog.info? 23).map (·.size) = some (adrCells c).size) := Lib.hid (by rw [adrCells_size]; kernel_rfl)
    obtain ⟨hO, -⟩ := lay_adr (HL.out.step b1) b1 c
    have hG : (w1.alloc (.cells (adrCells fun _ => 0) 23)).heap[w1.heap.size]? = some (.cells (adrCells fun _ => 0) 23 (0, 0)) := heap_alloc_new _ _
    rw [← zeroAdr] at hO hG
    have HO := Lib.hid hO
    have H1 := Lib.hid hG
    clear hO hG b1 hv he hcs hcn hc256
    go_wp2_with (refine wpList_store_row rfl 23 _ _ rfl w1.heap.size (adrCells c) rfl rfl 23 _ H1.out HS.out ?hold (cells_one _ _ _) ?_)
    case hold => exact Eq.trans (by kernel_rfl) (adrCells_size _).symm
    refine (get12 s _ (by omega)).mono ?_
    rintro e w2 ⟨rfl, b2⟩
    rw [HV.out]
    have hO2 := HO.out.step b2
    obtain ⟨hP, hkeep⟩ := lay_adr hO2.lay hO2.below c
    have hA := (hkeep w1.heap.size (lt_of_blk hO2.ha)).trans hO2.ha
    have hG : (w2.alloc (.cells (adrCells fun _ => 0) 23)).heap[w2.heap.size]? = some (.cells (adrCells fun _ => 0) 23 (0, 0)) := heap_alloc_new _ _
    rw [← zeroAdr] at hP hG hA
    have HP := Lib.hid hP
    have H2 := Lib.hid hG
    have HA := Lib.hid hA
    clear hP hkeep hA hG hO2 b2 HO H1
    have he2 := HE.out
    go_wp2_with (first
      | (refine wpList_store_row rfl 23 _ _ rfl w2.heap.size (adrCells c) rfl rfl 23 _ H2.out HS.out ?hold (cells_one _ _ _) ?_)
      | (refine wpList_load_row rfl 23 _ rfl w1.heap.size rfl 23 _ (0, 0) _ HA.out Tryd.underlying23 rfl HS.out ?_)
      | (refine wpList_load_row rfl 23 _ rfl w2.heap.size rfl 23 _ (0, 0) _ HP.out.ha Tryd.underlying23 rfl HS.out ?_))
    case hold => exact Eq.trans (by kernel_rfl) (adrCells_size _).symm
    refine (lives10 _ HP.out.lay).mono ?_
    rintro e w3 ⟨rfl, b3⟩
    have HB := Lib.hid (HP.out.step b3).below
    clear b3 HP HA he2
    go_wp2_with fail
    go_ret
    exact ⟨rfl, HB.out⟩
end Go.Proofs.YtepoaapadalnoaaDoor
