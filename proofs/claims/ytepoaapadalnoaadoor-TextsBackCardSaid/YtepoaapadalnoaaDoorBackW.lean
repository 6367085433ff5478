/- The law on the text of an address, read again: the walk. No condition. -/
import Derived.Test.YtepoaapadalnoaaDoorBackR
import Derived.Test.YtepoaapadalnoaaDoorLives
import Derived.Outline
import Derived.Laws.StructEq
namespace Go.Proofs.YtepoaapadalnoaaDoor
open Go.RowKit
set_option linter.unusedVariables false
set_option linter.unusedSimpArgs false
theorem bytes_same (s t : List UInt8) : ((⟨s.toArray⟩ : ByteArray) == ⟨t.toArray⟩) = true ↔ s = t := by
  show (s.toArray == t.toArray) = true ↔ s = t
  simp
theorem fine_at {s : ByteArray} (h : Fine s.data.toList) (k : Nat) (hk : k < s.size) :
    (((48 : Int) ≤ s[k].toNat ∧ (s[k].toNat : Int) ≤ 57 ∧ ((s[k].toNat : Int) == 58) = false) ∨
     ((48 : Int) ≤ s[k].toNat ∧ (57 : Int) < s[k].toNat ∧ (97 : Int) ≤ s[k].toNat ∧ (s[k].toNat : Int) ≤ 102 ∧ ((s[k].toNat : Int) == 58) = false ∧ ((s[k].toNat : Int) == 48) = false) ∨
     ((48 : Int) ≤ s[k].toNat ∧ (57 : Int) < s[k].toNat ∧ (s[k].toNat : Int) < 97 ∧ ((s[k].toNat : Int) == 58) = true ∧ ((s[k].toNat : Int) == 48) = false)) ∧
    (s[k].toNat = 48 → (k = 0 ∨ ∃ h : k - 1 < s.size, s[k - 1].toNat = 58) → (k + 1 = s.size ∨ ∃ h : k + 1 < s.size, s[k + 1].toNat = 58)) := by
  have e : ∀ j (hj : j < s.size), s.data.toList[j]? = some s[j] := fun j hj => by
    rw [List.getElem?_eq_getElem (by simpa using hj)]; rfl
  have n58 : ∀ c : UInt8, c.toNat = 58 ↔ c = 58 := fun c => ⟨fun h => UInt8.toNat_inj.1 h, fun h => by rw [h]; rfl⟩
  obtain ⟨h1, h2⟩ := h k s[k] (e k hk)
  refine ⟨?_, fun h3 h4 => ?_⟩
  · rcases h1 with (h1 | h1) | h1
    · exact .inl ⟨by omega, by omega, by simp only [beq_eq_false_iff_ne]; omega⟩
    · exact .inr (.inl ⟨by omega, by omega, by omega, by omega, by simp only [beq_eq_false_iff_ne]; omega, by simp only [beq_eq_false_iff_ne]; omega⟩)
    · have := (n58 _).2 h1
      exact .inr (.inr ⟨by omega, by omega, by omega, by simp only [beq_iff_eq]; omega, by simp only [beq_eq_false_iff_ne]; omega⟩)
  · have h5 := h2 (UInt8.toNat_inj.1 h3) (by
      rcases h4 with h4 | ⟨h4, h5⟩
      · exact .inl h4
      · exact .inr (by rw [e _ h4, (n58 _).1 h5]))
    rcases h5 with h5 | h5
    · left; simpa using h5
    · right
      have h6 : k + 1 < s.size := by
        rcases Nat.lt_or_ge (k + 1) s.size with h6 | h6
        · exact h6
        · rw [List.getElem?_eq_none (by simpa using h6)] at h5; cases h5
      rw [e _ h6] at h5
      exact ⟨h6, (n58 _).2 (Option.some.inj h5)⟩
theorem ends_at (s : ByteArray) (k : Nat) (h : k < s.size) : ((((k : Int) == (s.size : Int) - 1) = true) ∧ k + 1 = s.size) ∨ ((((k : Int) == (s.size : Int) - 1) = false) ∧ ((k : Int) + 1 < s.size) ∧ k + 1 < s.size ∧ (0 : Int) ≤ (k : Int) + 1) := by
  by_cases h1 : k + 1 = s.size
  · exact .inl ⟨by simp only [beq_iff_eq]; omega, h1⟩
  · exact .inr ⟨by simp only [beq_eq_false_iff_ne]; omega, by omega, by omega, by omega⟩
theorem begins_at (s : ByteArray) (k : Nat) (h : k < s.size) : (((k : Int) == 0) = true) ∨ ((((k : Int) == 0) = false) ∧ ((1 : Int) ≤ k) ∧ ((k : Int) - 1 < s.size)) := by
  by_cases h1 : k = 0
  · exact .inl (by simp only [beq_iff_eq]; omega)
  · exact .inr ⟨by simp only [beq_eq_false_iff_ne]; omega, by omega, by omega⟩
theorem nought_at {s : ByteArray} (h : Fine s.data.toList) (k : Nat) (hk : k < s.size) :
    (((s[k].toNat : Int) == 48) = false) ∨
    ((((s[k].toNat : Int) == 48) = true) ∧ (((k : Int) == 0) = false) ∧ ((1 : Int) ≤ k) ∧ ((k : Int) - 1 < s.size) ∧ ∃ h : k - 1 < s.size, ((s[k - 1].toNat : Int) == 58) = false) ∨
    ((((s[k].toNat : Int) == 48) = true) ∧ ((((k : Int) == (s.size : Int) - 1) = true) ∨ ((((k : Int) == (s.size : Int) - 1) = false) ∧ ((k : Int) + 1 < s.size) ∧ (0 : Int) ≤ (k : Int) + 1 ∧ ∃ h : k + 1 < s.size, ((s[k + 1].toNat : Int) == 58) = true))) := by
  by_cases h1 : s[k].toNat = 48
  · have e48 : ((s[k].toNat : Int) == 48) = true := by simp only [beq_iff_eq]; omega
    by_cases h2 : k = 0 ∨ ∃ h : k - 1 < s.size, s[k - 1].toNat = 58
    · rcases (fine_at h k hk).2 h1 h2 with h3 | ⟨h3, h4⟩
      · exact .inr (.inr ⟨e48, .inl (by simp only [beq_iff_eq]; omega)⟩)
      · exact .inr (.inr ⟨e48, .inr ⟨by simp only [beq_eq_false_iff_ne]; omega, by omega, by omega, h3, by simp only [beq_iff_eq]; omega⟩⟩)
    · have h3 : k ≠ 0 := fun e => h2 (.inl e)
      have h4 : k - 1 < s.size := by omega
      have h5 : ¬ s[k - 1].toNat = 58 := fun e => h2 (.inr ⟨h4, e⟩)
      exact .inr (.inl ⟨e48, by simp only [beq_eq_false_iff_ne]; omega, by omega, by omega, h4, by simp only [beq_eq_false_iff_ne]; omega⟩)
  · exact .inl (by simp only [beq_eq_false_iff_ne]; omega)
/-- two addresses in their blocks -/
structure TwoP (A : Nat) (a b : Nat → Nat) (w W : World) : Prop where
  lay : Lay07 W
  ha : W.heap[A]? = some (.cells (adrCells a) 23 (0, 0))
  hb : W.heap[A + 1]? = some (.cells (adrCells b) 23 (0, 0))
  below : Below A w W
theorem TwoP.step {A : Nat} {a b : Nat → Nat} {w W W2 : World} (I : TwoP A a b w W) (hb : Below W.heap.size W W2) : TwoP A a b w W2 :=
  ⟨I.lay.step hb, (hb.block _ (lt_of_blk I.ha)).trans I.ha, (hb.block _ (lt_of_blk I.hb)).trans I.hb, I.below.trans (hb.mono (Nat.le_of_lt (lt_of_blk I.ha)))⟩
set_option maxRecDepth 100000 in
set_option maxHeartbeats 4000000 in
theorem textsBack_walk (a b : Nat → Nat) (ha : ∀ i, i < 16 → a i < 256) (hb : ∀ i, i < 16 → b i < 256) (w : World) (L : Lay07 w) : Calls Tryd.prog 5 #[.agg (adrCells a), .agg (adrCells b)] w fun e w' => e = .returned (.bool true) ∧ Below w.heap.size w w' := by
  have B0 : Below w.heap.size w ((w.alloc (.cells (adrCells a) 23)).alloc (.cells (adrCells b) 23)) := ((Below.refl _ _).alloc (Nat.le_refl _) _).alloc (by simp) _
  have I0 := Lib.hid (show TwoP w.heap.size a b w ((w.alloc (.cells (adrCells a) 23)).alloc (.cells (adrCells b) 23)) from
    ⟨L.step B0, (heap_alloc_old _ _ (by simp)).trans (heap_alloc_new _ _), (by have := heap_alloc_new (w.alloc (.cells (adrCells a) 23)) (.cells (adrCells b) 23); simpa using this), B0⟩)
  clear L B0
  obtain ⟨s, hs⟩ : ∃ s : ByteArray, (⟨(putL a).toArray⟩ : ByteArray) = s := ⟨_, rfl⟩
  obtain ⟨t, ht⟩ : ∃ t : ByteArray, (⟨(putL b).toArray⟩ : ByteArray) = t := ⟨_, rfl⟩
  have hsl : s.data.toList = putL a := by rw [← hs]
  have hn := putL_len ha
  have hf := Lib.hid (putL_fine ha)
  have hi := Lib.hid (putL_is ha)
  rw [← hsl] at hn hf hi
  have hz : 2 ≤ s.size ∧ s.size ≤ 39 := by simpa using hn
  have heq : (s == t) = adrEq a b := by
    rw [Bool.eq_iff_iff, ← putL_same ha hb, ← hs, ← ht]
    exact bytes_same _ _
  have HE := Lib.hid heq
  have HS := Lib.hid hs
  have HT := Lib.hid ht
  have HAE := Lib.hid (adr_eql ha hb)
  clear hsl hn heq hs ht
  have HSZ : ∀ c : Nat → Nat, Hid ((Tryd.prog.info? 23).map (·.size) = some (adrCells c).size) := fun c => Lib.hid (by rw [adrCells_size]; kernel_rfl)
  have HSA := HSZ a
  have HSB := HSZ b
  clear HSZ
  go_enter Tryd.func5, Tryd.ntmps5
  go_wp2_with (refine wpList_load_row rfl 23 _ rfl w.heap.size rfl 23 _ (0, 0) _ I0.out.ha Tryd.underlying23 rfl HSA.out ?_)
  refine (put8_lit _ a s _ I0.out.lay ha rfl HS.out).mono ?_
  rintro e w1 ⟨rfl, b1⟩
  have I1 := Lib.hid (I0.out.step b1)
  clear b1 I0
  go_wp2_with (refine wpList_load_row rfl 23 _ rfl (w.heap.size + 1) rfl 23 _ (0, 0) _ I1.out.hb Tryd.underlying23 rfl HSB.out ?_)
  refine (put8_lit _ b t _ I1.out.lay hb rfl HT.out).mono ?_
  rintro e w2 ⟨rfl, b2⟩
  have I2 := Lib.hid (I1.out.step b2)
  clear b2 I1
  go_wp2_with (refine wpList_load_row rfl 23 _ rfl w.heap.size rfl 23 _ (0, 0) _ I2.out.ha Tryd.underlying23 rfl HSA.out ?_)
  refine (is13_lit s _ a _ I2.out.lay (by omega) ha rfl hi.out).mono ?_
  rintro e w3 ⟨rfl, b3⟩
  have I3 := Lib.hid (I2.out.step b3)
  clear b3 I2
  have he1 := HE.out
  have he2 := HAE.out
  have he3 := he1
  rw [beq_toListBytes] at he3
  obtain ⟨hz1, hz2⟩ := hz
  have h39 : decide ((39 : Int) < s.size) = false := by simp; omega
  have h2 : decide ((s.size : Int) < 2) = false := by simp; omega
  go_wp2_with (first
      | (refine wpList_load_row_w rfl 23 _ rfl w.heap.size rfl 23 _ (0, 0) _ I3.out.ha Tryd.underlying23 rfl HSA.out ?_)
      | (refine wpList_load_row_w rfl 23 _ rfl (w.heap.size + 1) rfl 23 _ (0, 0) _ I3.out.hb Tryd.underlying23 rfl HSB.out ?_))
  clear h39 h2 he1 he2 he3 HE HS HT HAE HSA HSB
  go_loop [7] (fun i => ∃ k : Nat, k ≤ s.size ∧ i = .int .i64 k) (fun i => s.size - (intOf i).toNat)
  case atStart => exact ⟨0, Nat.zero_le _, rfl⟩
  case round =>
    obtain ⟨k, hk, rfl⟩ := hrel
    by_cases hlt : k < s.size
    · have hF := Lib.hid (fine_at hf.out k hlt)
      have HBT := Lib.hid (nought_at hf.out k hlt)
      clear hf
      rcases hF.out.1 with ⟨c1, c2, c3⟩ | ⟨c1, c2, c3, c4, c5, c6⟩ | ⟨c1, c2, c3, c4, c5⟩
      · rcases HBT.out with d0 | ⟨d0, d1⟩ | ⟨d0, d1⟩
        · clear hF
          rcases ends_at s k hlt with ⟨e1, e2⟩ | ⟨e1, e2, e3, e4⟩ <;> rcases begins_at s k hlt with b1 | ⟨b1, b2, b3⟩ <;>
          (go_wp2
           go_round
           case rel => exact ⟨k + 1, by omega, by go_num⟩
           case measure => simp [intOf]; omega)
        · clear hF
          obtain ⟨b1, b2, b3, hb, b4⟩ := d1
          rcases ends_at s k hlt with ⟨e1, e2⟩ | ⟨e1, e2, e3, e4⟩ <;>
          (go_wp2
           go_round
           case rel => exact ⟨k + 1, by omega, by go_num⟩
           case measure => simp [intOf]; omega)
        · clear hF
          rcases d1 with e1 | ⟨e1, e2, e3, e4, e5⟩ <;> rcases begins_at s k hlt with b1 | ⟨b1, b2, b3⟩ <;>
          (go_wp2
           all_goals
            go_round
            case rel => exact ⟨k + 1, by omega, by go_num⟩
            case measure => simp [intOf]; omega)
      · clear hF
        rcases ends_at s k hlt with ⟨e1, e2⟩ | ⟨e1, e2, e3, e4⟩ <;> rcases begins_at s k hlt with b1 | ⟨b1, b2, b3⟩ <;>
        (go_wp2
         go_round
         case rel => exact ⟨k + 1, by omega, by go_num⟩
         case measure => simp [intOf]; omega)
      · clear hF
        have c6 : decide ((s[k].toNat : Int) ≤ 57) = false := by simp only [decide_eq_false_iff_not]; omega
        have c7 : decide ((97 : Int) ≤ s[k].toNat) = false := by simp only [decide_eq_false_iff_not]; omega
        have c8 : ((s[k].toNat : Int) != 58) = false := by rw [bne, c4]; rfl
        clear c3 c2
        rcases ends_at s k hlt with ⟨e1, e2⟩ | ⟨e1, e2, e3, e4⟩ <;> rcases begins_at s k hlt with b1 | ⟨b1, b2, b3⟩ <;>
        (go_wp2
         go_round
         case rel => exact ⟨k + 1, by omega, by go_num⟩
         case measure => simp [intOf]; omega)
    · clear hf
      go_wp2_with fail
      refine (lives10 _ I3.out.lay).mono ?_
      rintro e w4 ⟨rfl, b4⟩
      have HB := Lib.hid (I3.out.step b4).below
      clear b4
      go_wp2_with fail
      go_ret
      exact ⟨rfl, HB.out⟩
end Go.Proofs.YtepoaapadalnoaaDoor
