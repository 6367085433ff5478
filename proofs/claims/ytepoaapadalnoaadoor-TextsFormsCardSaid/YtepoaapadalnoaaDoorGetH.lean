/- The document's split. -/
import Derived.Test.YtepoaapadalnoaaDoorGetG
namespace Go.Proofs.YtepoaapadalnoaaDoor
open Go.RowKit
set_option linter.unusedVariables false
set_option linter.unusedSimpArgs false
theorem extr (s : ByteArray) (f k : Nat) : (s.extract f k).data.toList = (s.data.toList.drop f).take (k - f) := by
  simp [List.drop_take]
structure SpInv (s : ByteArray) (c : UInt8) (k f : Nat) (ps : List ByteArray) (v : Value) (w wr : World) : Prop where
  own : wr.ownsRow w.heap.size 9 1 v ps.length (ps.map Value.string)
  below : Below w.heap.size w wr
  len : ps.length ≤ k
  rest : (k ≤ s.size ∧ f ≤ k ∧ spl c s.data.toList = ps.map (·.data.toList) ++ spl c (s.data.toList.drop f) ∧ c ∉ (s.data.toList.drop f).take (k - f)) ∨ (k = s.size + 1 ∧ spl c s.data.toList = ps.map (·.data.toList))
theorem take_next {l : List UInt8} {f k : Nat} {x : UInt8} (hf : f ≤ k) (h : l[k]? = some x) : (l.drop f).take (k + 1 - f) = (l.drop f).take (k - f) ++ [x] := by
  rw [show k + 1 - f = (k - f) + 1 by omega, List.take_add_one, List.getElem?_drop, show f + (k - f) = k by omega, h]; rfl
theorem drop_part {l : List UInt8} {f k : Nat} {x : UInt8} (hf : f ≤ k) (h : l[k]? = some x) : l.drop f = (l.drop f).take (k - f) ++ x :: l.drop (k + 1) := by
  obtain ⟨hp, rfl⟩ := List.getElem?_eq_some_iff.1 h
  rw [← List.drop_eq_getElem_cons hp]
  conv => lhs; rw [← List.take_append_drop (k - f) (l.drop f)]
  rw [List.drop_drop, show f + (k - f) = k by omega]
theorem SpInv.skip {s : ByteArray} {c x : UInt8} {k f : Nat} {ps : List ByteArray} {v : Value} {w wr : World} (I : SpInv s c k f ps v w wr) (hk : k < s.size) (hx : s.data.toList[k]? = some x) (hne : x ≠ c) : SpInv s c (k + 1) f ps v w wr := by
  refine ⟨I.own, I.below, Nat.le_succ_of_le I.len, ?_⟩
  rcases I.rest with ⟨h1, h2, h3, h4⟩ | ⟨h1, _⟩
  · refine .inl ⟨hk, by omega, h3, ?_⟩
    rw [take_next h2 hx]
    intro h
    rcases List.mem_append.1 h with h | h
    · exact h4 h
    · rw [List.mem_singleton] at h; exact hne h.symm
  · omega
theorem SpInv.cut {s : ByteArray} {c : UInt8} {k f : Nat} {ps : List ByteArray} {v v2 : Value} {w wr w2 : World} (I : SpInv s c k f ps v w wr) (hk : k ≤ s.size) (hx : k = s.size ∨ s.data.toList[k]? = some c)
    (hown : w2.ownsRow w.heap.size 9 1 v2 (ps.length + 1) (ps.map Value.string ++ [Value.string (s.extract f k)])) (hb : Below w.heap.size w w2) : SpInv s c (k + 1) (k + 1) (ps ++ [s.extract f k]) v2 w w2 := by
  refine ⟨by simpa using hown, hb, by simp; exact I.len, ?_⟩
  rcases I.rest with ⟨h1, h2, h3, h4⟩ | ⟨h1, _⟩
  · rcases hx with rfl | hx
    · right
      refine ⟨rfl, ?_⟩
      have e : (s.data.toList.drop f).take (s.size - f) = s.data.toList.drop f := List.take_of_length_le (by simp)
      rw [e] at h4
      rw [h3, spl_clean h4, List.map_append, List.map_cons, List.map_nil, extr, e]
    · left
      have hlt : k < s.size := by have := (List.getElem?_eq_some_iff.1 hx).1; simpa using this
      refine ⟨hlt, Nat.le_refl _, ?_, by simp⟩
      rw [h3]
      conv => lhs; rw [drop_part h2 hx, spl_cut h4]
      rw [List.map_append, List.map_cons, List.map_nil, extr, List.append_assoc]; rfl
  · omega
set_option maxRecDepth 100000 in
set_option maxHeartbeats 1000000 in
theorem split33 (s : ByteArray) (c : UInt8) (w : World) (hs : s.size < 1000000000) :
    Calls Tryd.prog 33 #[.string s, .int .u8 (c.toNat : Int)] w fun e w' => (∃ (v : Value) (ps : List ByteArray), e = .returned v ∧ w'.ownsRow w.heap.size 9 1 v ps.length (ps.map Value.string) ∧ ps.map (·.data.toList) = spl c s.data.toList) ∧ Below w.heap.size w w' := by
  have hi9 : (Tryd.prog.info? 9).map (fun i => (i.zero, i.size, i.bytes)) = some (some (.string ByteArray.empty), 1, 16) := info9
  have HI9 := Lib.hid hi9
  have I0 := Lib.hid (show SpInv s c 0 0 [] (.slice none 0 0) w w from ⟨World.ownsRow_nil _ _ _ _, Below.refl _ _, Nat.le_refl _, .inl ⟨Nat.zero_le _, Nat.le_refl _, by simp, by simp⟩⟩)
  clear hi9
  go_enter Tryd.func33, Tryd.ntmps33
  go_wp2_with fail
  go_loopw [5, 6, 7] (fun v fv i wr => ∃ (k f : Nat) (ps : List ByteArray), k ≤ s.size + 1 ∧ f ≤ k ∧ fv = .int .i64 f ∧ i = .int .i64 k ∧ SpInv s c k f ps v w wr) (fun _ _ i _ => s.size + 1 - (intOf i).toNat)
  case atStart => exact ⟨0, 0, [], by omega, by omega, rfl, rfl, I0.out⟩
  case round =>
    clear I0
    obtain ⟨k, f, ps, hk, hfk, rfl, rfl, I⟩ := hrel
    have HI := Lib.hid I
    clear I
    by_cases hlt : k ≤ s.size
    · by_cases heq : k = s.size
      · have heqi : ((k : Int) == s.size) = true := by simp; omega
        have HEQ := Lib.hid heq
        clear heq
        obtain ⟨q, cap, hq, -, -⟩ := own_slice HI.out.own
        subst hq
        have hB0 := HI.out.below.size
        have hpl := HI.out.len
        have o1 : (0 : Int) ≤ f ∧ (f : Int) ≤ k := by omega
        have o2 : (k : Int) ≤ s.size := by omega
        have hle : decide ((k : Int) ≤ s.size) = true := by simp; omega
        go_wp2_with (first | (at_builtin; refine appG1 Tryd.underlying56 HI9.out rfl rfl (.tmp 25) (.tmp 30) rfl w.heap.size (.slice q ps.length cap) ps.length (ps.map Value.string) (.string (s.extract f k)) rfl rfl HI.out.own rfl (by omega) (by omega) hB0 ?_; intro G cap9 w9 hG hown9 hgr9; have HC9 := Lib.hid (HI.out.cut hlt (.inl HEQ.out) hown9 ((HI.out.below.alloc hB0 _).grown hgr9 (by simp; omega) (fun q hq => own_ge HI.out.own q hq))); clear hown9 hgr9))
        exact ⟨⟨k + 1, k + 1, ps ++ [s.extract f k], by omega, by omega, by go_num, by go_num, by simpa using HC9.out⟩, by simp [intOf]; omega⟩
      · have hks : k < s.size := by omega
        have hx : s.data.toList[k]? = some (s[k]'hks) := by simp [hks]; rfl
        have heqi : ((k : Int) == s.size) = false := by simp; omega
        by_cases hcx : s[k]'hks = c
        · have hne : (((s[k]'hks).toNat : Int) == c.toNat) = true := by rw [hcx]; simp
          rw [hcx] at hx
          have HX := Lib.hid hx
          clear hcx hx
          obtain ⟨q, cap, hq, -, -⟩ := own_slice HI.out.own
          subst hq
          have hB0 := HI.out.below.size
          have hpl := HI.out.len
          have o1 : (0 : Int) ≤ f ∧ (f : Int) ≤ k := by omega
          have o2 : (k : Int) ≤ s.size := by omega
          have hle : decide ((k : Int) ≤ s.size) = true := by simp; omega
          go_wp2_with (first | (at_builtin; refine appG1 Tryd.underlying56 HI9.out rfl rfl (.tmp 25) (.tmp 30) rfl w.heap.size (.slice q ps.length cap) ps.length (ps.map Value.string) (.string (s.extract f k)) rfl rfl HI.out.own rfl (by omega) (by omega) hB0 ?_; intro G cap9 w9 hG hown9 hgr9; have HC9 := Lib.hid (HI.out.cut hlt (.inr HX.out) hown9 ((HI.out.below.alloc hB0 _).grown hgr9 (by simp; omega) (fun q hq => own_ge HI.out.own q hq))); clear hown9 hgr9))
          exact ⟨⟨k + 1, k + 1, ps ++ [s.extract f k], by omega, by omega, by go_num, by go_num, by simpa using HC9.out⟩, by simp [intOf]; omega⟩
        · have hne : (((s[k]'hks).toNat : Int) == c.toNat) = false := by
            rw [beq_eq_false_iff_ne]; intro h
            exact hcx (UInt8.toNat_inj.1 (by omega))
          have HN := Lib.hid (HI.out.skip hks hx hcx)
          clear hcx hx
          go_wp2_with fail
          exact ⟨⟨k + 1, f, ps, by omega, by omega, rfl, by go_num, HN.out⟩, by simp [intOf]; omega⟩
    · have : k = s.size + 1 := by omega
      subst this
      have hle : decide (((s.size + 1 : Nat) : Int) ≤ s.size) = false := by simp; omega
      have hle2 : ¬ ((s.size : Int) + 1 ≤ s.size) := by omega
      go_wp2_with fail
      go_ret
      refine ⟨⟨_, rfl, ps, HI.out.own, ?_⟩, HI.out.below⟩
      rcases HI.out.rest with ⟨h1, _⟩ | ⟨_, h⟩
      · omega
      · exact h.symm
end Go.Proofs.YtepoaapadalnoaaDoor
