/- A name's parts, the document's way: the walk. No condition but that the text is short. -/
import Derived.Test.YtfolamkjlgpgmaaGreatDoorDoms
namespace Go.Proofs.YtfolamkjlgpgmaaGreatDoor
open Go.RowKit
set_option linter.unusedVariables false
set_option linter.unusedSimpArgs false
theorem extr (s : ByteArray) (f k : Nat) : (s.extract f k).data.toList = (s.data.toList.drop f).take (k - f) := by
  simp [List.drop_take]
theorem take_next {l : List UInt8} {f k : Nat} {x : UInt8} (hf : f ≤ k) (h : l[k]? = some x) : (l.drop f).take (k + 1 - f) = (l.drop f).take (k - f) ++ [x] := by
  rw [show k + 1 - f = (k - f) + 1 by omega, List.take_add_one, List.getElem?_drop, show f + (k - f) = k by omega, h]; rfl
theorem drop_part {l : List UInt8} {f k : Nat} {x : UInt8} (hf : f ≤ k) (h : l[k]? = some x) : l.drop f = (l.drop f).take (k - f) ++ x :: l.drop (k + 1) := by
  obtain ⟨hp, rfl⟩ := List.getElem?_eq_some_iff.1 h
  rw [← List.drop_eq_getElem_cons hp]
  conv => lhs; rw [← List.take_append_drop (k - f) (l.drop f)]
  rw [List.drop_drop, show f + (k - f) = k by omega]
theorem spl_has {c x : UInt8} (hx : x ≠ c) : ∀ {s : List UInt8}, x ∈ s → ∃ p ∈ spl c s, x ∈ p
  | y :: s, h => by
    unfold spl
    split
    · rename_i e
      rcases List.mem_cons.1 h with h | h
      · exact absurd (h.trans e) hx
      · obtain ⟨p, hp, hxp⟩ := spl_has hx h
        exact ⟨p, List.mem_cons_of_mem _ hp, hxp⟩
    · split
      · rename_i e; exact absurd e (spl_ne c s)
      · rename_i q qs e
        rcases List.mem_cons.1 h with h | h
        · exact ⟨y :: q, List.mem_cons_self, by rw [h]; exact List.mem_cons_self⟩
        · obtain ⟨p, hp, hxp⟩ := spl_has hx h
          rw [e] at hp
          rcases List.mem_cons.1 hp with rfl | hp
          · exact ⟨y :: p, List.mem_cons_self, List.mem_cons_of_mem _ hxp⟩
          · exact ⟨p, List.mem_cons_of_mem _ hp, hxp⟩
theorem dom_bad_byte {s : List UInt8} {x : UInt8} (h : x ∈ s) (hx : x ≠ 46) (hb : inS x = false) : domOk s = false := by
  obtain ⟨p, hp, hxp⟩ := spl_has hx h
  have h1 : partOk p = false := by
    unfold partOk
    have : p.all inS = false := by rw [List.all_eq_false]; exact ⟨x, hxp, by rw [hb]; simp⟩
    rw [this, Bool.and_false]
  unfold domOk
  have : (spl 46 s).all partOk = false := by rw [List.all_eq_false]; exact ⟨p, hp, by rw [h1]; simp⟩
  rw [this, Bool.and_false]
theorem dom_bad_part {s p : List UInt8} (hp : p ∈ spl 46 s) (h1 : partOk p = false) : domOk s = false := by
  unfold domOk
  have : (spl 46 s).all partOk = false := by rw [List.all_eq_false]; exact ⟨p, hp, by rw [h1]; simp⟩
  rw [this, Bool.and_false]
/-- what is behind the parts so far -/
structure PaI (s : ByteArray) (k f : Nat) (ps : List ByteArray) (v : Value) (w wr : World) : Prop where
  own : wr.ownsRow w.heap.size 9 1 v ps.length (ps.map Value.string)
  below : Below w.heap.size w wr
  len : ps.length ≤ k
  ok : ∀ p ∈ ps, partOk p.data.toList = true
  rest : (k ≤ s.size ∧ f ≤ k ∧ spl 46 s.data.toList = ps.map (·.data.toList) ++ spl 46 (s.data.toList.drop f) ∧ 46 ∉ (s.data.toList.drop f).take (k - f) ∧ ((s.data.toList.drop f).take (k - f)).all inS = true) ∨ (k = s.size + 1 ∧ spl 46 s.data.toList = ps.map (·.data.toList))
theorem PaI.skip {s : ByteArray} {x : UInt8} {k f : Nat} {ps : List ByteArray} {v : Value} {w wr : World} (I : PaI s k f ps v w wr) (hk : k < s.size) (hx : s.data.toList[k]? = some x) (hne : x ≠ 46) (hin : inS x = true) : PaI s (k + 1) f ps v w wr := by
  refine ⟨I.own, I.below, Nat.le_succ_of_le I.len, I.ok, ?_⟩
  rcases I.rest with ⟨h1, h2, h3, h4, h5⟩ | ⟨h1, _⟩
  · refine .inl ⟨hk, by omega, h3, ?_, ?_⟩
    · rw [take_next h2 hx]
      intro h
      rcases List.mem_append.1 h with h | h
      · exact h4 h
      · rw [List.mem_singleton] at h; exact hne h.symm
    · rw [take_next h2 hx, List.all_append, h5]
      simp [hin]
  · omega
/-- the piece at hand is one of the text's -/
theorem PaI.piece {s : ByteArray} {k f : Nat} {ps : List ByteArray} {v : Value} {w wr : World} (I : PaI s k f ps v w wr) (hk : k ≤ s.size) (hx : k = s.size ∨ s.data.toList[k]? = some 46) :
    f ≤ k ∧ (s.extract f k).data.toList ∈ spl 46 s.data.toList ∧ (s.extract f k).data.toList.all inS = true ∧ (s.extract f k).data.toList.length = k - f := by
  rcases I.rest with ⟨h1, h2, h3, h4, h5⟩ | ⟨h1, _⟩
  · have hl : (s.extract f k).data.toList.length = k - f := by
      rw [extr, List.length_take, List.length_drop]
      have : s.data.toList.length = s.size := by simp
      omega
    refine ⟨h2, ?_, by rw [extr]; exact h5, hl⟩
    rw [h3, extr]
    refine List.mem_append_right _ ?_
    rcases hx with rfl | hx
    · have e : (s.data.toList.drop f).take (s.size - f) = s.data.toList.drop f := List.take_of_length_le (by simp)
      rw [e] at h4 ⊢
      rw [spl_clean h4]
      exact List.mem_singleton.2 rfl
    · have e : spl 46 (s.data.toList.drop f) = (s.data.toList.drop f).take (k - f) :: spl 46 (s.data.toList.drop (k + 1)) := by
        conv => lhs; rw [drop_part h2 hx, spl_cut h4]
      rw [e]
      exact List.mem_cons_self
  · omega
theorem PaI.cut {s : ByteArray} {k f : Nat} {ps : List ByteArray} {v v2 : Value} {w wr w2 : World} (I : PaI s k f ps v w wr) (hk : k ≤ s.size) (hx : k = s.size ∨ s.data.toList[k]? = some 46) (hok : partOk (s.extract f k).data.toList = true)
    (hown : w2.ownsRow w.heap.size 9 1 v2 (ps.length + 1) (ps.map Value.string ++ [Value.string (s.extract f k)])) (hb : Below w.heap.size w w2) : PaI s (k + 1) (k + 1) (ps ++ [s.extract f k]) v2 w w2 := by
  refine ⟨by simpa using hown, hb, by simp; exact I.len, fun p hp => ?_, ?_⟩
  · rcases List.mem_append.1 hp with hp | hp
    · exact I.ok p hp
    · rw [List.mem_singleton] at hp; subst hp; exact hok
  rcases I.rest with ⟨h1, h2, h3, h4, h5⟩ | ⟨h1, _⟩
  · rcases hx with rfl | hx
    · right
      refine ⟨rfl, ?_⟩
      have e : (s.data.toList.drop f).take (s.size - f) = s.data.toList.drop f := List.take_of_length_le (by simp)
      rw [e] at h4
      rw [h3, spl_clean h4, List.map_append, List.map_cons, List.map_nil, extr, e]
    · left
      have hlt : k < s.size := by have := (List.getElem?_eq_some_iff.1 hx).1; simpa using this
      refine ⟨hlt, Nat.le_refl _, ?_, by simp, by simp⟩
      rw [h3]
      conv => lhs; rw [drop_part h2 hx, spl_cut h4]
      rw [List.map_append, List.map_cons, List.map_nil, extr, List.append_assoc]; rfl
  · omega
theorem part_ok {p : List UInt8} (h : p.all inS = true) (h0 : 0 < p.length) (h63 : p.length ≤ 63) : partOk p = true := by
  unfold partOk
  cases p with
  | nil => simp at h0
  | cons x p => rw [h, decide_eq_true h63]; rfl
theorem part_no {p : List UInt8} (h : p.length = 0 ∨ 63 < p.length) : partOk p = false := by
  unfold partOk
  rcases h with h | h
  · rw [List.eq_nil_of_length_eq_zero h]; rfl
  · rw [decide_eq_false (by omega), Bool.and_false]; rfl
theorem info9 : (Tryz.prog.info? 9).map (fun i => (i.zero, i.size, i.bytes)) = some (some (.string ByteArray.empty), 1, 16) := by kernel_rfl
def PartsPost (s : ByteArray) (w : World) (e : Ending) (w' : World) : Prop := ∃ v ps, e = .returned v ∧ w'.ownsRow w.heap.size 9 1 v ps.length (ps.map Value.string) ∧ Below w.heap.size w w' ∧
  ((domOk s.data.toList = true ∧ ps.map (·.data.toList) = spl 46 s.data.toList) ∨ (domOk s.data.toList = false ∧ ps = []))
theorem parts_none {s : ByteArray} {w w' : World} (h : domOk s.data.toList = false) (hb : Below w.heap.size w w') : PartsPost s w (.returned (.slice none 0 0)) w' := ⟨_, [], rfl, World.ownsRow_nil _ _ _ _, hb, .inr ⟨h, rfl⟩⟩
set_option maxRecDepth 100000 in
set_option maxHeartbeats 4000000 in
theorem parts71 (s : ByteArray) (hs : s.size ≤ 100000000) (w : World) : Calls Tryz.prog 52 #[.string s] w (PartsPost s w) := by
  obtain ⟨i9, hi, hz0, hz1, hz2⟩ := info_parts info9
  have el : s.data.toList.length = s.size := by simp
  have HEL := Lib.hid el
  clear el
  go_enter Tryz.func52, Tryz.ntmps52
  by_cases h253 : s.size ≤ 253
  · have h253' : ¬ (253 : Int) < (s.size : Int) := by omega
    have I0 := Lib.hid (show PaI s 0 0 [] (.slice none 0 0) w w from ⟨World.ownsRow_nil _ _ _ _, Below.refl _ _, Nat.le_refl _, by simp, .inl ⟨Nat.zero_le _, Nat.le_refl _, by simp, by simp, by simp⟩⟩)
    go_wp2_with fail
    go_loopw [3, 4, 5] (fun v fv i wr => ∃ (k f : Nat) (ps : List ByteArray), k ≤ s.size + 1 ∧ f ≤ k ∧ fv = .int .i64 f ∧ i = .int .i64 k ∧ PaI s k f ps v w wr) (fun _ _ i _ => s.size + 1 - (intOf i).toNat)
    case atStart => exact ⟨0, 0, [], by omega, by omega, rfl, rfl, I0.out⟩
    case round =>
      clear I0
      obtain ⟨k, f, ps, hk, hfk, rfl, rfl, I⟩ := hrel
      have HI := Lib.hid I
      clear I
      by_cases hlt : k ≤ s.size
      · have o2 : (k : Int) ≤ s.size := by omega
        by_cases hks : k < s.size
        · have hx : s.data.toList[k]? = some (s[k]'hks) := by simp [hks]; rfl
          have o3 : decide ((k : Int) < s.size) = true := by simp; omega
          by_cases h46 : (s[k]'hks).toNat = 46
          · have e46 : s[k]'hks = 46 := UInt8.toNat_inj.1 h46
            have hx46 : s.data.toList[k]? = some 46 := by rw [hx, e46]
            have t46 : (((s[k]'hks).toNat : Int) != 46) = false := by rw [h46]; rfl
            clear e46 hx h46
            obtain ⟨hf2, hmem, hall, hlen⟩ := HI.out.piece hlt (.inr hx46)
            have HXX := Lib.hid ((.inr hx46) : k = s.size ∨ s.data.toList[k]? = some 46)
            obtain ⟨q, cq, hq, hqc⟩ := own_slice2 HI.out.own
            subst hq
            by_cases hkf : k = f
            · have HBD := Lib.hid (dom_bad_part hmem (part_no (.inl (by rw [hlen]; omega))))
              have tkf : ((k : Int) == f) = true := by rw [beq_iff_eq]; omega
              clear hmem hall hlen hkf
              go_wp2_with fail
              go_ret
              exact parts_none HBD.out HI.out.below
            · have tkf : ((k : Int) == f) = false := by rw [beq_eq_false_iff_ne]; omega
              by_cases h63 : k - f ≤ 63
              · have HOK := Lib.hid (part_ok hall (by rw [hlen]; omega) (by rw [hlen]; exact h63))
                have t63 : ¬ (63 : Int) < (k : Int) - f := by omega
                have hB0 := HI.out.below.size
                have hpl := HI.out.len
                have o1 : (0 : Int) ≤ f ∧ (f : Int) ≤ k := by omega
                clear hmem hall hlen
                have HNEWS : Hid (∀ j u, ([.string (s.extract f k)] : List Value)[j]? = some u → (wr.alloc (.cells #[.string (s.extract f k)] 9)).cell? ((⟨wr.heap.size, 0, none⟩ : Addr).add j) = some u) := Lib.hid (by
                  intro j u hj
                  rw [Addr.add_mid, Nat.zero_add]
                  have c := cell_blk (heap_alloc_new wr (.cells #[.string (s.extract f k)] 9)) j
                  exact c.trans (by simpa using hj))
                have HONE : Hid (∀ u ∈ ([.string (s.extract f k)] : List Value), u.oneCell' = true) := Lib.hid (by intro u hu; rw [List.mem_singleton] at hu; subst hu; rfl)
                have HBA : Hid (w.heap.size ≤ (wr.alloc (.cells #[.string (s.extract f k)] 9)).heap.size) := Lib.hid (by simp; omega)
                have hpl2 : ps.length + 1 ≤ maxLen := by unfold maxLen; omega
                go_wp2_with (at_builtin; refine wpList_append_own _ rfl _ _ 45 rfl w.heap.size 9 i9 (.string ByteArray.empty) 1 16 Tryz.underlying45 hi hz0 hz1 hz2 rfl (by decide) _ ps.length _ rfl (HI.out.own.alloc _) ⟨wr.heap.size, 0, none⟩ 1 1 [.string (s.extract f k)] rfl rfl HNEWS.out HONE.out hpl2 (by omega) HBA.out ?_)
                intro v5 w5 ho5 hg5 _
                have hal : Below w.heap.size w (wr.alloc (.cells #[.string (s.extract f k)] 9)) := HI.out.below.alloc hB0 _
                have HC := Lib.hid (HI.out.cut hlt HXX.out HOK.out ho5 (Below.grown' hal hg5 (by simp; omega) (fun q hq => ((HI.out.own.alloc (.cells #[.string (s.extract f k)] 9)).lt q hq).1)))
                clear ho5 hg5 hal
                go_wp2_with fail
                go_roundw
                case rel => exact ⟨k + 1, k + 1, _, by omega, by omega, by go_num, by go_num, HC.out⟩
                case measure => simp [intOf]; omega
              · have HBD := Lib.hid (dom_bad_part hmem (part_no (.inr (by rw [hlen]; omega))))
                have t63 : (63 : Int) < (k : Int) - f := by omega
                clear hmem hall hlen
                go_wp2_with fail
                go_ret
                exact parts_none HBD.out HI.out.below
          · have hne : s[k]'hks ≠ 46 := by intro e; rw [e] at h46; exact h46 rfl
            have t46 : (((s[k]'hks).toNat : Int) != 46) = true := by rw [bne_iff_ne]; omega
            cases hin : inS (s[k]'hks) with
            | true =>
              have HN := Lib.hid (HI.out.skip hks hx hne hin)
              unfold inS at hin
              simp only [Bool.or_eq_true, Bool.and_eq_true, decide_eq_true_eq, beq_iff_eq] at hin
              clear hx hne h46
              rcases hin with (⟨h1, h2⟩ | ⟨h1, h2⟩) | h1
              · have q1 : (97 : Int) ≤ ((s[k]'hks).toNat : Int) := by omega
                have q2 : ((s[k]'hks).toNat : Int) ≤ 122 := by omega
                go_wp2_with fail
                go_roundw
                case rel => exact ⟨k + 1, f, ps, by omega, by omega, rfl, by go_num, HN.out⟩
                case measure => simp [intOf]; omega
              · have q1 : ¬ (97 : Int) ≤ ((s[k]'hks).toNat : Int) := by omega
                have q2 : (48 : Int) ≤ ((s[k]'hks).toNat : Int) := by omega
                have q3 : ((s[k]'hks).toNat : Int) ≤ 57 := by omega
                go_wp2_with fail
                go_roundw
                case rel => exact ⟨k + 1, f, ps, by omega, by omega, rfl, by go_num, HN.out⟩
                case measure => simp [intOf]; omega
              · have q1 : ¬ (97 : Int) ≤ ((s[k]'hks).toNat : Int) := by omega
                have q2 : ¬ (48 : Int) ≤ ((s[k]'hks).toNat : Int) := by omega
                have q3 : (((s[k]'hks).toNat : Int) == 45) = true := by rw [h1]; rfl
                go_wp2_with fail
                go_roundw
                case rel => exact ⟨k + 1, f, ps, by omega, by omega, rfl, by go_num, HN.out⟩
                case measure => simp [intOf]; omega
            | false =>
              have HBD := Lib.hid (dom_bad_byte (List.mem_of_getElem? hx) hne hin)
              unfold inS at hin
              simp only [Bool.or_eq_false_iff, Bool.and_eq_false_iff, decide_eq_false_iff_not, beq_eq_false_iff_ne] at hin
              clear hx hne h46
              have q9 : (((s[k]'hks).toNat : Int) == 45) = false := by rw [beq_eq_false_iff_ne]; omega
              by_cases h97 : (97 : Int) ≤ ((s[k]'hks).toNat : Int)
              · have q2 : ¬ ((s[k]'hks).toNat : Int) ≤ 122 := by omega
                have q3 : (48 : Int) ≤ ((s[k]'hks).toNat : Int) := by omega
                have q4 : ¬ ((s[k]'hks).toNat : Int) ≤ 57 := by omega
                clear hin
                go_wp2_with fail
                go_ret
                exact parts_none HBD.out HI.out.below
              · by_cases h48 : (48 : Int) ≤ ((s[k]'hks).toNat : Int)
                · have q4 : ¬ ((s[k]'hks).toNat : Int) ≤ 57 := by omega
                  clear hin
                  go_wp2_with fail
                  go_ret
                  exact parts_none HBD.out HI.out.below
                · clear hin
                  go_wp2_with fail
                  go_ret
                  exact parts_none HBD.out HI.out.below
        · have hke : k = s.size := by omega
          have o3 : decide ((k : Int) < s.size) = false := by simp; omega
          have o4 : (s.size : Int) ≤ k := by omega
          have HKE := Lib.hid hke
          clear hke
          obtain ⟨hf2, hmem, hall, hlen⟩ := HI.out.piece hlt (.inl HKE.out)
          have HXX := Lib.hid ((.inl HKE.out) : k = s.size ∨ s.data.toList[k]? = some 46)
          obtain ⟨q, cq, hq, hqc⟩ := own_slice2 HI.out.own
          subst hq
          by_cases hkf : k = f
          · have HBD := Lib.hid (dom_bad_part hmem (part_no (.inl (by rw [hlen]; omega))))
            have tkf : ((k : Int) == f) = true := by rw [beq_iff_eq]; omega
            clear hmem hall hlen hkf
            go_wp2_with fail
            go_ret
            exact parts_none HBD.out HI.out.below
          · have tkf : ((k : Int) == f) = false := by rw [beq_eq_false_iff_ne]; omega
            by_cases h63 : k - f ≤ 63
            · have HOK := Lib.hid (part_ok hall (by rw [hlen]; omega) (by rw [hlen]; exact h63))
              have t63 : ¬ (63 : Int) < (k : Int) - f := by omega
              have hB0 := HI.out.below.size
              have hpl := HI.out.len
              have o1 : (0 : Int) ≤ f ∧ (f : Int) ≤ k := by omega
              clear hmem hall hlen
              have HNEWS : Hid (∀ j u, ([.string (s.extract f k)] : List Value)[j]? = some u → (wr.alloc (.cells #[.string (s.extract f k)] 9)).cell? ((⟨wr.heap.size, 0, none⟩ : Addr).add j) = some u) := Lib.hid (by
                intro j u hj
                rw [Addr.add_mid, Nat.zero_add]
                have c := cell_blk (heap_alloc_new wr (.cells #[.string (s.extract f k)] 9)) j
                exact c.trans (by simpa using hj))
              have HONE : Hid (∀ u ∈ ([.string (s.extract f k)] : List Value), u.oneCell' = true) := Lib.hid (by intro u hu; rw [List.mem_singleton] at hu; subst hu; rfl)
              have HBA : Hid (w.heap.size ≤ (wr.alloc (.cells #[.string (s.extract f k)] 9)).heap.size) := Lib.hid (by simp; omega)
              have hpl2 : ps.length + 1 ≤ maxLen := by unfold maxLen; omega
              go_wp2_with (at_builtin; refine wpList_append_own _ rfl _ _ 45 rfl w.heap.size 9 i9 (.string ByteArray.empty) 1 16 Tryz.underlying45 hi hz0 hz1 hz2 rfl (by decide) _ ps.length _ rfl (HI.out.own.alloc _) ⟨wr.heap.size, 0, none⟩ 1 1 [.string (s.extract f k)] rfl rfl HNEWS.out HONE.out hpl2 (by omega) HBA.out ?_)
              intro v5 w5 ho5 hg5 _
              have hal : Below w.heap.size w (wr.alloc (.cells #[.string (s.extract f k)] 9)) := HI.out.below.alloc hB0 _
              have HC := Lib.hid (HI.out.cut hlt HXX.out HOK.out ho5 (Below.grown' hal hg5 (by simp; omega) (fun q hq => ((HI.out.own.alloc (.cells #[.string (s.extract f k)] 9)).lt q hq).1)))
              clear ho5 hg5 hal
              go_wp2_with fail
              go_roundw
              case rel => exact ⟨k + 1, k + 1, _, by omega, by omega, by go_num, by go_num, HC.out⟩
              case measure => simp [intOf]; omega
            · have HBD := Lib.hid (dom_bad_part hmem (part_no (.inr (by rw [hlen]; omega))))
              have t63 : (63 : Int) < (k : Int) - f := by omega
              clear hmem hall hlen
              go_wp2_with fail
              go_ret
              exact parts_none HBD.out HI.out.below
      · have hke : k = s.size + 1 := by omega
        have o2 : ¬ (k : Int) ≤ s.size := by omega
        go_wp2_with fail
        go_ret
        refine ⟨_, ps, rfl, HI.out.own, HI.out.below, ?_⟩
        rcases HI.out.rest with ⟨h1, _⟩ | ⟨_, h⟩
        · omega
        · refine .inl ⟨?_, h.symm⟩
          unfold domOk
          rw [HEL.out, decide_eq_true h253, Bool.true_and, List.all_eq_true, h]
          intro p hp
          obtain ⟨p', hp', rfl⟩ := List.mem_map.1 hp
          exact HI.out.ok p' hp'
  · have h253' : (253 : Int) < (s.size : Int) := by omega
    have HD : Hid (domOk s.data.toList = false) := Lib.hid (by unfold domOk; rw [HEL.out, decide_eq_false h253]; rfl)
    go_wp2_with fail
    go_ret
    exact parts_none HD.out (Below.refl _ _)
end Go.Proofs.YtfolamkjlgpgmaaGreatDoor
