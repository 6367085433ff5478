/- The groups of one side of a text. -/
import Derived.Test.YtepoaapadalnoaaDoorGetB
namespace Go.Proofs.YtepoaapadalnoaaDoor
open Go.RowKit
set_option linter.unusedVariables false
set_option linter.unusedSimpArgs false
structure SInv (S : Nat) (ps : List ByteArray) (last : Bool) (L : List (List UInt8)) (k : Nat) (ns : List Nat) (v : Value) (w wr : World) : Prop where
  h : wr.heap[S]? = some (.cells (ps.map Value.string).toArray 9 (0, 0))
  own : wr.ownsRow (S + 1) 36 1 v ns.length (rowU ns)
  below : Below S w wr
  len : ns.length = k
  rest : sideG last L = (sideG last (L.drop k)).map (ns ++ ·)
  lay : Lay07 wr
theorem SInv.step {S k : Nat} {ps : List ByteArray} {last : Bool} {L : List (List UInt8)} {ns : List Nat} {v : Value} {w wr w2 : World} (I : SInv S ps last L k ns v w wr) (hb : Below wr.heap.size wr w2) : SInv S ps last L k ns v w w2 :=
  ⟨(hb.block _ (lt_of_blk I.h)).trans I.h, own_below I.own hb, I.below.trans (hb.mono (Nat.le_of_lt (lt_of_blk I.h))), I.len, I.rest, I.lay.step hb⟩
theorem SInv.app {S k n cap m G : Nat} {ps : List ByteArray} {last : Bool} {L : List (List UInt8)} {ns : List Nat} {v : Value} {w wr w9 : World} (I : SInv S ps last L k ns v w wr) (hk : w9.heap[S]? = wr.heap[S]? ∧ Below S w w9)
    (hown : w9.ownsRow (S + 1) 36 1 (.slice (some ⟨G, 0, none⟩) m cap) (ns ++ [n]).length (rowU (ns ++ [n]))) (hrest : sideG last L = (sideG last (L.drop (k + 1))).map ((ns ++ [n]) ++ ·)) (lay : Lay07 w9) : SInv S ps last L (k + 1) (ns ++ [n]) (.slice (some ⟨G, 0, none⟩) m cap) w w9 :=
  ⟨hk.1.trans I.h, hown, hk.2, by simp [I.len], hrest, lay⟩
theorem num_dot {x : List UInt8} {b m : Nat} (h : x.contains 46 = true) : num b m x = none := num_none (c := 46) (by simpa using h) (by decide)
theorem dec4_dot {x : List UInt8} (h : x.contains 46 = false) : dec4 x = none := dec4_len (by rw [spl_clean (by simpa using h)]; simp)
theorem side_some {last : Bool} {L r : List (List UInt8)} {k n : Nat} {ns : List Nat} {x : List UInt8} (h : sideG last L = (sideG last (L.drop k)).map (ns ++ ·)) (hd : L.drop k = x :: r) (hr : r = L.drop (k + 1)) (hx : num 16 4 x = some n) :
    sideG last L = (sideG last (L.drop (k + 1))).map ((ns ++ [n]) ++ ·) := by
  rw [h, hd, sideG, hx, ← hr]
  cases sideG last r <;> simp
theorem side_none {last : Bool} {L r : List (List UInt8)} {k : Nat} {ns : List Nat} {x : List UInt8} (h : sideG last L = (sideG last (L.drop k)).map (ns ++ ·)) (hd : L.drop k = x :: r) (hx : num 16 4 x = none) (hl : (last && r.isEmpty) = false ∨ x.contains 46 = false) :
    sideG last L = none := by
  rw [h, hd, sideG, hx]
  rcases hl with hl | hl
  · rw [hl]; rfl
  · rw [dec4_dot hl]; cases (last && r.isEmpty) <;> rfl
theorem side_dec {L r : List (List UInt8)} {k : Nat} {ns : List Nat} {x : List UInt8} (h : sideG true L = (sideG true (L.drop k)).map (ns ++ ·)) (hd : L.drop k = x :: r) (hr : r = []) (hx : x.contains 46 = true) :
    sideG true L = (dec4 x).map (ns ++ ·) := by
  rw [h, hd, sideG, num_dot hx, hr]; rfl
set_option maxRecDepth 100000 in
set_option maxHeartbeats 1000000 in
theorem read23 (s : ByteArray) (last : Bool) (w : World) (L : Lay07 w) (hs : s.size < 4000000000) :
    Calls Tryd.prog 23 #[.string s, .bool last] w fun e w' => RetG (s.size + 3) w.heap.size (sideL last s.data.toList) e w' ∧ Below w.heap.size w w' := by
  have h3 := L.lt
  have HL := Lib.hid L
  have HLW := Lib.hid L
  clear L
  by_cases h1 : s.size = 0
  · have e1 : s = ⟨#[]⟩ := by
      have : s.data = #[] := Array.eq_empty_of_size_eq_zero h1
      cases s; simp_all
    subst e1
    go_enter Tryd.func23, Tryd.ntmps23
    go_wp2_with fail
    go_ret2
    exact ⟨⟨_, [], rfl, World.ownsRow_nil _ _ _ _, Nat.zero_le _, fun l h => by cases h; rfl⟩, Below.refl _ _⟩
  · have e0 : s.data.toList ≠ [] := fun h => h1 (by rw [← ByteArray.size_data, ← Array.length_toList, h]; rfl)
    have e1 : s.toList.isEmpty = false := by
      rw [Bool.eq_false_iff]; intro h
      rw [List.isEmpty_iff, ByteArray.toList_eq] at h
      exact e0 h
    have hside : sideL last s.data.toList = sideG last (spl 58 s.data.toList) := if_neg e0
    have HSD := Lib.hid hside
    clear hside e0
    go_enter Tryd.func23, Tryd.ntmps23
    go_wp2_with fail
    refine (split29 s 58 _ HL.out (by omega)).mono ?_
    rintro e w1 ⟨rfl, hw1⟩
    have hlen : (spl 58 s.data.toList).length = (spB s 58).length := by rw [← spB_data, List.length_map]
    have hlen2 := spl_length 58 s.data.toList
    have hsl : s.data.toList.length = s.size := by simp
    rw [hlen, hsl] at hlen2
    clear hsl
    have hget := fun k => @spB_get s 58 k
    have hB1 : Below w.heap.size w w1 := by rw [hw1]; exact (Below.refl _ _).alloc (Nat.le_refl _) _
    have hh1 : w1.heap[w.heap.size]? = some (.cells ((spB s 58).map Value.string).toArray 9 (0, 0)) := by rw [hw1]; exact heap_alloc_new _ _
    have hL1 := HL.out.step hB1
    clear hw1
    obtain ⟨ps, hps⟩ : ∃ ps, ps = spB s 58 := ⟨_, rfl⟩
    rw [← hps] at hget hh1 hlen hlen2 ⊢
    obtain ⟨T, hT⟩ : ∃ T, T = spl 58 s.data.toList := ⟨_, rfl⟩
    rw [← hT] at hget HSD hlen
    have I0 : SInv w.heap.size ps last T 0 [] (.slice none 0 0) w w1 := ⟨hh1, World.ownsRow_nil _ _ _ _, hB1, rfl, by rw [List.drop_zero]; cases sideG last T <;> rfl, hL1⟩
    have I := Lib.hid I0
    have HT := Lib.hid hlen
    have HG := Lib.hid hget
    clear I0 hh1 hB1 hps hlen hT hget hL1
    obtain ⟨N, hN⟩ : ∃ N, N = ps.length := ⟨_, rfl⟩
    rw [← hN] at hlen2 ⊢
    have HNN := Lib.hid hN
    clear hN
    go_wp2_with fail
    go_loopw [4, 19] (fun v i wr => ∃ (k : Nat) (ns : List Nat), k ≤ N ∧ i = .int .i64 k ∧ SInv w.heap.size ps last T k ns v w wr) (fun _ i _ => N - (intOf i).toNat)
    case atStart => exact ⟨0, [], by omega, rfl, I.out⟩
    case round =>
      clear I
      obtain ⟨k, ns, hk, rfl, I⟩ := hrel
      by_cases hlt : k < N
      · obtain ⟨p, hp, hdrop, hps⟩ := HG.out k (by rw [← HNN.out]; exact hlt)
        have c1 := cell_blk I.h k
        rw [List.getElem?_toArray, List.getElem?_map, hp] at c1
        replace c1 : wr.cell? ⟨w.heap.size, k, none⟩ = some (.string p) := c1
        have HI := Lib.hid I
        have HD := Lib.hid hdrop
        clear I hp hdrop
        have o1 : ¬ ((N : Int) ≤ k) := by omega
        have o2 : (k : Int) < N := by omega
        cases last with
        | false =>
          go_wp2_with fail
          refine (digits32 p 16 4 (by decide) (by decide) _).mono ?_
          rintro e w2 ⟨rfl, b2⟩
          have HI2 := Lib.hid (HI.out.step b2)
          clear b2 HI
          cases en : num 16 4 p.data.toList with
          | none =>
            have HR := Lib.hid (HSD.out.trans (side_none HI2.out.rest HD.out en (.inl rfl)))
            clear en
            unfold numV
            go_wp2_with fail
            go_ret2
            exact ⟨retG_none HR.out, HI2.out.below⟩
          | some n =>
            have hnl : n < 65536 := num_lt (by decide) en
            have HRE := Lib.hid (side_some HI2.out.rest HD.out rfl en)
            have HLN := Lib.hid HI2.out.len
            have HO := Lib.hid HI2.out.own
            have hSz := lt_of_blk HI2.out.h
            have hnw : IntKind.u16.wrap (n : Int) = (n : Int) := u16_small hnl
            obtain ⟨q, cap, rfl, -, -⟩ := own_slice HO.out
            clear en
            unfold numV
            go_wp2_with (first | (at_builtin; refine app1 rfl (.tmp 52) (.tmp 55) rfl (w.heap.size + 1) (.slice q ns.length cap) ns n rfl HO.out rfl (by have := HLN.out; omega) hSz ?_; intro G cap9 w9 hG hown9 hgr9; have hk9 := Lib.hid (grow_keep hSz HI2.out.below HO.out hgr9); have HO9 := Lib.hid hown9; clear hown9 hgr9))
            refine ⟨⟨k + 1, ns ++ [n], by omega, by go_num, ?_⟩, by simp [intOf]; omega⟩
            exact HI2.out.app hk9.out (by rw [List.length_append]; exact HO9.out) HRE.out (HLW.out.step hk9.out.2)
        | true =>
          by_cases hkN : k + 1 = N
          · have he : ((k : Int) == (N : Int) - 1) = true := by simp; omega
            have hsub : IntKind.i64.wrap ((N : Int) - 1) = (N : Int) - 1 := by rw [IntKind.wrap_i64]; omega
            have hnil : T.drop (k + 1) = [] := List.drop_eq_nil_of_le (by have := HT.out; have := HNN.out; omega)
            have HNIL := Lib.hid hnil
            clear hnil
            go_wp2_with fail
            refine (Tryd.strings_Contains_one p 46 _).mono ?_
            rintro e w8 ⟨rfl, rfl⟩
            rw [contains_one]
            cases ec : p.data.toList.contains 46 with
            | false =>
              have HEC := Lib.hid ec
              clear ec
              go_wp2_with fail
              refine (digits32 p 16 4 (by decide) (by decide) _).mono ?_
              rintro e w2 ⟨rfl, b2⟩
              have HI2 := Lib.hid (HI.out.step b2)
              clear b2 HI
              cases en : num 16 4 p.data.toList with
              | none =>
                have HR := Lib.hid (HSD.out.trans (side_none HI2.out.rest HD.out en (.inr HEC.out)))
                clear en
                unfold numV
                go_wp2_with fail
                go_ret2
                exact ⟨retG_none HR.out, HI2.out.below⟩
              | some n =>
                have hnl : n < 65536 := num_lt (by decide) en
                have HRE := Lib.hid (side_some HI2.out.rest HD.out rfl en)
                have HLN := Lib.hid HI2.out.len
                have HO := Lib.hid HI2.out.own
                have hSz := lt_of_blk HI2.out.h
                have hnw : IntKind.u16.wrap (n : Int) = (n : Int) := u16_small hnl
                obtain ⟨q, cap, rfl, -, -⟩ := own_slice HO.out
                clear en
                unfold numV
                go_wp2_with (first | (at_builtin; refine app1 rfl (.tmp 52) (.tmp 55) rfl (w.heap.size + 1) (.slice q ns.length cap) ns n rfl HO.out rfl (by have := HLN.out; omega) hSz ?_; intro G cap9 w9 hG hown9 hgr9; have hk9 := Lib.hid (grow_keep hSz HI2.out.below HO.out hgr9); have HO9 := Lib.hid hown9; clear hown9 hgr9))
                refine ⟨⟨k + 1, ns ++ [n], by omega, by go_num, ?_⟩, by simp [intOf]; omega⟩
                exact HI2.out.app hk9.out (by rw [List.length_append]; exact HO9.out) HRE.out (HLW.out.step hk9.out.2)
            | true =>
              have HEC := Lib.hid ec
              clear ec
              go_wp2_with fail
              refine (decimals31 p _ HI.out.lay (by omega)).mono ?_
              rintro e w2 ⟨⟨v2, r2, rfl, hown2, hn2, hv2⟩, b2⟩
              have HI2 := Lib.hid (HI.out.step b2)
              have HR := Lib.hid (HSD.out.trans (side_dec HI2.out.rest HD.out HNIL.out HEC.out))
              have HLN := Lib.hid HI2.out.len
              have HO := Lib.hid HI2.out.own
              have HO2 := Lib.hid hown2
              have HV := Lib.hid hv2
              have hSz := lt_of_blk HI2.out.h
              clear hown2 b2 hv2 HI
              obtain ⟨q, cap, rfl, -, -⟩ := own_slice HO.out
              obtain ⟨bb, hbb⟩ : ∃ bb, bb = (dec4 p.data.toList).isSome := ⟨_, rfl⟩
              rw [← hbb]
              have HBB := Lib.hid hbb
              clear hbb
              obtain ⟨q2, cap2, hq2, -, -⟩ := own_slice HO2.out
              subst hq2
              go_wp2_with (first | (at_builtin; refine app2 rfl (.tmp 41) (.tmp 42) rfl (w.heap.size + 1) (.slice q ns.length cap) ns rfl HO.out _ (.slice q2 r2.length cap2) r2 rfl HO2.out (by have := HLN.out; omega) (by omega) ?_; intro v9 w9 hown9 hgr9; have HB9 := Lib.hid (HI2.out.below.grown hgr9 (by omega) (fun q hq => by have := own_ge HO.out q hq; omega)); have HO9 := Lib.hid hown9; clear hown9 hgr9))
              go_ret2
              refine ⟨⟨v9, ns ++ r2, ?_, own_mono HO9.out (Nat.le_succ _), ?_, ?_⟩, HB9.out⟩
              · rw [HR.out, HBB.out, Option.isSome_map]; rfl
              · rw [List.length_append]; have := HLN.out; omega
              · rw [HR.out]
                intro l hl
                cases hd : dec4 p.data.toList with
                | none => rw [hd] at hl; cases hl
                | some l2 => rw [hd] at hl; rw [HV.out l2 hd]; simpa using hl
          · have hne : ((k : Int) == (N : Int) - 1) = false := by simp; omega
            have hsub : IntKind.i64.wrap ((N : Int) - 1) = (N : Int) - 1 := by rw [IntKind.wrap_i64]; omega
            go_wp2_with fail
            refine (digits32 p 16 4 (by decide) (by decide) _).mono ?_
            rintro e w2 ⟨rfl, b2⟩
            have HI2 := Lib.hid (HI.out.step b2)
            clear b2 HI
            cases en : num 16 4 p.data.toList with
            | none =>
              have HR := Lib.hid (HSD.out.trans (side_none HI2.out.rest HD.out en (.inl (by have := HT.out; have := HNN.out; rw [Bool.true_and, List.isEmpty_eq_false_iff, ← List.length_pos_iff, List.length_drop]; omega))))
              clear en
              unfold numV
              go_wp2_with fail
              go_ret2
              exact ⟨retG_none HR.out, HI2.out.below⟩
            | some n =>
              have hnl : n < 65536 := num_lt (by decide) en
              have HRE := Lib.hid (side_some HI2.out.rest HD.out rfl en)
              have HLN := Lib.hid HI2.out.len
              have HO := Lib.hid HI2.out.own
              have hSz := lt_of_blk HI2.out.h
              have hnw : IntKind.u16.wrap (n : Int) = (n : Int) := u16_small hnl
              obtain ⟨q, cap, rfl, -, -⟩ := own_slice HO.out
              clear en
              unfold numV
              go_wp2_with (first | (at_builtin; refine app1 rfl (.tmp 52) (.tmp 55) rfl (w.heap.size + 1) (.slice q ns.length cap) ns n rfl HO.out rfl (by have := HLN.out; omega) hSz ?_; intro G cap9 w9 hG hown9 hgr9; have hk9 := Lib.hid (grow_keep hSz HI2.out.below HO.out hgr9); have HO9 := Lib.hid hown9; clear hown9 hgr9))
              refine ⟨⟨k + 1, ns ++ [n], by omega, by go_num, ?_⟩, by simp [intOf]; omega⟩
              exact HI2.out.app hk9.out (by rw [List.length_append]; exact HO9.out) HRE.out (HLW.out.step hk9.out.2)
      · obtain rfl : k = N := by omega
        have e := I.rest
        rw [List.drop_eq_nil_of_le (by have := HT.out; have := HNN.out; omega)] at e
        have HR := Lib.hid (HSD.out.trans (e.trans (show _ = some ns by simp [sideG])))
        have HO := Lib.hid (own_mono I.own (Nat.le_succ _))
        have HB := Lib.hid I.below
        have HLN := Lib.hid I.len
        clear I e
        go_wp2_with fail
        go_ret2
        refine ⟨?_, HB.out⟩
        rw [HR.out]
        exact ⟨_, ns, rfl, HO.out, by have := HLN.out; omega, fun l hl => by cases hl; rfl⟩
end Go.Proofs.YtepoaapadalnoaaDoor
