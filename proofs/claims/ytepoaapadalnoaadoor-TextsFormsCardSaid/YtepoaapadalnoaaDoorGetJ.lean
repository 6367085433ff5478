/- The document's side of a text. -/
import Derived.Test.YtepoaapadalnoaaDoorGetI
namespace Go.Proofs.YtepoaapadalnoaaDoor
open Go.RowKit
set_option linter.unusedVariables false
set_option linter.unusedSimpArgs false
theorem rowI_app (l r : List Nat) : rowI (l ++ r) = rowI l ++ rowI r := by simp [rowI]
theorem appI2 {ops : Array Oper} {rest : List Oper} {o : Oper} {a : Act} {Q : Exit → Act → World → Prop} {w : World} (hgd : o.guard = none) (s x : Operand) (ho : o.op = .call { callee := .builtin .append, args := #[s, x], argTypes := #[47, 47] })
    (B : Nat) (v : Value) (l : List Nat) (hs : a.eval s = v) (hown : w.ownsRow B 3 1 v l.length (rowI l)) (C : Nat) (v2 : Value) (r : List Nat) (hx : a.eval x = v2) (hown2 : w.ownsRow C 3 1 v2 r.length (rowI r)) (hl : l.length + r.length ≤ 8589934592) (hB : B ≤ w.heap.size)
    (h : ∀ v' w', w'.ownsRow B 3 1 v' (l ++ r).length (rowI (l ++ r)) → w.grownBy w' v.ownBlock → wpList Tryd.prog ops Q rest (a.put o.dst v') w') :
    wpList Tryd.prog ops Q (o :: rest) a w := by
  obtain ⟨i, hi, hz, hs1, hb⟩ := info_parts info3
  rcases hown2.2 with ⟨e2, hn2⟩ | ⟨g, cap, cur, e2, -⟩
  · have hr : r = [] := List.eq_nil_of_length_eq_zero hn2
    subst hr
    refine wpList_append_own_none hgd s x 47 ho B 3 i 1 Tryd.underlying47 hi v l.length (rowI l) hs hown (hx.trans e2) ?_
    refine h v w ?_ ⟨rfl, rfl, rfl, Nat.le_refl _, fun _ _ _ => rfl⟩
    rw [List.append_nil]; exact hown
  · refine wpList_append_own _ hgd s x 47 ho B 3 i (.int .i64 0) 1 8 Tryd.underlying47 hi hz hs1 hb rfl (by decide) v l.length (rowI l) hs hown ⟨g, 0, none⟩ r.length cap (rowI r) (hx.trans e2) (by rw [rowI_length, Nat.mul_one]) (hown2.cells (by rw [e2]; rfl)) ?one (by unfold maxLen; omega) (by omega) hB ?_
    case one => intro u hu; obtain ⟨y, _, rfl⟩ := List.mem_map.1 hu; rfl
    intro v' w' h1 h2 h3
    refine h v' w' ?_ h2
    rw [rowI_app, List.length_append]; exact h1
theorem side_dec2 {L r : List (List UInt8)} {k : Nat} {ns : List Nat} {x : List UInt8} (h : sideG true L = (sideG true (L.drop k)).map (ns ++ ·)) (hd : L.drop k = x :: r) (hr : r = []) (hx : num 16 4 x = none) :
    sideG true L = (dec4 x).map (ns ++ ·) := by
  rw [h, hd, sideG, hx, hr]; rfl
theorem dec4_two {x : List UInt8} {l : List Nat} (h : dec4 x = some l) : l.length = 2 := by
  unfold dec4 at h
  split at h
  · cases h; rfl
  · cases h
structure JInv (G N : Nat) (ps : List ByteArray) (last : Bool) (L : List (List UInt8)) (k : Nat) (ns : List Nat) (v : Value) (w wr : World) : Prop where
  row : RowS wr w.heap.size G ps
  own : wr.ownsRow (G + 1) 3 1 v ns.length (rowI ns)
  below : Below w.heap.size w wr
  len : ns.length ≤ k ∨ (k = N ∧ ns.length ≤ N + 1)
  rest : sideG last L = (sideG last (L.drop k)).map (ns ++ ·)
section
variable {G N k n cap G2 : Nat} {ps : List ByteArray} {last : Bool} {L : List (List UInt8)} {ns : List Nat} {v v9 : Value} {w wr w2 w9 : World} {o : Obj}
theorem JInv.step (I : JInv G N ps last L k ns v w wr) (hb : Below wr.heap.size wr w2) : JInv G N ps last L k ns v w w2 :=
  ⟨I.row.step hb, own_below I.own hb, I.below.trans (hb.mono I.below.size), I.len, I.rest⟩
theorem JInv.app (I : JInv G N ps last L k ns v w wr) (hk : k < N) (hg : (wr.alloc o).grownBy w9 v.ownBlock)
    (hown : w9.ownsRow (G + 1) 3 1 (.slice (some ⟨G2, 0, none⟩) (ns.length + 1) cap) (ns.length + 1) (rowI ns ++ [.int .i64 (n : Int)])) (hrest : sideG last L = (sideG last (L.drop (k + 1))).map ((ns ++ [n]) ++ ·)) :
    JInv G N ps last L (k + 1) (ns ++ [n]) (.slice (some ⟨G2, 0, none⟩) (ns.length + 1) cap) w w9 := by
  have hr : ∀ q, v.ownBlock = some q → G + 1 ≤ q := fun q hq => own_ge I.own q hq
  have hr1 : RowS (wr.alloc o) w.heap.size G ps := I.row.step ((Below.refl _ _).alloc (Nat.le_refl _) _)
  refine ⟨hr1.grown hg (fun q hq => by have := hr q hq; omega), by simpa [rowI] using hown, ((I.below.alloc I.below.size _).grown hg (by have := I.below.size; simp; omega) (fun q hq => by have := hr q hq; have := I.row.1; omega)), .inl ?_, hrest⟩
  rw [List.length_append, List.length_singleton]; rcases I.len with h | h <;> omega
theorem JInv.app2 {r : List Nat} (I : JInv G N ps last L k ns v w wr) (hk : k + 1 = N) (hl : r.length = 2) (hg : wr.grownBy w9 v.ownBlock)
    (hown : w9.ownsRow (G + 1) 3 1 v9 (ns ++ r).length (rowI (ns ++ r))) (hrest : sideG last L = (sideG last (L.drop (k + 1))).map ((ns ++ r) ++ ·)) :
    JInv G N ps last L (k + 1) (ns ++ r) v9 w w9 := by
  have hr : ∀ q, v.ownBlock = some q → G + 1 ≤ q := fun q hq => own_ge I.own q hq
  refine ⟨I.row.grown hg (fun q hq => by have := hr q hq; omega), hown, (I.below.grown hg I.below.size (fun q hq => by have := hr q hq; have := I.row.1; omega)), .inr ⟨hk, ?_⟩, hrest⟩
  rw [List.length_append, hl]; rcases I.len with h | h <;> omega
end
/-- what the document's side returns -/
def RetI (M B : Nat) (r : Option (List Nat)) (e : Ending) (w' : World) : Prop :=
  ∃ v ns, e = .returned (.tuple #[v, .bool r.isSome]) ∧ w'.ownsRow B 3 1 v ns.length (rowI ns) ∧ ns.length ≤ M ∧ ∀ l, r = some l → ns = l
theorem retI_none {M B : Nat} {r : Option (List Nat)} {w : World} (h : r = none) : RetI M B r (.returned (.tuple #[.slice none 0 0, .bool false])) w := by
  subst h
  exact ⟨_, [], rfl, World.ownsRow_nil _ _ _ _, Nat.zero_le _, fun l h => by cases h⟩
set_option maxRecDepth 100000 in
set_option maxHeartbeats 1000000 in
theorem side24 (s : ByteArray) (last : Bool) (w : World) (hs : s.size < 1000000000) :
    Calls Tryd.prog 24 #[.string s, .bool last] w fun e w' => RetI (s.size + 3) w.heap.size (sideL last s.data.toList) e w' ∧ Below w.heap.size w w' := by
  by_cases h1 : s.size = 0
  · have e1 : s = ⟨#[]⟩ := by
      have : s.data = #[] := Array.eq_empty_of_size_eq_zero h1
      cases s; simp_all
    subst e1
    go_enter Tryd.func24, Tryd.ntmps24
    go_wp2_with fail
    go_ret2
    exact ⟨⟨_, [], rfl, World.ownsRow_nil _ _ _ _, Nat.zero_le _, fun l h => by cases h; rfl⟩, Below.refl _ _⟩
  · have e0 : s.data.toList ≠ [] := fun h => h1 (by rw [← ByteArray.size_data, ← Array.length_toList, h]; rfl)
    have e1 : s.toList.isEmpty = false := by
      rw [Bool.eq_false_iff]; intro h
      rw [List.isEmpty_iff, ByteArray.toList_eq] at h
      exact e0 h
    have hside : sideL last s.data.toList = sideG last (spl 58 s.data.toList) := if_neg e0
    have HSD := Lib.hid hside
    clear hside e0
    go_enter Tryd.func24, Tryd.ntmps24
    go_wp2_with fail
    refine (split33 s 58 _ hs).mono ?_
    rintro e w1 ⟨⟨v1, ps, rfl, hown, hps⟩, b1⟩
    have hlen : (spl 58 s.data.toList).length = ps.length := by rw [← hps, List.length_map]
    have hpos := spl_pos 58 s.data.toList
    have hlen2 := spl_length 58 s.data.toList
    have hsl : s.data.toList.length = s.size := by simp
    rw [hlen, hsl] at hlen2
    obtain ⟨G, cap, rfl, hrow⟩ := rowS_of hown (by omega)
    have hget := fun k => @rowB_len s 58 ps hps k
    obtain ⟨T, hT⟩ : ∃ T, T = spl 58 s.data.toList := ⟨_, rfl⟩
    rw [← hT] at hget HSD hlen
    obtain ⟨N, hN⟩ : ∃ N, N = ps.length := ⟨_, rfl⟩
    have I0 : JInv G N ps last T 0 [] (.slice none 0 0) w w1 := ⟨hrow, World.ownsRow_nil _ _ _ _, b1, .inl (Nat.le_refl _), by rw [List.drop_zero]; cases sideG last T <;> rfl⟩
    have I := Lib.hid I0
    have HT := Lib.hid hlen
    have HG := Lib.hid hget
    rw [← hN] at hlen2 ⊢
    have HNN := Lib.hid hN
    clear I0 hrow hown hps b1 hlen hpos hT hget hN hsl
    go_wp2_with fail
    go_loopw [6, 8] (fun v i wr => ∃ (k : Nat) (ns : List Nat), k ≤ N ∧ i = .int .i64 k ∧ JInv G N ps last T k ns v w wr) (fun _ i _ => N - (intOf i).toNat)
    case atStart => exact ⟨0, [], by omega, rfl, I.out⟩
    case round =>
      clear I
      obtain ⟨k, ns, hk, rfl, I⟩ := hrel
      by_cases hlt : k < N
      · obtain ⟨p, hp, hdrop, hpsz⟩ := HG.out k (by rw [← HNN.out]; exact hlt)
        have c1 := I.row.2.2 k p hp
        have HI := Lib.hid I
        have HD := Lib.hid hdrop
        have HP := Lib.hid hp
        clear I hp hdrop
        have o1 : ¬ ((N : Int) ≤ k) := by omega
        have o2 : (k : Int) < N := by omega
        go_wp2_with fail
        refine (number34 p 16 4 (by decide) (by decide) _).mono ?_
        rintro e w2 ⟨rfl, b2⟩
        have HI2 := Lib.hid (HI.out.step b2)
        have c2 := HI2.out.row.2.2 k p HP.out
        have hSz : G + 1 ≤ w2.heap.size := HI2.out.row.2.1
        have HLN := Lib.hid HI2.out.len
        clear HI b2 c1
        obtain ⟨q, cap2, hq, -, -⟩ := own_slice HI2.out.own
        subst hq
        cases en : num 16 4 p.data.toList with
        | some n =>
          have hnl : n < 65536 := num_lt (by decide) en
          have HRE := Lib.hid (side_some HI2.out.rest HD.out rfl en)
          have HI3 := Lib.hid info3
          clear en
          unfold numI
          go_wp2_with (first | (at_builtin; refine appG1 Tryd.underlying47 HI3.out rfl rfl (.tmp 29) (.tmp 31) rfl (G + 1) (.slice q ns.length cap2) ns.length (rowI ns) (.int .i64 (n : Int)) rfl rfl HI2.out.own rfl (by have := HLN.out; omega) (by have := HLN.out; omega) hSz ?_; intro G2 cap9 w9 hG2 hown9 hgr9; have HC9 := Lib.hid (HI2.out.app hlt hgr9 hown9 HRE.out); clear hown9 hgr9))
          exact ⟨⟨k + 1, ns ++ [n], by omega, by go_num, HC9.out⟩, by simp [intOf]; omega⟩
        | none =>
          unfold numI
          go_wp2_with fail
          refine (four35 p _ (by omega)).mono ?_
          rintro e w3 ⟨⟨v3, rfl, hown3⟩, b3⟩
          have HI3 := Lib.hid (HI2.out.step b3)
          have hlt1 : ∀ k, (Value.slice q ns.length cap2).ownBlock = some k → k < w2.heap.size := fun k hk => (HI2.out.own.lt k hk).2
          have HEN := Lib.hid en
          have HO3 := Lib.hid hown3
          clear b3 HI2 c2 en hown3
          obtain ⟨q3, cap3, hq3, -, -⟩ := own_slice HO3.out
          subst hq3
          cases last with
          | false =>
            have HR := Lib.hid (HSD.out.trans (side_none HI3.out.rest HD.out HEN.out (.inl rfl)))
            go_wp2_with fail
            go_ret2
            exact ⟨retI_none HR.out, HI3.out.below⟩
          | true =>
            have hsub : IntKind.i64.wrap ((N : Int) - 1) = (N : Int) - 1 := by rw [IntKind.wrap_i64]; omega
            by_cases hkN : k + 1 = N
            · have hge : ¬ ((k : Int) < (N : Int) - 1) := by omega
              have hnil : T.drop (k + 1) = [] := List.drop_eq_nil_of_le (by have := HT.out; have := HNN.out; omega)
              have HSD2 := Lib.hid (side_dec2 HI3.out.rest HD.out hnil HEN.out)
              have HNIL := Lib.hid hnil
              clear hnil
              cases hd4 : dec4 p.data.toList with
              | none =>
                have HR := Lib.hid (HSD.out.trans (HSD2.out.trans (by rw [hd4]; try rfl)))
                rw [hd4] at HO3
                clear hd4 HSD2
                go_wp2_with fail
                go_ret2
                exact ⟨retI_none HR.out, HI3.out.below⟩
              | some l =>
                have hl2 := dec4_two hd4
                rw [hd4] at HO3 HSD2
                simp only [Option.getD_some] at HO3 ⊢
                have HL2 := Lib.hid hl2
                have hl2i : ((l.length : Int) == 2) = true := by simp; omega
                have hl2j : (l.length : Int) = 2 := by omega
                clear hd4 hl2
                go_wp2_with (first | (at_builtin; refine appI2 rfl (.tmp 52) (.tmp 53) rfl (G + 1) (.slice q ns.length cap2) ns rfl HI3.out.own w2.heap.size (.slice q3 l.length cap3) l rfl HO3.out (by have := HLN.out; have := HL2.out; omega) (by have := HI3.out.row.2.1; omega) ?_; intro v9 w9 hown9 hgr9; have HC9 := Lib.hid (HI3.out.app2 hkN HL2.out hgr9 hown9 (HSD2.out.trans (by rw [HNIL.out]; simp [sideG]))); clear hown9 hgr9))
                exact ⟨⟨k + 1, ns ++ l, by omega, by go_num, HC9.out⟩, by simp [intOf]; omega⟩
            · have hlt2 : (k : Int) < (N : Int) - 1 := by omega
              have HR := Lib.hid (HSD.out.trans (side_none HI3.out.rest HD.out HEN.out (.inl (by have := HT.out; have := HNN.out; rw [Bool.true_and, List.isEmpty_eq_false_iff, ← List.length_pos_iff, List.length_drop]; omega))))
              go_wp2_with fail
              go_ret2
              exact ⟨retI_none HR.out, HI3.out.below⟩
      · obtain rfl : k = N := by omega
        have e := I.rest
        rw [List.drop_eq_nil_of_le (by have := HT.out; have := HNN.out; omega)] at e
        have HR := Lib.hid (HSD.out.trans (e.trans (show _ = some ns by simp [sideG])))
        have HO := Lib.hid (own_mono I.own (show w.heap.size ≤ G + 1 by have := I.row.1; omega))
        have HB := Lib.hid I.below
        have HLN := Lib.hid I.len
        clear I e
        go_wp2_with fail
        go_ret2
        refine ⟨?_, HB.out⟩
        rw [HR.out]
        exact ⟨_, ns, rfl, HO.out, by have := HLN.out; omega, fun l hl => by cases hl; rfl⟩
end Go.Proofs.YtepoaapadalnoaaDoor
