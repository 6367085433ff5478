/- The document's four decimals. -/
import Derived.Test.YtepoaapadalnoaaDoorGetH
namespace Go.Proofs.YtepoaapadalnoaaDoor
open Go.RowKit
set_option linter.unusedVariables false
set_option linter.unusedSimpArgs false
def rowI (l : List Nat) : List Value := l.map fun x : Nat => .int .i64 (x : Int)
theorem rowI_length (l : List Nat) : (rowI l).length = l.length := by simp [rowI]
/-- strings in a row -/
def RowS (w : World) (B G : Nat) (ps : List ByteArray) : Prop := B ≤ G ∧ G < w.heap.size ∧ ∀ (j : Nat) p, ps[j]? = some p → w.cell? ⟨G, j, none⟩ = some (.string p)
theorem RowS.step {w w' : World} {B G : Nat} {ps : List ByteArray} (h : RowS w B G ps) (hb : Below w.heap.size w w') : RowS w' B G ps :=
  ⟨h.1, Nat.lt_of_lt_of_le h.2.1 hb.size, fun j p hj => (hb.cell (p := ⟨G, j, none⟩) h.2.1).trans (h.2.2 j p hj)⟩
theorem rowS_of {w : World} {B : Nat} {v : Value} {ps : List ByteArray} (h : w.ownsRow B 9 1 v ps.length (ps.map Value.string)) (hn : 0 < ps.length) : ∃ G cap, v = .slice (some ⟨G, 0, none⟩) ps.length cap ∧ RowS w B G ps := by
  obtain ⟨q, cap, rfl, -, hsl⟩ := own_slice h
  obtain ⟨G, rfl, hG, hG2, hc⟩ := hsl hn
  exact ⟨G, cap, rfl, hG, hG2, fun j p hj => hc j _ (by rw [List.getElem?_map, hj]; rfl)⟩
/-- growing a row of one's own that lies behind keeps the strings -/
theorem RowS.grown {wr w' : World} {B G : Nat} {ps : List ByteArray} {row : Option Nat} (h : RowS wr B G ps) (hg : wr.grownBy w' row) (hr : ∀ k, row = some k → G < k) : RowS w' B G ps := by
  refine ⟨h.1, Nat.lt_of_lt_of_le h.2.1 hg.size, fun j p hj => ?_⟩
  have := h.2.2 j p hj
  rw [← this]
  simp only [World.cell?, hg.block G h.2.1 (fun e => by have := hr G e.symm; omega)]
structure FInv4 (G : Nat) (ps : List ByteArray) (L : List (List UInt8)) (k : Nat) (ns : List Nat) (v : Value) (w wr : World) : Prop where
  row : RowS wr w.heap.size G ps
  own : wr.ownsRow (G + 1) 3 1 v ns.length (rowI ns)
  below : Below w.heap.size w wr
  len : ns.length = k
  lt : ∀ x ∈ ns, x < 256
  rest : decs L = (decs (L.drop k)).map (ns ++ ·)
theorem FInv4.step {G : Nat} {ps : List ByteArray} {L : List (List UInt8)} {k : Nat} {ns : List Nat} {v : Value} {w wr w2 : World} (I : FInv4 G ps L k ns v w wr) (hb : Below wr.heap.size wr w2) : FInv4 G ps L k ns v w w2 :=
  ⟨I.row.step hb, own_below I.own hb, I.below.trans (hb.mono I.below.size), I.len, I.lt, I.rest⟩
theorem FInv4.app {G k n cap G2 : Nat} {ps : List ByteArray} {L : List (List UInt8)} {ns : List Nat} {v : Value} {w wr w9 : World} {o : Obj} (I : FInv4 G ps L k ns v w wr) (hg : (wr.alloc o).grownBy w9 v.ownBlock)
    (hown : w9.ownsRow (G + 1) 3 1 (.slice (some ⟨G2, 0, none⟩) (ns.length + 1) cap) (ns.length + 1) (rowI ns ++ [.int .i64 (n : Int)])) (hn : n < 256) (hrest : decs L = (decs (L.drop (k + 1))).map ((ns ++ [n]) ++ ·)) :
    FInv4 G ps L (k + 1) (ns ++ [n]) (.slice (some ⟨G2, 0, none⟩) (ns.length + 1) cap) w w9 := by
  have hr : ∀ q, v.ownBlock = some q → G + 1 ≤ q := fun q hq => own_ge I.own q hq
  have hr1 : RowS (wr.alloc o) w.heap.size G ps := I.row.step ((Below.refl _ _).alloc (Nat.le_refl _) _)
  refine ⟨hr1.grown hg (fun q hq => by have := hr q hq; omega), by simpa [rowI] using hown, ((I.below.alloc I.below.size _).grown hg (by have := I.below.size; simp; omega) (fun q hq => by have := hr q hq; have := I.row.1; omega)), by simp [I.len], ?_, hrest⟩
  intro x hx
  rcases List.mem_append.1 hx with h | h
  · exact I.lt x h
  · rw [List.mem_singleton] at h; omega
theorem rowB_len {s : ByteArray} {c : UInt8} {ps : List ByteArray} (h : ps.map (·.data.toList) = spl c s.data.toList) {k : Nat} (hk : k < ps.length) :
    ∃ p : ByteArray, ps[k]? = some p ∧ (spl c s.data.toList).drop k = p.data.toList :: (spl c s.data.toList).drop (k + 1) ∧ p.size ≤ s.size := by
  refine ⟨ps[k], List.getElem?_eq_getElem hk, ?_, ?_⟩
  · rw [← h, List.drop_eq_getElem_cons (by rw [List.length_map]; exact hk), List.getElem_map]
  · have := spl_piece (c := c) (s := s.data.toList) (p := (ps[k]).data.toList) (by rw [← h]; exact List.mem_map.2 ⟨_, List.getElem_mem hk, rfl⟩)
    simpa using this
theorem spl_pos (c : UInt8) (s : List UInt8) : 0 < (spl c s).length := List.length_pos_iff.2 (spl_ne c s)
/-- what the document's four decimals return -/
def RetF (B : Nat) (r : Option (List Nat)) (e : Ending) (w' : World) : Prop := ∃ v, e = .returned v ∧ w'.ownsRow B 3 1 v (r.getD []).length (rowI (r.getD []))
theorem retF_none {B : Nat} {r : Option (List Nat)} {w : World} (h : r = none) : RetF B r (.returned (.slice none 0 0)) w := by
  subst h; exact ⟨_, rfl, World.ownsRow_nil _ _ _ _⟩
structure RI4 (G x y z t : Nat) (w W : World) : Prop where
  lt : G < W.heap.size
  c0 : W.cell? ⟨G, 0, none⟩ = some (.int .i64 (x : Int))
  c1 : W.cell? ⟨G, 1, none⟩ = some (.int .i64 (y : Int))
  c2 : W.cell? ⟨G, 2, none⟩ = some (.int .i64 (z : Int))
  c3 : W.cell? ⟨G, 3, none⟩ = some (.int .i64 (t : Int))
  below : Below w.heap.size w W
theorem RI4.step {G x y z t : Nat} {w W W2 : World} (I : RI4 G x y z t w W) (hb : Below W.heap.size W W2) : RI4 G x y z t w W2 :=
  ⟨Nat.lt_of_lt_of_le I.lt hb.size, (hb.cell (p := ⟨G, 0, none⟩) I.lt).trans I.c0, (hb.cell (p := ⟨G, 1, none⟩) I.lt).trans I.c1, (hb.cell (p := ⟨G, 2, none⟩) I.lt).trans I.c2, (hb.cell (p := ⟨G, 3, none⟩) I.lt).trans I.c3, I.below.trans (hb.mono I.below.size)⟩
set_option maxRecDepth 100000 in
set_option maxHeartbeats 1000000 in
theorem four35 (s : ByteArray) (w : World) (hs : s.size < 1000000000) :
    Calls Tryd.prog 35 #[.string s] w fun e w' => RetF w.heap.size (dec4 s.data.toList) e w' ∧ Below w.heap.size w w' := by
  go_enter Tryd.func35, Tryd.ntmps35
  go_wp2_with fail
  refine (split33 s 46 _ hs).mono ?_
  rintro e w1 ⟨⟨v1, ps, rfl, hown, hps⟩, b1⟩
  have hlen : (spl 46 s.data.toList).length = ps.length := by rw [← hps, List.length_map]
  have hpos := spl_pos 46 s.data.toList
  obtain ⟨G, cap, rfl, hrow⟩ := rowS_of hown (by omega)
  have hget := fun k => @rowB_len s 46 ps hps k
  by_cases hl : ps.length = 4
  · rw [hl]
    obtain ⟨T, hT⟩ : ∃ T, T = spl 46 s.data.toList := ⟨_, rfl⟩
    rw [← hT] at hget
    have hd4 : decs T = none → dec4 s.data.toList = none := fun h => dec4_none (by rw [← hT]; exact h)
    have hd4s : ∀ a b c d, decs T = some [a, b, c, d] → dec4 s.data.toList = some [256 * a + b, 256 * c + d] := fun a b c d h => by unfold dec4; rw [← hT, h]
    have I0 : FInv4 G ps T 0 [] (.slice none 0 0) w w1 := ⟨hrow, World.ownsRow_nil _ _ _ _, b1, rfl, by simp, by rw [List.drop_zero]; cases decs T <;> rfl⟩
    have I := Lib.hid I0
    have HTL := Lib.hid (show T.length = 4 by rw [hT, hlen, hl])
    have HT := Lib.hid hT
    have HG := Lib.hid hget
    have HN := Lib.hid hd4
    have HY := Lib.hid hd4s
    clear I0 hrow hown hps b1 hlen hpos hT hget hd4 hd4s
    go_wp2_with fail
    go_loopw [4, 5] (fun v i wr => ∃ (k : Nat) (ns : List Nat), k ≤ 4 ∧ i = .int .i64 k ∧ FInv4 G ps T k ns v w wr) (fun _ i _ => 4 - (intOf i).toNat)
    case atStart => exact ⟨0, [], by omega, rfl, I.out⟩
    case round =>
      clear I
      obtain ⟨k, ns, hk, rfl, I⟩ := hrel
      by_cases hlt : k < 4
      · obtain ⟨p, hp, hdrop, hpsz⟩ := HG.out k (by omega)
        have c1 := I.row.2.2 k p hp
        have HI := Lib.hid I
        have HD := Lib.hid hdrop
        have HP := Lib.hid hp
        clear I hp hdrop
        have o1 : ¬ ((4 : Int) ≤ k) := by omega
        have o2 : (k : Int) < 4 := by omega
        go_wp2_with fail
        refine (number34 p 10 3 (by decide) (by decide) _).mono ?_
        rintro e w2 ⟨rfl, b2⟩
        have HI2 := Lib.hid (HI.out.step b2)
        have hn : decN p.data.toList = none → dec4 s.data.toList = none := fun h => HN.out (decs_none HI.out.rest HD.out h)
        have c2 := HI2.out.row.2.2 k p HP.out
        clear HI b2 c1
        cases en : num 10 3 p.data.toList with
        | none =>
          have HR := Lib.hid (hn (decN_none en))
          clear hn en
          unfold numI
          go_wp2_with fail
          go_ret
          exact ⟨retF_none HR.out, HI2.out.below⟩
        | some n =>
          have hnl := num_lt (by decide) en
          by_cases h255 : 255 < n
          · have HR := Lib.hid (hn (by unfold decN; rw [en]; exact if_pos (.inl h255)))
            clear hn en
            unfold numI
            go_wp2_with fail
            go_ret
            exact ⟨retF_none HR.out, HI2.out.below⟩
          · by_cases hbad : 1 < p.size ∧ p.data.toList.head? = some 48
            · have HR := Lib.hid (hn (by unfold decN; rw [en]; exact if_pos (.inr (by simpa using hbad))))
              obtain ⟨hp1, hh⟩ := hbad
              have h0 : 0 < p.size := by omega
              have hp0 : (p[0]'h0).toNat = 48 := by
                rw [head_b p h0] at hh
                rw [Option.some.inj hh]; rfl
              clear hn en hh
              unfold numI
              go_wp2_with fail
              go_ret
              exact ⟨retF_none HR.out, HI2.out.below⟩
            · have hdn : decN p.data.toList = some n := by
                unfold decN; rw [en]; exact if_neg (by rintro (h | h); exact h255 h; exact hbad (by simpa using h))
              have hnl2 : n < 256 := by omega
              have h255i : ¬ ((255 : Int) < n) := by omega
              have HRE := Lib.hid (decs_some HI2.out.rest HD.out rfl hdn)
              have HLN := Lib.hid HI2.out.len
              have hSz : G + 1 ≤ w2.heap.size := HI2.out.row.2.1
              have HI3 := Lib.hid info3
              obtain ⟨q, cap2, hq, -, -⟩ := own_slice HI2.out.own
              subst hq
              have HX : Hid (p.size ≤ 1 ∨ ∃ h0 : 0 < p.size, 1 < p.size ∧ ((((p[0]'h0).toNat : Int) == 48) = false)) := by
                by_cases h : 1 < p.size
                · refine Or.inr ⟨by omega, h, ?_⟩
                  rw [beq_eq_false_iff_ne]
                  intro h2
                  refine hbad ⟨h, ?_⟩
                  rw [head_b p (by omega)]
                  congr 1
                  exact UInt8.toNat_inj.1 (by have : (48 : UInt8).toNat = 48 := rfl; omega)
                · exact Or.inl (by omega)
              clear hn hbad en hdn h255 hnl
              rcases HX.out with hp1 | ⟨h0, hp1, hp0⟩
              all_goals (
                unfold numI
                go_wp2_with (first | (at_builtin; refine appG1 Tryd.underlying47 HI3.out rfl rfl (.tmp 43) (.tmp 45) rfl (G + 1) (.slice q ns.length cap2) ns.length (rowI ns) (.int .i64 (n : Int)) rfl rfl HI2.out.own rfl (by have := HLN.out; omega) (by have := HLN.out; omega) hSz ?_; intro G2 cap9 w9 hG2 hown9 hgr9; have HC9 := Lib.hid (HI2.out.app hgr9 hown9 hnl2 HRE.out); clear hown9 hgr9))
                exact ⟨⟨k + 1, ns ++ [n], by omega, by go_num, HC9.out⟩, by simp [intOf]; omega⟩)
      · obtain rfl : k = 4 := by omega
        have hlen := I.len
        obtain ⟨x, y, z, t, rfl⟩ : ∃ x y z t, ns = [x, y, z, t] := by
          match ns, hlen with
          | [x, y, z, t], _ => exact ⟨x, y, z, t, rfl⟩
        have e := I.rest
        rw [List.drop_eq_nil_of_le (by rw [HTL.out]; exact Nat.le_refl _)] at e
        have HR := Lib.hid (HY.out x y z t (e.trans rfl))
        have hx := I.lt x (by simp); have hy := I.lt y (by simp); have hz := I.lt z (by simp); have ht := I.lt t (by simp)
        obtain ⟨q, cap2, hq, -, hsl⟩ := own_slice I.own
        obtain ⟨G2, rfl, hG2, hG3, hcell⟩ := hsl (by simp)
        subst hq
        have HSZ := Lib.hid I.below.size
        have HRI := Lib.hid (show RI4 G2 x y z t w wr from ⟨hG3, hcell 0 _ rfl, hcell 1 _ rfl, hcell 2 _ rfl, hcell 3 _ rfl, I.below⟩)
        clear I e hcell hsl HG HN HY HT HTL hlen
        go_wp2_with fail
        obtain ⟨WR, hWR⟩ : ∃ WR, WR = wr.drew := ⟨_, rfl⟩
        have hS : RI4 G2 x y z t w wr.drew := HRI.out.step (Below.refl _ _).drew
        clear HRI hWR
        refine wp_region_held_drew (S := fun W => RI4 G2 x y z t w W) (by kernel_rfl) hS ?_
        clear hS
        intro HS
        refine wpAnyH_take (i := 0) (v := ?_) rfl (by kernel_rfl) (by kernel_rfl) (by kernel_rfl) (fun _ _ _ h => h) (Or.inl ⟨by go_simp, ?hy⟩) HS ?_
        case hy => intro W hW; go_simp; (try with_reducible rfl)
        try simp only [List.getElem_toArray, List.getElem_cons_zero, List.getElem_cons_succ, Act.put, List.setIfInBounds_toArray, List.set_cons_zero, List.set_cons_succ]
        refine wpAnyH_take (i := 4) (v := ?_) rfl (by kernel_rfl) (by kernel_rfl) (by kernel_rfl) (fun _ _ _ h => h) (Or.inl ⟨by go_simp, ?hy⟩) HS ?_
        case hy => intro W hW; go_simp; (try with_reducible rfl)
        try simp only [List.getElem_toArray, List.getElem_cons_zero, List.getElem_cons_succ, Act.put, List.setIfInBounds_toArray, List.set_cons_zero, List.set_cons_succ]
        refine wpAnyH_take (i := 8) (v := ?_) rfl (by kernel_rfl) (by kernel_rfl) (by kernel_rfl) (fun _ _ _ h => h) (Or.inl ⟨by go_simp, ?hy⟩) HS ?_
        case hy => intro W hW; go_simp; (try with_reducible rfl)
        try simp only [List.getElem_toArray, List.getElem_cons_zero, List.getElem_cons_succ, Act.put, List.setIfInBounds_toArray, List.set_cons_zero, List.set_cons_succ]
        refine wpAnyH_take (i := 12) (v := ?_) rfl (by kernel_rfl) (by kernel_rfl) (by kernel_rfl) (fun _ _ _ h => h) (Or.inl ⟨by go_simp, ?hy⟩) HS ?_
        case hy => intro W hW; go_simp; (try with_reducible rfl)
        try simp only [List.getElem_toArray, List.getElem_cons_zero, List.getElem_cons_succ, Act.put, List.setIfInBounds_toArray, List.set_cons_zero, List.set_cons_succ]
        refine wpAnyH_take (i := 1) (v := .pointer (some ⟨G2, 0, none⟩)) rfl (by kernel_rfl) (by kernel_rfl) (by kernel_rfl) (fun _ _ _ h => h) (Or.inl ⟨by go_simp, fun W hW => by go_simp⟩) HS ?_
        try simp only [List.getElem_toArray, List.getElem_cons_zero, List.getElem_cons_succ, Act.put, List.setIfInBounds_toArray, List.set_cons_zero, List.set_cons_succ]
        refine wpAnyH_take (i := 5) (v := .pointer (some ⟨G2, 1, none⟩)) rfl (by kernel_rfl) (by kernel_rfl) (by kernel_rfl) (fun _ _ _ h => h) (Or.inl ⟨by go_simp, fun W hW => by go_simp⟩) HS ?_
        try simp only [List.getElem_toArray, List.getElem_cons_zero, List.getElem_cons_succ, Act.put, List.setIfInBounds_toArray, List.set_cons_zero, List.set_cons_succ]
        refine wpAnyH_take (i := 9) (v := .pointer (some ⟨G2, 2, none⟩)) rfl (by kernel_rfl) (by kernel_rfl) (by kernel_rfl) (fun _ _ _ h => h) (Or.inl ⟨by go_simp, fun W hW => by go_simp⟩) HS ?_
        try simp only [List.getElem_toArray, List.getElem_cons_zero, List.getElem_cons_succ, Act.put, List.setIfInBounds_toArray, List.set_cons_zero, List.set_cons_succ]
        refine wpAnyH_take (i := 13) (v := .pointer (some ⟨G2, 3, none⟩)) rfl (by kernel_rfl) (by kernel_rfl) (by kernel_rfl) (fun _ _ _ h => h) (Or.inl ⟨by go_simp, fun W hW => by go_simp⟩) HS ?_
        try simp only [List.getElem_toArray, List.getElem_cons_zero, List.getElem_cons_succ, Act.put, List.setIfInBounds_toArray, List.set_cons_zero, List.set_cons_succ]
        refine wpAnyH_take (i := 2) (v := ?_) rfl (by kernel_rfl) (by kernel_rfl) (by kernel_rfl) (fun _ _ _ h => h) (Or.inl ⟨by go_simp, ?hy⟩) HS ?_
        case hy => intro W hW; have c := hW.c0; go_simp; (try with_reducible rfl)
        try simp only [List.getElem_toArray, List.getElem_cons_zero, List.getElem_cons_succ, Act.put, List.setIfInBounds_toArray, List.set_cons_zero, List.set_cons_succ]
        refine wpAnyH_take (i := 6) (v := ?_) rfl (by kernel_rfl) (by kernel_rfl) (by kernel_rfl) (fun _ _ _ h => h) (Or.inl ⟨by go_simp, ?hy⟩) HS ?_
        case hy => intro W hW; have c := hW.c1; go_simp; (try with_reducible rfl)
        try simp only [List.getElem_toArray, List.getElem_cons_zero, List.getElem_cons_succ, Act.put, List.setIfInBounds_toArray, List.set_cons_zero, List.set_cons_succ]
        refine wpAnyH_take (i := 10) (v := ?_) rfl (by kernel_rfl) (by kernel_rfl) (by kernel_rfl) (fun _ _ _ h => h) (Or.inl ⟨by go_simp, ?hy⟩) HS ?_
        case hy => intro W hW; have c := hW.c2; go_simp; (try with_reducible rfl)
        try simp only [List.getElem_toArray, List.getElem_cons_zero, List.getElem_cons_succ, Act.put, List.setIfInBounds_toArray, List.set_cons_zero, List.set_cons_succ]
        refine wpAnyH_take (i := 14) (v := ?_) rfl (by kernel_rfl) (by kernel_rfl) (by kernel_rfl) (fun _ _ _ h => h) (Or.inl ⟨by go_simp, ?hy⟩) HS ?_
        case hy => intro W hW; have c := hW.c3; go_simp; (try with_reducible rfl)
        try simp only [List.getElem_toArray, List.getElem_cons_zero, List.getElem_cons_succ, Act.put, List.setIfInBounds_toArray, List.set_cons_zero, List.set_cons_succ]
        refine wpAnyH_take (i := 3) (v := .int .i64 (256 * (x : Int))) rfl (by kernel_rfl) (by kernel_rfl) (by kernel_rfl) (fun _ _ _ h => h) (Or.inl ⟨by go_simp, fun W hW => by go_simp; (try exact i64_small (m := 256 * x) (by omega))⟩) HS ?_
        try simp only [List.getElem_toArray, List.getElem_cons_zero, List.getElem_cons_succ, Act.put, List.setIfInBounds_toArray, List.set_cons_zero, List.set_cons_succ]
        refine wpAnyH_take (i := 7) (v := .int .i64 ((256 * x + y : Nat) : Int)) rfl (by kernel_rfl) (by kernel_rfl) (by kernel_rfl) (fun _ _ _ h => h) (Or.inl ⟨by go_simp, fun W hW => by go_simp; (try exact i64_small (m := 256 * x + y) (by omega))⟩) HS ?_
        try simp only [List.getElem_toArray, List.getElem_cons_zero, List.getElem_cons_succ, Act.put, List.setIfInBounds_toArray, List.set_cons_zero, List.set_cons_succ]
        refine wpAnyH_take (i := 11) (v := .int .i64 (256 * (z : Int))) rfl (by kernel_rfl) (by kernel_rfl) (by kernel_rfl) (fun _ _ _ h => h) (Or.inl ⟨by go_simp, fun W hW => by go_simp; (try exact i64_small (m := 256 * z) (by omega))⟩) HS ?_
        try simp only [List.getElem_toArray, List.getElem_cons_zero, List.getElem_cons_succ, Act.put, List.setIfInBounds_toArray, List.set_cons_zero, List.set_cons_succ]
        refine wpAnyH_take (i := 15) (v := .int .i64 ((256 * z + t : Nat) : Int)) rfl (by kernel_rfl) (by kernel_rfl) (by kernel_rfl) (fun _ _ _ h => h) (Or.inl ⟨by go_simp, fun W hW => by go_simp; (try exact i64_small (m := 256 * z + t) (by omega))⟩) HS ?_
        try simp only [List.getElem_toArray, List.getElem_cons_zero, List.getElem_cons_succ, Act.put, List.setIfInBounds_toArray, List.set_cons_zero, List.set_cons_succ]
        refine wpAnyH_ready (rs := [16]) (by kernel_rfl) (by simp) ?_
        refine AllReadyH.cons rfl (fun K hK => ?_) AllReadyH.nil
        rw [if_pos (by kernel_rfl)]
        simp only [List.getElem_toArray, List.getElem_cons_zero, List.getElem_cons_succ]
        go_simp
        refine hK.out _ _ (HS.step ((Below.refl _ _).alloc (Nat.le_refl _) _)) (fun HS => ?_)
        clear hK
        try simp only [List.getElem_toArray, List.getElem_cons_zero, List.getElem_cons_succ, Act.put, List.setIfInBounds_toArray, List.set_cons_zero, List.set_cons_succ]
        refine wpAnyH_take (i := 17) (v := ?_) rfl (by kernel_rfl) (by kernel_rfl) (by kernel_rfl) (fun _ _ _ h => h) (Or.inl ⟨by go_simp, ?hy⟩) HS ?_
        case hy => intro W hW; go_simp; (try with_reducible rfl)
        try simp only [List.getElem_toArray, List.getElem_cons_zero, List.getElem_cons_succ, Act.put, List.setIfInBounds_toArray, List.set_cons_zero, List.set_cons_succ]
        refine wpAnyH_done (by kernel_rfl) ?_ _
        have HB9 := Lib.hid HS.below
        clear HS
        go_wp2_with fail
        go_ret
        refine ⟨⟨_, rfl, ?_⟩, HB9.out⟩
        rw [HR.out]
        have h := World.ownsRow_lit (base := w.heap.size) (e := 3) (size := 1) wr #[Value.int .i64 (256 * (x : Int) + y), Value.int .i64 (256 * (z : Int) + t)] 2 HSZ.out (by decide) rfl
        have e2 : rowI ((some [256 * x + y, 256 * z + t]).getD []) = [Value.int .i64 (256 * (x : Int) + y), Value.int .i64 (256 * (z : Int) + t)] := by simp [rowI]
        rw [e2]
        exact h
  · have q1 : ((ps.length : Int) == 4) = false := by simp; omega
    have hd := Lib.hid (dec4_len (s := s.data.toList) (by rw [hlen]; exact hl))
    have HB := Lib.hid b1
    clear hget hlen hps b1 hown hrow
    go_wp2_with fail
    go_ret
    exact ⟨retF_none hd.out, HB.out⟩
end Go.Proofs.YtepoaapadalnoaaDoor
