/- A text cut at a byte; four decimals. -/
import Derived.Test.YtepoaapadalnoaaDoorGetA
import Derived.Test.YtepoaapadalnoaaDoorPutH
import Derived.Laws.AppendOwnNone
namespace Go.Proofs.YtepoaapadalnoaaDoor
open Go.RowKit
set_option linter.unusedVariables false
set_option linter.unusedSimpArgs false
def rowU (l : List Nat) : List Value := l.map fun x : Nat => .int .u16 (x : Int)
theorem rowU_length (l : List Nat) : (rowU l).length = l.length := by simp [rowU]
theorem info36 : (Tryd.prog.info? 36).map (fun i => (i.zero, i.size, i.bytes)) = some (some (.int .u16 0), 1, 2) := by kernel_rfl
/-- a text's pieces -/
def spB (s : ByteArray) (c : UInt8) : List ByteArray := Lib.splitB ⟨#[c]⟩ 0 (Lib.countB s ⟨#[c]⟩) s
theorem spB_data (s : ByteArray) (c : UInt8) : (spB s c).map (·.data.toList) = spl c s.data.toList := by
  unfold spB
  rw [Lib.splitB_data]
  exact (split_spl c _ s.data.toList (Nat.le_refl _)).1
theorem spB_length (s : ByteArray) (c : UInt8) : (spB s c).length = Lib.countB s ⟨#[c]⟩ + 1 := by
  have h := congrArg List.length (spB_data s c)
  rw [List.length_map] at h
  rw [h]
  exact (split_spl c _ s.data.toList (Nat.le_refl _)).2
theorem spB_get {s : ByteArray} {c : UInt8} {k : Nat} (h : k < (spB s c).length) : ∃ p : ByteArray, (spB s c)[k]? = some p ∧ (spl c s.data.toList).drop k = p.data.toList :: (spl c s.data.toList).drop (k + 1) ∧ p.size ≤ s.size := by
  refine ⟨(spB s c)[k], List.getElem?_eq_getElem h, ?_, ?_⟩
  · rw [← spB_data, List.drop_eq_getElem_cons (by rw [List.length_map]; exact h), List.getElem_map]
  · have := spl_piece (c := c) (s := s.data.toList) (p := ((spB s c)[k]).data.toList) (by
      rw [← spB_data]; exact List.mem_map.2 ⟨_, List.getElem_mem h, rfl⟩)
    simpa using this
theorem split29 (s : ByteArray) (c : UInt8) (w : World) (L : Lay07 w) (hs : s.size < 4294967281) :
    Calls Tryd.prog 29 #[.string s, .string ⟨#[c]⟩] w fun e w' =>
      e = .returned (.slice (some ⟨w.heap.size, 0, none⟩) (spB s c).length (spB s c).length) ∧ w' = w.alloc (.cells ((spB s c).map Value.string).toArray 9) := by
  obtain ⟨m, hm⟩ := L.maxlen
  rw [spB_length]
  exact Tryd.strings_Split s ⟨#[c]⟩ m w hs hm (Nat.le_refl _)
/-- two by two -/
def outL : List Nat → List Nat
  | [] => []
  | [a] => [a]
  | a :: b :: r => (256 * a + b) :: outL r
structure CInv (S : Nat) (ps : List ByteArray) (L : List (List UInt8)) (k : Nat) (ns : List Nat) (v : Value) (w wr : World) : Prop where
  h : wr.heap[S]? = some (.cells (ps.map Value.string).toArray 9 (0, 0))
  own : wr.ownsRow (S + 1) 36 1 v (outL ns).length (rowU (outL ns))
  below : Below S w wr
  len : ns.length = k
  lt : ∀ x ∈ ns, x < 256
  rest : decs L = (decs (L.drop k)).map (ns ++ ·)
/-- what the reading of groups returns: a row of one's own, and whether they are groups -/
def RetG (M B : Nat) (r : Option (List Nat)) (e : Ending) (w' : World) : Prop :=
  ∃ v ns, e = .returned (.tuple #[v, .bool r.isSome]) ∧ w'.ownsRow B 36 1 v ns.length (rowU ns) ∧ ns.length ≤ M ∧ ∀ l, r = some l → ns = l
theorem retG_none {M B : Nat} {r : Option (List Nat)} {w : World} (h : r = none) : RetG M B r (.returned (.tuple #[.slice none 0 0, .bool false])) w := by
  subst h
  exact ⟨_, [], rfl, World.ownsRow_nil _ _ _ _, Nat.zero_le _, fun l h => by cases h⟩
theorem CInv.step {S : Nat} {ps : List ByteArray} {L : List (List UInt8)} {k : Nat} {ns : List Nat} {v : Value} {w wr w2 : World} (I : CInv S ps L k ns v w wr) (hb : Below wr.heap.size wr w2) : CInv S ps L k ns v w w2 :=
  ⟨(hb.block _ (lt_of_blk I.h)).trans I.h, own_below I.own hb, I.below.trans (hb.mono (Nat.le_of_lt (lt_of_blk I.h))), I.len, I.lt, I.rest⟩
theorem head_b (p : ByteArray) (h : 0 < p.size) : p.data.toList.head? = some (p[0]'h) := by
  rw [List.head?_eq_getElem?]; simp [h]; rfl
theorem grow_keep {S n : Nat} {w wr w' : World} {v : Value} {xs : List Value} {o : Obj} (hS : S < wr.heap.size) (hb : Below S w wr) (hown : wr.ownsRow (S + 1) 36 1 v n xs) (hg : (wr.alloc o).grownBy w' v.ownBlock) : w'.heap[S]? = wr.heap[S]? ∧ Below S w w' := by
  have h1 : Below (S + 1) wr (wr.alloc o) := (Below.refl _ _).alloc (by omega) _
  have h2 : Below (S + 1) wr w' := h1.grown hg (by simp; omega) (fun q hq => own_ge hown q hq)
  exact ⟨h2.block S (by omega), hb.trans (h2.mono (by omega))⟩
section
variable {ops : Array Oper} {rest : List Oper} {o : Oper} {a : Act} {Q : Exit → Act → World → Prop} {w : World}
theorem app1 (hgd : o.guard = none) (s x : Operand) (ho : o.op = .call { callee := .builtin .append, args := #[s, x], argTypes := #[46, 46] })
    (B : Nat) (v : Value) (l : List Nat) (r : Nat) (hs : a.eval s = v) (hown : w.ownsRow B 36 1 v l.length (rowU l)) (hx : a.eval x = .slice (some ⟨w.heap.size, 0, none⟩) 1 1) (hl : l.length ≤ 4294967281) (hB : B ≤ w.heap.size)
    (h : ∀ G cap w', B ≤ G → w'.ownsRow B 36 1 (.slice (some ⟨G, 0, none⟩) (l.length + 1) cap) (l.length + 1) (rowU (l ++ [r])) → (w.alloc (.cells #[.int .u16 (r : Int)] 36)).grownBy w' v.ownBlock → wpList Tryd.prog ops Q rest (a.put o.dst (.slice (some ⟨G, 0, none⟩) (l.length + 1) cap)) w') :
    wpList Tryd.prog ops Q (o :: rest) a (w.alloc (.cells #[.int .u16 (r : Int)] 36)) := by
  obtain ⟨i36, hi36, hz36, hs36, hb36⟩ := info_parts info36
  refine wpList_append_own _ hgd s x 46 ho B 36 i36 (.int .u16 0) 1 2 Tryd.underlying46 hi36 hz36 hs36 hb36 rfl (by decide) v l.length (rowU l) hs (hown.alloc _) ⟨w.heap.size, 0, none⟩ 1 1 [.int .u16 (r : Int)] hx rfl ?news ?one (by unfold maxLen; omega) (by omega) (by simp; omega) ?_
  case news =>
    intro j u hj
    rw [Addr.add_mid, Nat.zero_add]
    exact (cell_blk (heap_alloc_new w (.cells #[.int .u16 (r : Int)] 36)) j).trans (by simpa using hj)
  case one => intro u hu; rw [List.mem_singleton] at hu; subst hu; rfl
  intro v' w' h1 h2 h3
  obtain ⟨p, cap, rfl, -, hsl⟩ := own_slice h1
  obtain ⟨G, rfl, hG, -⟩ := hsl (by omega)
  exact h G cap w' hG (by rw [show rowU (l ++ [r]) = rowU l ++ [.int .u16 (r : Int)] by simp [rowU]]; exact h1) h2
theorem app2 (hgd : o.guard = none) (s x : Operand) (ho : o.op = .call { callee := .builtin .append, args := #[s, x], argTypes := #[46, 46] })
    (B : Nat) (v : Value) (l : List Nat) (hs : a.eval s = v) (hown : w.ownsRow B 36 1 v l.length (rowU l)) (C : Nat) (v2 : Value) (r : List Nat) (hx : a.eval x = v2) (hown2 : w.ownsRow C 36 1 v2 r.length (rowU r)) (hl : l.length + r.length ≤ 8589934592) (hB : B ≤ w.heap.size)
    (h : ∀ v' w', w'.ownsRow B 36 1 v' (l ++ r).length (rowU (l ++ r)) → w.grownBy w' v.ownBlock → wpList Tryd.prog ops Q rest (a.put o.dst v') w') :
    wpList Tryd.prog ops Q (o :: rest) a w := by
  obtain ⟨i36, hi36, hz36, hs36, hb36⟩ := info_parts info36
  have e : rowU (l ++ r) = rowU l ++ rowU r := by simp [rowU]
  rcases hown2.2 with ⟨e2, hn2⟩ | ⟨g, cap, cur, e2, -⟩
  · have hr : r = [] := List.eq_nil_of_length_eq_zero hn2
    subst hr
    refine wpList_append_own_none hgd s x 46 ho B 36 i36 1 Tryd.underlying46 hi36 v l.length (rowU l) hs hown (hx.trans e2) ?_
    refine h v w ?_ ⟨rfl, rfl, rfl, Nat.le_refl _, fun _ _ _ => rfl⟩
    rw [List.append_nil]; exact hown
  · refine wpList_append_own _ hgd s x 46 ho B 36 i36 (.int .u16 0) 1 2 Tryd.underlying46 hi36 hz36 hs36 hb36 rfl (by decide) v l.length (rowU l) hs hown ⟨g, 0, none⟩ r.length cap (rowU r) (hx.trans e2) (by rw [rowU_length, Nat.mul_one]) (hown2.cells (by rw [e2]; rfl)) ?one (by unfold maxLen; omega) (by omega) hB ?_
    case one => intro u hu; obtain ⟨y, _, rfl⟩ := List.mem_map.1 hu; rfl
    intro v' w' h1 h2 h3
    refine h v' w' ?_ h2
    rw [e, List.length_append]; exact h1
end
theorem or_u16 {x y : Nat} (hx : x < 256) (hy : y < 256) : bits .or .u16 ((256 * x : Nat) : Int) (y : Int) = ((256 * x + y : Nat) : Int) := by
  rw [(bits_nat .u16 16 (by decide) (fun n h0 h1 => by simp [IntKind.wrap, IntKind.signed, IntKind.bits]; omega) (256 * x) y (by omega) (by omega)).2]
  rw [show 256 * x = 2 ^ 8 * x by omega, Nat.two_pow_add_eq_or_of_lt (by omega)]
theorem CInv.put {S k n cap G j y m : Nat} {ps : List ByteArray} {L : List (List UInt8)} {ns : List Nat} {v : Value} {w wr w3 : World} {xs : List Value} (I : CInv S ps L k ns v w wr) (hw3 : w3.heap[S]? = wr.heap[S]? ∧ Below S w w3)
    (hown : w3.ownsRow (S + 1) 36 1 (.slice (some ⟨G, 0, none⟩) n cap) n xs) (hG : S + 1 ≤ G) (hy : y < 256) (hm : m < 256) (hn : n = (outL (ns ++ [m])).length) (hx : xs.set j (.int .u16 ((256 * y + m : Nat) : Int)) = rowU (outL (ns ++ [m])))
    (hrest : decs L = (decs (L.drop (k + 1))).map ((ns ++ [m]) ++ ·)) (z : Int) (hz : z = (y : Int) * 256) :
    CInv S ps L (k + 1) (ns ++ [m]) (.slice (some ⟨G, 0, none⟩) n cap) w (w3.setCell ⟨G, j, none⟩ (.int .u16 (bits .or .u16 z (m : Int)))) := by
  rw [hz, show (y : Int) * 256 = ((256 * y : Nat) : Int) by omega, or_u16 hy hm]
  have hS : S < w3.heap.size := lt_of_blk (hw3.1.trans I.h)
  obtain ⟨h1, h2⟩ := hown.stored j (.int .u16 ((256 * y + m : Nat) : Int))
  rw [hx] at h1
  refine ⟨(h2.block S hS (by simp; omega)).trans (hw3.1.trans I.h), by rw [← hn]; exact h1, hw3.2.grown h2 (by omega) (fun q hq => by simp at hq; omega), by simp [I.len], ?_, hrest⟩
  intro x hx2
  rcases List.mem_append.1 hx2 with h | h
  · exact I.lt x h
  · rw [List.mem_singleton] at h; omega
theorem own_mono {w : World} {B C e n : Nat} {v : Value} {xs : List Value} (h : w.ownsRow B e 1 v n xs) (hb : C ≤ B) : w.ownsRow C e 1 v n xs := by
  refine ⟨h.1, ?_⟩
  rcases h.2 with h1 | ⟨g, cap, cur, e1, h2, h3⟩
  · exact .inl h1
  · exact .inr ⟨g, cap, cur, e1, Nat.le_trans hb h2, h3⟩
theorem decN_none {x : List UInt8} (h : num 10 3 x = none) : decN x = none := by unfold decN; rw [h]
theorem decs_none {L : List (List UInt8)} {k : Nat} {ns : List Nat} {x : List UInt8} {r : List (List UInt8)} (h : decs L = (decs (L.drop k)).map (ns ++ ·)) (hd : L.drop k = x :: r) (hx : decN x = none) : decs L = none := by
  rw [h, hd, decs, hx]; rfl
theorem decs_some {L : List (List UInt8)} {k n : Nat} {ns : List Nat} {x : List UInt8} {r : List (List UInt8)} (h : decs L = (decs (L.drop k)).map (ns ++ ·)) (hd : L.drop k = x :: r) (hr : r = L.drop (k + 1)) (hx : decN x = some n) : decs L = (decs (L.drop (k + 1))).map ((ns ++ [n]) ++ ·) := by
  rw [h, hd, decs, hx, ← hr]
  cases decs r <;> simp
theorem decs_length : ∀ (L : List (List UInt8)) (r : List Nat), decs L = some r → r.length = L.length
  | [], r, h => by simp only [decs, Option.some.injEq] at h; subst h; rfl
  | x :: L, r, h => by
    unfold decs at h
    split at h
    · rename_i n r2 _ e2
      cases h
      rw [List.length_cons, List.length_cons, decs_length L r2 e2]
    · cases h
theorem dec4_len {s : List UInt8} (h : (spl 46 s).length ≠ 4) : dec4 s = none := by
  unfold dec4
  split
  · rename_i e; exact absurd (decs_length _ _ e).symm h
  · rfl
theorem dec4_none {s : List UInt8} (h : decs (spl 46 s) = none) : dec4 s = none := by
  unfold dec4; rw [h]
set_option maxRecDepth 100000 in
set_option maxHeartbeats 1000000 in
theorem decimals31 (s : ByteArray) (w : World) (L : Lay07 w) (hs : s.size < 4294967281) :
    Calls Tryd.prog 31 #[.string s] w fun e w' => RetG 2 w.heap.size (dec4 s.data.toList) e w' ∧ Below w.heap.size w w' := by
  obtain ⟨i36, hi36, hz36, hs36, hb36⟩ := info_parts info36
  have h3 := L.lt
  have HL := Lib.hid L
  clear L
  go_enter Tryd.func31, Tryd.ntmps31
  go_wp2_with fail
  refine (split29 s 46 _ HL.out hs).mono ?_
  rintro e w1 ⟨rfl, hw1⟩
  have hlen : (spl 46 s.data.toList).length = (spB s 46).length := by rw [← spB_data, List.length_map]
  have hget := fun k => @spB_get s 46 k
  have hB1 : Below w.heap.size w w1 := by rw [hw1]; exact (Below.refl _ _).alloc (Nat.le_refl _) _
  have hh1 : w1.heap[w.heap.size]? = some (.cells ((spB s 46).map Value.string).toArray 9 (0, 0)) := by rw [hw1]; exact heap_alloc_new _ _
  clear hw1
  obtain ⟨ps, hps⟩ : ∃ ps, ps = spB s 46 := ⟨_, rfl⟩
  rw [← hps] at hget hh1 hlen ⊢
  by_cases hl : ps.length = 4
  · rw [hl]
    obtain ⟨T, hT⟩ : ∃ T, T = spl 46 s.data.toList := ⟨_, rfl⟩
    rw [← hT] at hget
    have hd4 : decs T = none → dec4 s.data.toList = none := fun h => dec4_none (by rw [← hT]; exact h)
    have hd4s : ∀ a b c d, decs T = some [a, b, c, d] → dec4 s.data.toList = some [256 * a + b, 256 * c + d] := fun a b c d h => by unfold dec4; rw [← hT, h]
    have I0 : CInv w.heap.size ps T 0 [] (.slice none 0 0) w w1 := ⟨hh1, World.ownsRow_nil _ _ _ _, hB1, rfl, by simp, by rw [List.drop_zero]; cases decs T <;> rfl⟩
    have I := Lib.hid I0
    have HTL := Lib.hid (show T.length = 4 by rw [hT, hlen, hl])
    have HT := Lib.hid hT
    have HG := Lib.hid hget
    have HN := Lib.hid hd4
    have HY := Lib.hid hd4s
    clear I0 hh1 hB1 hps hlen hT hget hd4 hd4s HL
    go_wp2_with fail
    go_loopw [2, 16] (fun v i wr => ∃ (k : Nat) (ns : List Nat), k ≤ 4 ∧ i = .int .i64 k ∧ CInv w.heap.size ps T k ns v w wr) (fun _ i _ => 4 - (intOf i).toNat)
    case atStart => exact ⟨0, [], by omega, rfl, I.out⟩
    case round =>
      clear I
      obtain ⟨k, ns, hk, rfl, I⟩ := hrel
      by_cases hlt : k < 4
      · obtain ⟨p, hp, hdrop, hps⟩ := HG.out k (by omega)
        have c1 := cell_blk I.h k
        rw [List.getElem?_toArray, List.getElem?_map, hp] at c1
        replace c1 : wr.cell? ⟨w.heap.size, k, none⟩ = some (.string p) := c1
        have HI := Lib.hid I
        have HD := Lib.hid hdrop
        clear I hp hdrop
        have o1 : ¬ ((4 : Int) ≤ k) := by omega
        have o2 : (k : Int) < 4 := by omega
        go_wp2_with fail
        refine (digits32 p 10 3 (by decide) (by decide) _).mono ?_
        rintro e w2 ⟨rfl, b2⟩
        have HI2 := Lib.hid (HI.out.step b2)
        have hn : decN p.data.toList = none → dec4 s.data.toList = none := fun h => HN.out (decs_none HI.out.rest HD.out h)
        clear HI b2 c1
        cases en : num 10 3 p.data.toList with
        | none =>
          have HR := Lib.hid (hn (decN_none en))
          clear hn en
          unfold numV
          go_wp2_with fail
          go_ret2
          exact ⟨retG_none HR.out, HI2.out.below⟩
        | some n =>
          have hnl := num_lt (by decide) en
          by_cases h255 : 255 < n
          · have HR := Lib.hid (hn (by unfold decN; rw [en]; exact if_pos (.inl h255)))
            clear hn en
            unfold numV
            go_wp2_with fail
            go_ret2
            exact ⟨retG_none HR.out, HI2.out.below⟩
          · by_cases hbad : 1 < p.size ∧ p.data.toList.head? = some 48
            · have HR := Lib.hid (hn (by unfold decN; rw [en]; exact if_pos (.inr (by simpa using hbad))))
              obtain ⟨hp1, hh⟩ := hbad
              have h0 : 0 < p.size := by omega
              have hp0 : (p[0]'h0).toNat = 48 := by
                rw [head_b p h0] at hh
                rw [Option.some.inj hh]; rfl
              clear hn en hh
              unfold numV
              go_wp2_with fail
              go_ret2
              exact ⟨retG_none HR.out, HI2.out.below⟩
            · have hdn : decN p.data.toList = some n := by
                unfold decN; rw [en]; exact if_neg (by rintro (h | h); exact h255 h; exact hbad (by simpa using h))
              have hnl2 : n < 256 := by omega
              have h255i : decide ((255 : Int) < n) = false := by simp; omega
              have hrest := decs_some HI2.out.rest HD.out rfl hdn
              have hlen := HI2.out.len
              have hll := HI2.out.lt
              have hown := HI2.out.own
              have HRE := Lib.hid hrest
              have HX : Hid (p.size ≤ 1 ∨ ∃ h0 : 0 < p.size, 1 < p.size ∧ ((((p[0]'h0).toNat : Int) == 48) = false)) := by
                by_cases h : 1 < p.size
                · refine Or.inr ⟨by omega, h, ?_⟩
                  rw [beq_eq_false_iff_ne]
                  intro h2
                  refine hbad ⟨h, ?_⟩
                  rw [head_b p (by omega)]
                  congr 1
                  exact UInt8.toNat_inj.1 (by have : (48 : UInt8).toNat = 48 := rfl; omega)
                · exact Or.inl (by omega)
              clear hn hbad en hdn h255 hnl hrest
              have hk4 : k = 0 ∨ k = 1 ∨ k = 2 ∨ k = 3 := by omega
              rcases hk4 with rfl | rfl | rfl | rfl
              · obtain rfl : ns = [] := List.eq_nil_of_length_eq_zero hlen
                replace hown : w2.ownsRow (w.heap.size + 1) 36 1 _ 0 (rowU []) := hown
                obtain ⟨q, cap, rfl, -, -⟩ := own_slice hown
                have hSz := lt_of_blk HI2.out.h
                have HO := Lib.hid hown
                clear hown hll
                rcases HX.out with hp1 | ⟨h0, hp1, hp0⟩
                all_goals (
                  unfold numV
                  go_wp2_with (first | (at_builtin; refine app1 rfl (.tmp 45) (.tmp 46) rfl (w.heap.size + 1) (.slice q 0 cap) [] 0 rfl HO.out rfl (by simp) hSz ?_; intro G cap9 w9 hG hown9 hgr9; have hk9 := Lib.hid (grow_keep hSz HI2.out.below HO.out hgr9); replace hown9 : w9.ownsRow (w.heap.size + 1) 36 1 (.slice (some ⟨G, 0, none⟩) 1 cap9) 1 (rowU ([] ++ [0])) := hown9; have c1 := hown9.cellAt 0 (by decide); replace c1 : w9.cell? ⟨G, 0, none⟩ = some (.int .u16 0) := c1; have f1 := hown9.frozenAt 0; have HO9 := Lib.hid hown9; clear hown9 hgr9))
                  refine ⟨⟨1, [n], by omega, rfl, ?_⟩, by simp [intOf]⟩
                  exact HI2.out.put (xs := rowU ([] ++ [0])) (y := 0) hk9.out HO9.out hG (by decide) hnl2 rfl (by simp [rowU, outL]) HRE.out _ rfl)
              · obtain ⟨x, rfl⟩ : ∃ x, ns = [x] := by
                  match ns, hlen with
                  | [x], _ => exact ⟨x, rfl⟩
                replace hown : w2.ownsRow (w.heap.size + 1) 36 1 _ 1 (rowU [x]) := hown
                obtain ⟨q, cap, rfl, -, hsl⟩ := own_slice hown
                obtain ⟨G, rfl, hG, hGs, -⟩ := hsl (by decide)
                have c1 := hown.cellAt 0 (by decide)
                have f1 := hown.frozenAt 0
                replace c1 : w2.cell? ⟨G, 0, none⟩ = some (.int .u16 (x : Int)) := c1
                have hx := hll x (by simp)
                have HO := Lib.hid hown
                clear hown hsl hll
                rcases HX.out with hp1 | ⟨h0, hp1, hp0⟩
                all_goals (
                  unfold numV
                  go_wp2_with fail
                  refine ⟨⟨2, [x, n], by omega, rfl, ?_⟩, by simp [intOf]⟩
                  exact HI2.out.put ⟨rfl, HI2.out.below⟩ HO.out hG hx hnl2 rfl rfl HRE.out _ rfl)
              · obtain ⟨x, y, rfl⟩ : ∃ x y, ns = [x, y] := by
                  match ns, hlen with
                  | [x, y], _ => exact ⟨x, y, rfl⟩
                replace hown : w2.ownsRow (w.heap.size + 1) 36 1 _ 1 (rowU [256 * x + y]) := hown
                obtain ⟨q, cap, rfl, -, -⟩ := own_slice hown
                have hSz := lt_of_blk HI2.out.h
                have HO := Lib.hid hown
                clear hown hll
                rcases HX.out with hp1 | ⟨h0, hp1, hp0⟩
                all_goals (
                  unfold numV
                  go_wp2_with (first | (at_builtin; refine app1 rfl (.tmp 45) (.tmp 46) rfl (w.heap.size + 1) (.slice q 1 cap) [256 * x + y] 0 rfl HO.out rfl (by simp) hSz ?_; intro G cap9 w9 hG hown9 hgr9; have hk9 := Lib.hid (grow_keep hSz HI2.out.below HO.out hgr9); replace hown9 : w9.ownsRow (w.heap.size + 1) 36 1 (.slice (some ⟨G, 0, none⟩) 2 cap9) 2 (rowU ([256 * x + y] ++ [0])) := hown9; have c1 := hown9.cellAt 1 (by decide); replace c1 : w9.cell? ⟨G, 1, none⟩ = some (.int .u16 0) := c1; have f1 := hown9.frozenAt 1; have HO9 := Lib.hid hown9; clear hown9 hgr9))
                  refine ⟨⟨3, [x, y, n], by omega, rfl, ?_⟩, by simp [intOf]⟩
                  exact HI2.out.put (xs := rowU ([256 * x + y] ++ [0])) (y := 0) hk9.out HO9.out hG (by decide) hnl2 rfl (by simp [rowU, outL]) HRE.out _ rfl)
              · obtain ⟨x, y, z, rfl⟩ : ∃ x y z, ns = [x, y, z] := by
                  match ns, hlen with
                  | [x, y, z], _ => exact ⟨x, y, z, rfl⟩
                replace hown : w2.ownsRow (w.heap.size + 1) 36 1 _ 2 (rowU [256 * x + y, z]) := hown
                obtain ⟨q, cap, rfl, -, hsl⟩ := own_slice hown
                obtain ⟨G, rfl, hG, hGs, -⟩ := hsl (by decide)
                have c1 := hown.cellAt 1 (by decide)
                have f1 := hown.frozenAt 1
                replace c1 : w2.cell? ⟨G, 1, none⟩ = some (.int .u16 (z : Int)) := c1
                have hx := hll z (by simp)
                have HO := Lib.hid hown
                clear hown hsl hll
                rcases HX.out with hp1 | ⟨h0, hp1, hp0⟩
                all_goals (
                  unfold numV
                  go_wp2_with fail
                  refine ⟨⟨4, [x, y, z, n], by omega, rfl, ?_⟩, by simp [intOf]⟩
                  exact HI2.out.put ⟨rfl, HI2.out.below⟩ HO.out hG hx hnl2 rfl rfl HRE.out _ rfl)
      · obtain rfl : k = 4 := by omega
        have hlen := I.len
        obtain ⟨x, y, z, t, rfl⟩ : ∃ x y z t, ns = [x, y, z, t] := by
          match ns, hlen with
          | [x, y, z, t], _ => exact ⟨x, y, z, t, rfl⟩
        have e := I.rest
        rw [List.drop_eq_nil_of_le (by rw [HTL.out]; exact Nat.le_refl _)] at e
        have HR := Lib.hid (HY.out x y z t (e.trans rfl))
        have HO := Lib.hid (own_mono I.own (Nat.le_succ _))
        have HB := Lib.hid I.below
        clear I e
        go_wp2_with fail
        go_ret2
        refine ⟨?_, HB.out⟩
        rw [HR.out]
        exact ⟨_, [256 * x + y, 256 * z + t], rfl, HO.out, by simp, fun l hl => by cases hl; rfl⟩
  · have q1 : ((ps.length : Int) == 4) = false := by simp; omega
    have hd := Lib.hid (dec4_len (s := s.data.toList) (by rw [hlen]; exact hl))
    have HB := Lib.hid hB1
    clear hget hh1 hlen hps hB1
    go_wp2_with fail
    go_ret2
    refine ⟨?_, HB.out⟩
    rw [hd.out]
    exact ⟨_, [], rfl, World.ownsRow_nil _ _ _ _, by decide, fun l h => by cases h⟩
end Go.Proofs.YtepoaapadalnoaaDoor
