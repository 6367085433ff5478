/- A text as an address, by the document. -/
import Derived.Test.YtepoaapadalnoaaDoorGetJ
namespace Go.Proofs.YtepoaapadalnoaaDoor
open Go.RowKit
set_option linter.unusedVariables false
set_option linter.unusedSimpArgs false
/-- two colons at a place -/
def CC (s : List UInt8) (j : Nat) : Prop := s[j]? = some 58 ∧ s[j + 1]? = some 58
theorem occ2 (s : List UInt8) (j : Nat) : Lib.occAt s [58, 58] j = true ↔ CC s j := by
  unfold Lib.occAt CC
  cases h1 : s.drop j with
  | nil =>
    have : s.length ≤ j := by
      have := congrArg List.length h1
      rw [List.length_drop, List.length_nil] at this; omega
    simp [List.getElem?_eq_none this]
  | cons x t =>
    have hx : s[j]? = some x := by rw [← List.head?_drop, h1]; rfl
    have ht : s[j + 1]? = t[0]? := by
      have := congrArg (fun l => l[1]?) h1
      simp only [List.getElem?_drop, List.getElem?_cons_succ] at this
      exact this
    rw [hx, ht]
    cases t with
    | nil => simp
    | cons y t =>
      show ((58 == x) && ((58 == y) && true)) = true ↔ _
      rw [Bool.and_true, Bool.and_eq_true, beq_iff_eq, beq_iff_eq, List.getElem?_cons_zero, Option.some.injEq, Option.some.injEq]
      exact ⟨fun h => ⟨h.1.symm, h.2.symm⟩, fun h => ⟨h.1.symm, h.2.symm⟩⟩
theorem cut_none {s : List UInt8} (h : ∀ j, ¬ CC s j) : Lib.cut s [58, 58] = (s, [], false) := by
  have : Lib.index s [58, 58] = -1 := Lib.index_none fun j _ => by
    cases e : Lib.occAt s [58, 58] j with
    | false => rfl
    | true => exact absurd ((occ2 s j).1 e) (h j)
  unfold Lib.cut
  rw [this]; rfl
theorem cut_some {s : List UInt8} {a : Nat} (h : CC s a) (hn : ∀ j, j < a → ¬ CC s j) : Lib.cut s [58, 58] = (s.take a, s.drop (a + 2), true) := by
  have hl : a ≤ s.length := Nat.le_of_lt (List.getElem?_eq_some_iff.1 h.1).1
  have : Lib.index s [58, 58] = a := Lib.index_first hl ((occ2 s a).2 h) fun j hj => by
    cases e : Lib.occAt s [58, 58] j with
    | false => rfl
    | true => exact absurd ((occ2 s j).1 e) (hn j hj)
  unfold Lib.cut
  rw [this, if_pos (by omega)]
  simp
/-- what the search knows -/
def Found (s : List UInt8) (k : Nat) (z : Int) : Prop := (z = -1 ∧ ∀ j, k ≤ j + 1 → ¬ CC s j) ∨ ∃ a : Nat, z = a ∧ CC s a ∧ k ≤ a + 1 ∧ ∀ j, k ≤ j + 1 → j < a → ¬ CC s j
theorem Found.start (s : List UInt8) : Found s s.length (-1) := .inl ⟨rfl, fun j hj h => by
  have := (List.getElem?_eq_some_iff.1 h.2).1; omega⟩
theorem Found.hit {s : List UInt8} {k : Nat} {z : Int} (h : Found s (k + 2) z) (hc : CC s k) : Found s (k + 1) (k : Int) := .inr ⟨k, rfl, hc, Nat.le_refl _, fun j h1 h2 => by omega⟩
theorem Found.miss {s : List UInt8} {k : Nat} {z : Int} (h : Found s (k + 2) z) (hc : ¬ CC s k) : Found s (k + 1) z := by
  rcases h with ⟨rfl, h⟩ | ⟨a, rfl, h1, h2, h3⟩
  · refine .inl ⟨rfl, fun j hj => ?_⟩
    rcases Nat.eq_or_lt_of_le (show k ≤ j by omega) with rfl | hlt
    · exact hc
    · exact h j (by omega)
  · refine .inr ⟨a, rfl, h1, by omega, fun j hj hja => ?_⟩
    rcases Nat.eq_or_lt_of_le (show k ≤ j by omega) with rfl | hlt
    · exact hc
    · exact h3 j (by omega) hja
theorem Found.done {s : List UInt8} {k : Nat} {z : Int} (h : Found s k z) (hk : k ≤ 1) : (z = -1 ∧ Lib.cut s [58, 58] = (s, [], false)) ∨ ∃ a : Nat, z = a ∧ a + 2 ≤ s.length ∧ Lib.cut s [58, 58] = (s.take a, s.drop (a + 2), true) := by
  rcases h with ⟨rfl, h⟩ | ⟨a, rfl, h1, h2, h3⟩
  · exact .inl ⟨rfl, cut_none fun j => h j (by omega)⟩
  · exact .inr ⟨a, rfl, by have := (List.getElem?_eq_some_iff.1 h1.2).1; omega, cut_some h1 fun j hj => h3 j (by omega) hj⟩
theorem kept_none {C n : Nat} {w w' : World} {v : Value} {xs : List Value} (h : w.ownsRow C 3 1 v n xs) (hg : w.grownBy w' none) : w'.ownsRow C 3 1 v n xs :=
  h.kept hg (by cases hv : v.ownBlock with
    | none => exact .inl rfl
    | some k => exact .inr (by simp))
def sLen : Value → Nat
  | .slice _ n _ => n
  | _ => 0
/-- while noughts are laid between the sides -/
structure MInv (B D C : Nat) (q2 : Option Addr) (c2 : Nat) (r1 r2 : List Nat) (j : Nat) (v : Value) (w wr : World) : Prop where
  own : wr.ownsRow D 3 1 v (r1 ++ List.replicate j 0).length (rowI (r1 ++ List.replicate j 0))
  own2 : wr.ownsRow C 3 1 (.slice q2 r2.length c2) r2.length (rowI r2)
  lt2 : ∀ k, (Value.slice q2 r2.length c2).ownBlock = some k → k < D
  zero : GInv2 B w wr
  hD : D ≤ wr.heap.size
  hB : B < D
theorem MInv.app {B D C j c2 G cap n : Nat} {q2 : Option Addr} {r1 r2 : List Nat} {v : Value} {w wr w9 : World} {o : Obj} (I : MInv B D C q2 c2 r1 r2 j v w wr) (hg : (wr.alloc o).grownBy w9 v.ownBlock) (hn : n = (r1 ++ List.replicate j 0).length)
    (hown : w9.ownsRow D 3 1 (.slice (some ⟨G, 0, none⟩) (n + 1) cap) (n + 1) (rowI (r1 ++ List.replicate j 0) ++ [.int .i64 0])) :
    MInv B D C q2 c2 r1 r2 (j + 1) (.slice (some ⟨G, 0, none⟩) (n + 1) cap) w w9 := by
  have hr : ∀ k, v.ownBlock = some k → D ≤ k := fun k hk => own_ge I.own k hk
  have hB := I.hB
  have e : r1 ++ List.replicate (j + 1) 0 = (r1 ++ List.replicate j 0) ++ [0] := by rw [List.replicate_succ', List.append_assoc]
  refine ⟨?_, (I.own2.alloc o).kept hg ?_, I.lt2, (I.zero.step ((Below.refl _ _).alloc (Nat.le_refl _) _)).grown hg (fun k hk => by have := hr k hk; omega), Nat.le_trans I.hD (Nat.le_trans (by simp) hg.size), I.hB⟩
  · rw [e, List.length_append, ← hn, rowI_app]; exact hown
  · cases hv : (Value.slice q2 r2.length c2).ownBlock with
    | none => exact .inl rfl
    | some k => exact .inr fun e => by have := I.lt2 k hv; have := hr k e.symm; omega
/-- while the address is filled, out of whole numbers -/
structure AFillI (B B2 G k : Nat) (l : List Nat) (w wr : World) : Prop where
  h : wr.heap[B2]? = some (.cells (adrCells fun i => if i < 2 * k then adrG l i else 0) 23 (0, 0))
  row : ∀ j, j < 8 → wr.cell? ⟨G, j, none⟩ = some (.int .i64 (l.getD j 0 : Int))
  zero : GInv2 B w wr
  ne : G ≠ B2
  lt : B < B2
theorem AFillI.put {B B2 G k : Nat} {l : List Nat} {w wr : World} (I : AFillI B B2 G k l w wr) : AFillI B B2 G (k + 1) l w ((wr.setCell ⟨B2, 2 * k, none⟩ (.int .u8 ((l.getD k 0 / 256 : Nat) : Int))).setCell ⟨B2, 2 * k + 1, none⟩ (.int .u8 ((l.getD k 0 % 256 : Nat) : Int))) := by
  have t := Turned.setCell I.h (2 * k) (.int .u8 ((l.getD k 0 / 256 : Nat) : Int))
  rw [adrCells_set] at t
  have hB := lt_of_blk I.h
  have t2 := Turned.setCell (t.get hB) (2 * k + 1) (.int .u8 ((l.getD k 0 % 256 : Nat) : Int))
  rw [adrCells_set] at t2
  have t3 := t.trans t2
  have hlt := I.lt
  refine ⟨?_, fun j hj => ?_, ⟨(t3.other (k := B) (by omega)).trans I.zero.h, I.zero.below.trans (t3.below (by omega))⟩, I.ne, I.lt⟩
  · rw [show (fun i => if i < 2 * (k + 1) then adrG l i else 0) = (fun j => if j = 2 * k + 1 then l.getD k 0 % 256 else if j = 2 * k then l.getD k 0 / 256 else if j < 2 * k then adrG l j else 0) from ?_]
    · exact t3.get hB
    · funext i
      by_cases h1 : i = 2 * k + 1
      · subst h1; rw [if_pos (by omega), if_pos rfl, adrG, if_neg (by omega), show (2 * k + 1) / 2 = k by omega]
      · by_cases h2 : i = 2 * k
        · subst h2; rw [if_pos (by omega), if_neg h1, if_pos rfl, adrG, if_pos (by omega), show 2 * k / 2 = k by omega]
        · by_cases h3 : i < 2 * k
          · rw [if_pos (by omega), if_neg h1, if_neg h2, if_pos h3]
          · rw [if_neg (by omega), if_neg h1, if_neg h2, if_neg h3]
  · have := I.row j hj
    rw [← this]
    simp only [World.cell?, t3.other (k := G) I.ne]
set_option maxRecDepth 100000 in
set_option maxHeartbeats 20000000 in
theorem get12 (s : ByteArray) (w : World) (hs : s.size < 100000000) :
    Calls Tryd.prog 12 #[.string s] w fun e w' => e = .returned (getV (getL s.data.toList)) ∧ Below w.heap.size w w' := by
  have B0 : Below w.heap.size w (w.alloc (.cells (adrCells fun _ => 0) 23)) := (Below.refl _ _).alloc (Nat.le_refl _) _
  have I0 : GInv2 w.heap.size w (w.alloc (.cells (adrCells fun _ => 0) 23)) := ⟨heap_alloc_new _ _, B0⟩
  rw [← zeroAdr] at I0
  have HI := Lib.hid I0
  have hsl : s.data.toList.length = s.size := by simp
  have HF := Lib.hid (Found.start s.data.toList)
  rw [hsl] at HF
  clear I0 B0 hsl
  go_enter Tryd.func12, Tryd.ntmps12
  go_wp2_with fail
  go_loopw [4, 5] (fun v i wr => ∃ (k : Nat) (z : Int), k ≤ s.size ∧ v = .int .i64 z ∧ i = .int .i64 ((k : Int) - 2) ∧ Found s.data.toList k z ∧ GInv2 w.heap.size w wr) (fun _ i _ => (intOf i + 2).toNat)
  case atStart =>
    refine ⟨s.size, -1, Nat.le_refl _, rfl, ?_, HF.out, HI.out⟩
    first | rfl | (congr 1; rw [IntKind.wrap_i64]; omega)
  case round =>
    clear HI HF
    obtain ⟨k, z, hk, rfl, rfl, F, I⟩ := hrel
    have HF := Lib.hid F
    have HI := Lib.hid I
    clear F I
    by_cases h2 : 2 ≤ k
    · obtain ⟨m, rfl⟩ : ∃ m, k = m + 2 := ⟨k - 2, by omega⟩
      have hm1 : m < s.size := by omega
      have hm2 : m + 1 < s.size := by omega
      have e1 : (((m + 2 : Nat) : Int) - 2) = (m : Int) := by omega
      rw [e1]
      have x1 : s.data.toList[m]? = some (s[m]'hm1) := by simp [hm1]; rfl
      have x2 : s.data.toList[m + 1]? = some (s[m + 1]'hm2) := by simp [hm2]; rfl
      have w1 : IntKind.i64.wrap ((m : Int) + 1) = (m : Int) + 1 := by rw [IntKind.wrap_i64]; omega
      have w2 : IntKind.i64.wrap ((m : Int) - 1) = (m : Int) - 1 := by rw [IntKind.wrap_i64]; omega
      by_cases q1 : s[m]'hm1 = 58
      · have t1 : (((s[m]'hm1).toNat : Int) == 58) = true := by rw [q1]; rfl
        by_cases q2 : s[m + 1]'hm2 = 58
        · have t2 : (((s[m + 1]'hm2).toNat : Int) == 58) = true := by rw [q2]; rfl
          have HF2 := Lib.hid (HF.out.hit ⟨by rw [x1, q1], by rw [x2, q2]⟩)
          clear q1 q2 x1 x2 HF
          go_wp2_with fail
          exact ⟨⟨m + 1, (m : Int), by omega, rfl, by congr 1; omega, HF2.out, HI.out⟩, by simp [intOf]; omega⟩
        · have t2 : (((s[m + 1]'hm2).toNat : Int) == 58) = false := by
            rw [beq_eq_false_iff_ne]; intro h; exact q2 (UInt8.toNat_inj.1 (by have : (58 : UInt8).toNat = 58 := rfl; omega))
          have HF2 := Lib.hid (HF.out.miss (fun h => q2 (by have := h.2; rw [x2] at this; exact Option.some.inj this)))
          clear q1 q2 x1 x2 HF
          go_wp2_with fail
          exact ⟨⟨m + 1, z, by omega, rfl, by congr 1; omega, HF2.out, HI.out⟩, by simp [intOf]; omega⟩
      · have t1 : (((s[m]'hm1).toNat : Int) == 58) = false := by
          rw [beq_eq_false_iff_ne]; intro h; exact q1 (UInt8.toNat_inj.1 (by have : (58 : UInt8).toNat = 58 := rfl; omega))
        have HF2 := Lib.hid (HF.out.miss (fun h => q1 (by have := h.1; rw [x1] at this; exact Option.some.inj this)))
        clear q1 x1 x2 HF
        go_wp2_with fail
        exact ⟨⟨m + 1, z, by omega, rfl, by congr 1; omega, HF2.out, HI.out⟩, by simp [intOf]; omega⟩
    · have hdone := HF.out.done (by omega)
      have hneg : ¬ ((0 : Int) ≤ (k : Int) - 2) := by omega
      clear HF h2
      rcases hdone with ⟨rfl, hcut⟩ | ⟨a, rfl, ha, hcut⟩
      · have hgl : getL s.data.toList = getC false (sideL true s.data.toList) (some []) := by rw [getL_eq, hcut]; rfl
        have HGL := Lib.hid hgl
        clear hcut hgl
        go_wp2_with fail
        refine (side24 s true _ (by omega)).mono ?_
        rintro e w3 ⟨⟨v1, r1, rfl, hown1, hn1, hv1⟩, b3⟩
        have HIx := Lib.hid (HI.out.step b3)
        have HO1 := Lib.hid (own_mono hown1 (show w.heap.size + 1 ≤ wr.heap.size by have := lt_of_blk HI.out.h; omega))
        have HV1 := Lib.hid hv1
        clear hown1 hv1 b3 HI
        obtain ⟨q1, c1, hq1, -, -⟩ := own_slice HO1.out
        subst hq1
        generalize sideL true s.data.toList = X at *
        cases X with
        | none =>
          have HR := Lib.hid (HGL.out.trans (show _ = none by rfl))
          have HZ := Lib.hid (show (Tryd.prog.info? 23).map (·.size) = some (adrCells fun _ => 0).size by rw [adrCells_size]; kernel_rfl)
          go_wp2_with (refine wpList_store_row rfl 23 _ _ rfl w.heap.size (adrCells fun _ => 0) rfl (congrArg Value.agg zeroAdr) 23 _ HIx.out.h HZ.out ?hold (cells_one _ _ _) ?_)
          case hold => exact rfl
          have t := Turned.setRow HIx.out.h (adrCells fun _ => 0)
          have hlast := t.get (lt_of_blk HIx.out.h)
          have hB := HIx.out.below.trans (t.below (Nat.le_refl _))
          refine bodyPost_ret (results_row_tmp rfl _ _ w.heap.size 23 _ (0, 0) _ rfl hlast Tryd.underlying23 rfl HZ.out) rfl ⟨?_, hB⟩
          rw [HR.out]; rfl
        | some l1 =>
          obtain rfl : r1 = l1 := HV1.out l1 rfl
          by_cases h8 : r1.length = 8
          · obtain ⟨l, hl⟩ : ∃ l, l = r1 := ⟨_, rfl⟩
            have HR := Lib.hid (show getL s.data.toList = some l from HGL.out.trans (show getC false (some r1) (some []) = some l by unfold getC; exact (if_pos (.inr ⟨rfl, by simpa using h8⟩)).trans (by simp [h8, hl])))
            obtain ⟨WW, hWW⟩ : ∃ WW, WW = w3 := ⟨_, rfl⟩
            have HOL := HO1
            rw [← hl] at HOL h8
            rw [← hWW] at HOL HIx ⊢
            obtain ⟨qq, cc, hqq, -, hsl⟩ := own_slice HOL.out
            obtain ⟨G, hGq, hG1, hG2, hcell⟩ := hsl (by omega)
            have hgl2 := getL_lt HR.out
            have hrow : ∀ j, j < 8 → WW.cell? ⟨G, j, none⟩ = some (.int .i64 (l.getD j 0 : Int)) := fun j hj => by
              have hj2 : j < l.length := by rw [hgl2.1]; exact hj
              refine hcell j _ ?_
              rw [rowI, List.getElem?_map, List.getD_eq_getElem?_getD, List.getElem?_eq_getElem hj2]; rfl
            have bW : Below WW.heap.size WW (WW.alloc (.cells (adrCells fun _ => 0) 23)) := (Below.refl _ _).alloc (Nat.le_refl _) _
            have hF0 : AFillI w.heap.size WW.heap.size G 0 l w (WW.alloc (.cells (adrCells fun _ => 0) 23)) :=
              ⟨by have h := heap_alloc_new WW (.cells (adrCells fun _ => 0) 23); simpa using h, fun j hj => (bW.cell (p := ⟨G, j, none⟩) hG2).trans (hrow j hj), HIx.out.step bW, by omega, lt_of_blk HIx.out.h⟩
            rw [← zeroAdr] at hF0
            have HFI := Lib.hid hF0
            have HLT := Lib.hid hgl2.2
            obtain rfl : q1 = some ⟨G, 0, none⟩ := by rw [hl, hGq] at hqq; exact (Value.slice.inj hqq).1
            have h8i : ((r1.length : Int) == 8) = true := by rw [← hl]; simp; omega
            have h8j : r1.length = 8 := by rw [← hl]; exact h8
            clear hcell hrow bW hF0 hgl2 hsl hqq hGq hWW HO1 HOL HIx h8 HV1
            rw [h8j]
            clear h8i h8j hn1
            clear hl
            go_wp2_with fail
            go_loopw [14] (fun i wr => ∃ k : Nat, k ≤ 8 ∧ i = .int .i64 k ∧ AFillI w.heap.size WW.heap.size G k l w wr) (fun i _ => 8 - (intOf i).toNat)
            case atStart => exact ⟨0, by omega, rfl, HFI.out⟩
            case round =>
              clear HFI
              obtain ⟨k, hk, rfl, I⟩ := hrel
              by_cases hlt : k < 8
              · have c1 := I.row k hlt
                have hx : l.getD k 0 < 65536 := by
                  rw [List.getD_eq_getElem?_getD]
                  cases he : l[k]? with
                  | none => decide
                  | some z => exact HLT.out z (List.mem_of_getElem? he)
                have HP := Lib.hid (I.put)
                obtain ⟨z, hz⟩ : ∃ z, z = l.getD k 0 := ⟨_, rfl⟩
                rw [← hz] at c1 hx HP
                have f1 := frozen_blk I.h (2 * k)
                have f2 := frozen_blk I.h (2 * k + 1)
                have d1 := (cell_blk I.h (2 * k)).trans (adrCells_get _ (by omega))
                have d2 := (cell_blk I.h (2 * k + 1)).trans (adrCells_get _ (by omega))
                have hne := I.ne
                clear I hz
                have o1 : ¬ ((8 : Int) ≤ k) := by omega
                have o2 : ¬ ((16 : Int) ≤ 2 * k) := by omega
                have o3 : ¬ ((16 : Int) ≤ 2 * k + 1) := by omega
                have e1 : ((z : Int)).tmod 256 = ((z % 256 : Nat) : Int) := rfl
                go_wp2_with fail
                exact ⟨⟨k + 1, by omega, by go_num, HP.out⟩, by simp [intOf]; omega⟩
              · obtain rfl : k = 8 := by omega
                have g2 := I.h
                rw [show adrCells (fun i => if i < 2 * 8 then adrG l i else 0) = adrCells (adrG l) from by
                  unfold adrCells adrL
                  rw [rowL_congr .u8 (n := 16) (g := adrG l) (fun i hi => if_pos (by omega))]] at g2
                have G2 := Lib.hid g2
                have B2 := Lib.hid I.zero
                clear g2 I
                have HZ := Lib.hid (show (Tryd.prog.info? 23).map (·.size) = some (adrCells (adrG l)).size by rw [adrCells_size]; kernel_rfl)
                go_wp2_with (first | (refine wpList_load_row rfl 23 _ rfl WW.heap.size rfl 23 _ (0, 0) _ G2.out Tryd.underlying23 rfl HZ.out ?_) | (refine wpList_store_row rfl 23 _ _ rfl w.heap.size (adrCells (adrG l)) rfl rfl 23 _ B2.out.h HZ.out ?hold (cells_one _ _ _) ?_))
                case hold => first | exact rfl | exact Eq.trans (adrCells_size _) (by kernel_rfl) | exact Eq.trans (by kernel_rfl) (adrCells_size _).symm
                have t := Turned.setRow B2.out.h (adrCells (adrG l))
                have hlast := t.get (lt_of_blk B2.out.h)
                have hB := B2.out.below.trans (t.below (Nat.le_refl _))
                refine bodyPost_ret (results_row_tmp rfl _ _ w.heap.size 23 _ (0, 0) _ rfl hlast Tryd.underlying23 rfl HZ.out) rfl ⟨?_, hB⟩
                rw [HR.out]; rfl
          · have HR := Lib.hid (HGL.out.trans (show getC false (some r1) (some []) = none by unfold getC; exact if_neg (by simp [h8])))
            have h8i : ((r1.length : Int) == 8) = false := by simp; omega
            clear h8
            have HZ := Lib.hid (show (Tryd.prog.info? 23).map (·.size) = some (adrCells fun _ => 0).size by rw [adrCells_size]; kernel_rfl)
            go_wp2_with (refine wpList_store_row rfl 23 _ _ rfl w.heap.size (adrCells fun _ => 0) rfl (congrArg Value.agg zeroAdr) 23 _ HIx.out.h HZ.out ?hold (cells_one _ _ _) ?_)
            case hold => exact rfl
            have t := Turned.setRow HIx.out.h (adrCells fun _ => 0)
            have hlast := t.get (lt_of_blk HIx.out.h)
            have hB := HIx.out.below.trans (t.below (Nat.le_refl _))
            refine bodyPost_ret (results_row_tmp rfl _ _ w.heap.size 23 _ (0, 0) _ rfl hlast Tryd.underlying23 rfl HZ.out) rfl ⟨?_, hB⟩
            rw [HR.out]; rfl
      · rw [show s.data.toList.length = s.size by simp] at ha
        have hgl : getL s.data.toList = getC true (sideL false (s.extract 0 a).data.toList) (sideL true (s.extract (a + 2) s.size).data.toList) := by
          rw [getL_eq, hcut, extr, extr, List.drop_zero, Nat.sub_zero, List.take_of_length_le (l := s.data.toList.drop (a + 2)) (by simp)]; rfl
        have HGL := Lib.hid hgl
        clear hcut hgl
        have z1 : (s.extract 0 a).size ≤ s.size := by simp; omega
        have z2 : (s.extract (a + 2) s.size).size ≤ s.size := by simp
        have q1 : (0 : Int) ≤ (a : Int) ∧ (a : Int) ≤ s.size := by omega
        have q2 : (0 : Int) ≤ (a : Int) + 2 ∧ (a : Int) + 2 ≤ s.size := by omega
        have wa : IntKind.i64.wrap ((a : Int) + 2) = (a : Int) + 2 := by rw [IntKind.wrap_i64]; omega
        have na : ¬ ((a : Int) < 0) := by omega
        have Z1 := Lib.hid z1
        have Z2 := Lib.hid z2
        clear z1 z2
        go_wp2_with fail
        refine (side24 (s.extract 0 a) false _ (by have := Z1.out; omega)).mono ?_
        generalize sideL false (s.extract 0 a).data.toList = X at *
        rintro e w3 ⟨⟨v1, r1, rfl, hown1, hn1, hv1⟩, b3⟩
        have HI3 := Lib.hid (HI.out.step b3)
        have HO1 := Lib.hid (own_mono hown1 (show w.heap.size + 1 ≤ wr.heap.size by have := lt_of_blk HI.out.h; omega))
        have HV1 := Lib.hid hv1
        have HN1 := Lib.hid hn1
        clear hown1 hv1 b3 HI hn1
        obtain ⟨q1, c1, hq1, -, -⟩ := own_slice HO1.out
        subst hq1
        go_wp2_with fail
        refine (side24 (s.extract (a + 2) s.size) true _ (by have := Z2.out; omega)).mono ?_
        rintro e w4 ⟨⟨v2, r2, rfl, hown2, hn2, hv2⟩, b4⟩
        have HIx := Lib.hid (HI3.out.step b4)
        have HO14 := Lib.hid (own_below HO1.out b4)
        have HO2 := Lib.hid (own_mono hown2 (show w.heap.size + 1 ≤ w3.heap.size by have := lt_of_blk HI3.out.h; omega))
        have HV2 := Lib.hid hv2
        have HN2 := Lib.hid hn2
        clear hown2 hv2 b4 HI3 hn2 HO1
        obtain ⟨q2, c2, hq2, -, -⟩ := own_slice HO2.out
        subst hq2
        generalize sideL true (s.extract (a + 2) s.size).data.toList = Y at *
        cases X with
        | none =>
          have HR := Lib.hid (HGL.out.trans (show _ = none by rfl))
          have HZ := Lib.hid (show (Tryd.prog.info? 23).map (·.size) = some (adrCells fun _ => 0).size by rw [adrCells_size]; kernel_rfl)
          go_wp2_with (refine wpList_store_row rfl 23 _ _ rfl w.heap.size (adrCells fun _ => 0) rfl (congrArg Value.agg zeroAdr) 23 _ HIx.out.h HZ.out ?hold (cells_one _ _ _) ?_)
          case hold => exact rfl
          have t := Turned.setRow HIx.out.h (adrCells fun _ => 0)
          have hlast := t.get (lt_of_blk HIx.out.h)
          have hB := HIx.out.below.trans (t.below (Nat.le_refl _))
          refine bodyPost_ret (results_row_tmp rfl _ _ w.heap.size 23 _ (0, 0) _ rfl hlast Tryd.underlying23 rfl HZ.out) rfl ⟨?_, hB⟩
          rw [HR.out]; rfl
        | some l1 =>
          cases Y with
          | none =>
            have HR := Lib.hid (HGL.out.trans (show _ = none by rfl))
            have HZ := Lib.hid (show (Tryd.prog.info? 23).map (·.size) = some (adrCells fun _ => 0).size by rw [adrCells_size]; kernel_rfl)
            go_wp2_with (refine wpList_store_row rfl 23 _ _ rfl w.heap.size (adrCells fun _ => 0) rfl (congrArg Value.agg zeroAdr) 23 _ HIx.out.h HZ.out ?hold (cells_one _ _ _) ?_)
            case hold => exact rfl
            have t := Turned.setRow HIx.out.h (adrCells fun _ => 0)
            have hlast := t.get (lt_of_blk HIx.out.h)
            have hB := HIx.out.below.trans (t.below (Nat.le_refl _))
            refine bodyPost_ret (results_row_tmp rfl _ _ w.heap.size 23 _ (0, 0) _ rfl hlast Tryd.underlying23 rfl HZ.out) rfl ⟨?_, hB⟩
            rw [HR.out]; rfl
          | some l2 =>
            obtain rfl : r1 = l1 := HV1.out l1 rfl
            obtain rfl : r2 = l2 := HV2.out l2 rfl
            have ew : IntKind.i64.wrap ((r1.length : Int) + r2.length) = (r1.length : Int) + r2.length := by have := HN1.out; have := HN2.out; have := Z1.out; have := Z2.out; rw [IntKind.wrap_i64]; omega
            by_cases hc : r1.length + r2.length < 8
            · obtain ⟨m, hm⟩ : ∃ m, m = 8 - (r1.length + r2.length) := ⟨_, rfl⟩
              obtain ⟨l, hl⟩ : ∃ l, l = r1 ++ List.replicate m 0 ++ r2 := ⟨_, rfl⟩
              have HR := Lib.hid (show getL s.data.toList = some l from HGL.out.trans (by unfold getC; exact (if_pos (.inl ⟨rfl, hc⟩)).trans (by rw [hl, hm])))
              have hci : ¬ ((7 : Int) < (r1.length : Int) + r2.length) := by omega
              have HC := Lib.hid hc
              have HM := Lib.hid hm
              have HL := Lib.hid hl
              have hlt2 : ∀ k, (Value.slice q2 r2.length c2).ownBlock = some k → k < w4.heap.size := fun k hk => (HO2.out.lt k hk).2
              have HL2 := Lib.hid hlt2
              have hBD := lt_of_blk HIx.out.h
              have hnil := World.ownsRow_nil w4 w4.heap.size 3 1
              have HNIL := Lib.hid hnil
              clear hc hm hl hlt2 hnil HV1 HV2 HN1 HN2 HGL
              go_wp2_with (first | (at_builtin; refine appI2 rfl (.tmp 80) (.tmp 81) rfl w4.heap.size (.slice none 0 0) [] rfl HNIL.out (w.heap.size + 1) (.slice q1 r1.length c1) r1 rfl HO14.out (by have := HC.out; simp; omega) (Nat.le_refl _) ?_; intro v5 w5 hown5 hgr5; have HM5 := Lib.hid (show MInv w.heap.size w4.heap.size (w.heap.size + 1) q2 c2 r1 r2 0 v5 w w5 from ⟨by simpa using hown5, kept_none HO2.out hgr5, HL2.out, HIx.out.grown hgr5 (fun k hk => by cases hk), hgr5.size, hBD⟩); clear hown5 hgr5))
              go_loopw [6] (fun v wr => ∃ j : Nat, j ≤ m ∧ MInv w.heap.size w4.heap.size (w.heap.size + 1) q2 c2 r1 r2 j v w wr) (fun v _ => 8 - sLen v)
              case atStart => exact ⟨0, by omega, HM5.out⟩
              case round =>
                clear HM5
                obtain ⟨j, hj, I⟩ := hrel
                obtain ⟨q6, c6, hq6, -, -⟩ := own_slice I.own
                subst hq6
                obtain ⟨n, hn⟩ : ∃ n, n = (r1 ++ List.replicate j 0).length := ⟨_, rfl⟩
                have hn2 : n = r1.length + j := by rw [hn]; simp
                have HN := Lib.hid hn
                have HI6 := Lib.hid I
                rw [← hn]
                clear I hn
                by_cases hjm : j < m
                · have hlt : (n : Int) + r2.length < 8 := by have := HM.out; have := HC.out; omega
                  have hwr : IntKind.i64.wrap ((n : Int) + r2.length) = (n : Int) + r2.length := by rw [IntKind.wrap_i64]; omega
                  have HI3 := Lib.hid info3
                  have HOW := Lib.hid (show _root_.Go.World.ownsRow _ _ _ _ (.slice q6 n c6) n (rowI (r1 ++ List.replicate j 0)) by have h := HI6.out.own; rw [← HN.out] at h; exact h)
                  have HN2 := Lib.hid hn2
                  have HNB := Lib.hid (show n < 8 by have := HM.out; have := HC.out; omega)
                  clear hn2
                  go_wp2_with (first | (at_builtin; refine appG1 Tryd.underlying47 HI3.out rfl rfl (.tmp 89) (.tmp 90) rfl w4.heap.size (.slice q6 n c6) n (rowI (r1 ++ List.replicate j 0)) (.int .i64 0) rfl rfl HOW.out rfl (by have := HNB.out; omega) (by have := HNB.out; omega) HI6.out.hD ?_; intro G9 cap9 w9 hG9 hown9 hgr9; have HC9 := Lib.hid (HI6.out.app (by rw [← HN.out]; exact hgr9) HN.out hown9); clear hown9 hgr9))
                  exact ⟨⟨j + 1, by omega, HC9.out⟩, by have := HNB.out; simp [sLen]; omega⟩
                · obtain rfl : j = m := by omega
                  have HI6D := HI6.out.hD
                  have hge : ¬ ((n : Int) + r2.length < 8) := by have := HM.out; have := HC.out; omega
                  have hwr : IntKind.i64.wrap ((n : Int) + r2.length) = (n : Int) + r2.length := by have := HM.out; have := HC.out; rw [IntKind.wrap_i64]; omega
                  have HOW := Lib.hid (show _root_.Go.World.ownsRow _ _ _ _ (.slice q6 n c6) (r1 ++ List.replicate j 0).length (rowI (r1 ++ List.replicate j 0)) by have h := HI6.out.own; rw [← HN.out] at h ⊢; exact h)
                  have HNB := Lib.hid (show n ≤ 8 ∧ r2.length ≤ 8 by have := HM.out; have := HC.out; omega)
                  clear hn2
                  go_wp2_with (first | (at_builtin; refine appI2 rfl (.tmp 92) (.tmp 93) rfl w4.heap.size (.slice q6 n c6) (r1 ++ List.replicate j 0) rfl HOW.out (w.heap.size + 1) (.slice q2 r2.length c2) r2 rfl HI6.out.own2 (by have := HNB.out; rw [← HN.out]; omega) HI6.out.hD ?_
                                        intro v7 WW hown7 hgr7
                                        have HIx7 := Lib.hid (HI6.out.zero.grown hgr7 (fun k hk => by have := own_ge HOW.out k hk; omega))
                                        have hgl2 := getL_lt HR.out
                                        have hown8 : WW.ownsRow w4.heap.size 3 1 v7 8 (rowI l) := by rw [← hgl2.1, HL.out]; exact hown7
                                        obtain ⟨qq, cc, hqq, -, hsl⟩ := own_slice hown8
                                        obtain ⟨G, hGq, hG1, hG2, hcell⟩ := hsl (by decide)
                                        subst hqq
                                        subst hGq
                                        have hrow : ∀ j, j < 8 → WW.cell? ⟨G, j, none⟩ = some (.int .i64 (l.getD j 0 : Int)) := fun j hj => by
                                          have hj2 : j < l.length := by rw [hgl2.1]; exact hj
                                          refine hcell j _ ?_
                                          rw [rowI, List.getElem?_map, List.getD_eq_getElem?_getD, List.getElem?_eq_getElem hj2]; rfl
                                        have bW : Below WW.heap.size WW (WW.alloc (.cells (adrCells fun _ => 0) 23)) := (Below.refl _ _).alloc (Nat.le_refl _) _
                                        have hF0 : AFillI w.heap.size WW.heap.size G 0 l w (WW.alloc (.cells (adrCells fun _ => 0) 23)) :=
                                          ⟨by have h := heap_alloc_new WW (.cells (adrCells fun _ => 0) 23); simpa using h, fun j hj => (bW.cell (p := ⟨G, j, none⟩) hG2).trans (hrow j hj), HIx7.out.step bW, by omega, lt_of_blk HIx7.out.h⟩
                                        rw [← zeroAdr] at hF0
                                        have HFI := Lib.hid hF0
                                        have HLT := Lib.hid hgl2.2
                                        clear hown7 hgr7 hown8 hsl hcell hrow bW hF0 hgl2))
                  go_loopw [14] (fun i wr => ∃ k : Nat, k ≤ 8 ∧ i = .int .i64 k ∧ AFillI w.heap.size WW.heap.size G k l w wr) (fun i _ => 8 - (intOf i).toNat)
                  case atStart => exact ⟨0, by omega, rfl, HFI.out⟩
                  case round =>
                    clear HFI
                    obtain ⟨k, hk, rfl, I⟩ := hrel
                    by_cases hlt : k < 8
                    · have c1 := I.row k hlt
                      have hx : l.getD k 0 < 65536 := by
                        rw [List.getD_eq_getElem?_getD]
                        cases he : l[k]? with
                        | none => decide
                        | some z => exact HLT.out z (List.mem_of_getElem? he)
                      have HP := Lib.hid (I.put)
                      obtain ⟨z, hz⟩ : ∃ z, z = l.getD k 0 := ⟨_, rfl⟩
                      rw [← hz] at c1 hx HP
                      have f1 := frozen_blk I.h (2 * k)
                      have f2 := frozen_blk I.h (2 * k + 1)
                      have d1 := (cell_blk I.h (2 * k)).trans (adrCells_get _ (by omega))
                      have d2 := (cell_blk I.h (2 * k + 1)).trans (adrCells_get _ (by omega))
                      have hne := I.ne
                      clear I hz
                      have o1 : ¬ ((8 : Int) ≤ k) := by omega
                      have o2 : ¬ ((16 : Int) ≤ 2 * k) := by omega
                      have o3 : ¬ ((16 : Int) ≤ 2 * k + 1) := by omega
                      have e1 : ((z : Int)).tmod 256 = ((z % 256 : Nat) : Int) := rfl
                      go_wp2_with fail
                      exact ⟨⟨k + 1, by omega, by go_num, HP.out⟩, by simp [intOf]; omega⟩
                    · obtain rfl : k = 8 := by omega
                      have g2 := I.h
                      rw [show adrCells (fun i => if i < 2 * 8 then adrG l i else 0) = adrCells (adrG l) from by
                        unfold adrCells adrL
                        rw [rowL_congr .u8 (n := 16) (g := adrG l) (fun i hi => if_pos (by omega))]] at g2
                      have G2 := Lib.hid g2
                      have B2 := Lib.hid I.zero
                      clear g2 I
                      have HZ := Lib.hid (show (Tryd.prog.info? 23).map (·.size) = some (adrCells (adrG l)).size by rw [adrCells_size]; kernel_rfl)
                      go_wp2_with (first | (refine wpList_load_row rfl 23 _ rfl WW.heap.size rfl 23 _ (0, 0) _ G2.out Tryd.underlying23 rfl HZ.out ?_) | (refine wpList_store_row rfl 23 _ _ rfl w.heap.size (adrCells (adrG l)) rfl rfl 23 _ B2.out.h HZ.out ?hold (cells_one _ _ _) ?_))
                      case hold => first | exact rfl | exact Eq.trans (adrCells_size _) (by kernel_rfl) | exact Eq.trans (by kernel_rfl) (adrCells_size _).symm
                      have t := Turned.setRow B2.out.h (adrCells (adrG l))
                      have hlast := t.get (lt_of_blk B2.out.h)
                      have hB := B2.out.below.trans (t.below (Nat.le_refl _))
                      refine bodyPost_ret (results_row_tmp rfl _ _ w.heap.size 23 _ (0, 0) _ rfl hlast Tryd.underlying23 rfl HZ.out) rfl ⟨?_, hB⟩
                      rw [HR.out]; rfl
            · have HR := Lib.hid (HGL.out.trans (show getC true (some r1) (some r2) = none by unfold getC; exact if_neg (by rintro (⟨_, h⟩ | ⟨h, _⟩); exact hc h; cases h)))
              have hci : (7 : Int) < (r1.length : Int) + r2.length := by omega
              clear hc
              have HZ := Lib.hid (show (Tryd.prog.info? 23).map (·.size) = some (adrCells fun _ => 0).size by rw [adrCells_size]; kernel_rfl)
              go_wp2_with (refine wpList_store_row rfl 23 _ _ rfl w.heap.size (adrCells fun _ => 0) rfl (congrArg Value.agg zeroAdr) 23 _ HIx.out.h HZ.out ?hold (cells_one _ _ _) ?_)
              case hold => exact rfl
              have t := Turned.setRow HIx.out.h (adrCells fun _ => 0)
              have hlast := t.get (lt_of_blk HIx.out.h)
              have hB := HIx.out.below.trans (t.below (Nat.le_refl _))
              refine bodyPost_ret (results_row_tmp rfl _ _ w.heap.size 23 _ (0, 0) _ rfl hlast Tryd.underlying23 rfl HZ.out) rfl ⟨?_, hB⟩
              rw [HR.out]; rfl
end Go.Proofs.YtepoaapadalnoaaDoor
