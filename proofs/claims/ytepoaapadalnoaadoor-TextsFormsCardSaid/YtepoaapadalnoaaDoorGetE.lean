/- A text as an address. -/
import Derived.Test.YtepoaapadalnoaaDoorGetD
import Derived.Laws.ResultCell
namespace Go.Proofs.YtepoaapadalnoaaDoor
open Go.RowKit
set_option linter.unusedVariables false
set_option linter.unusedSimpArgs false
theorem results_row_tmp {P : Program} {fn : Func} {p u : Tmp} {ty : TypeId} (h : fn.results = #[.cell p ty, .tmp u]) (tmps : Array Value) (w : World) (g : Nat) (t : TypeId) (cs : Array Value) (fr : Nat × Nat) (d : TypeDesc)
    (hp : tmps.getD p undef = .pointer (some ⟨g, 0, none⟩)) (hg : w.heap[g]? = some (.cells cs t fr))
    (hu : P.underlying ty = some d) (hd : (match d with | .struct _ | .array _ _ => true | _ => false) = true) (hi : (P.info? ty).map (·.size) = some cs.size) :
    (results fn tmps).run P w = .ok (.tuple #[.agg cs, tmps.getD u undef]) w := by
  rw [results_cell_tmp h, hp]
  simp [asAddr, run_loadVar_row w g t ty cs fr d hg hu hd hi, Result.andThen]
theorem app0 {ops : Array Oper} {rest : List Oper} {o : Oper} {a : Act} {Q : Exit → Act → World → Prop} {w : World} (hgd : o.guard = none) (s x : Operand) (ho : o.op = .call { callee := .builtin .append, args := #[s, x], argTypes := #[46, 3] })
    (B : Nat) (v : Value) (l : List Nat) (hs : a.eval s = v) (hown : w.ownsRow B 36 1 v l.length (rowU l)) (m : Nat) (hx : a.eval x = .int .i64 (m : Int)) (hm : l.length + m ≤ 1000) (hB : B ≤ w.heap.size)
    (h : ∀ v' w', w'.ownsRow B 36 1 v' (l ++ List.replicate m 0).length (rowU (l ++ List.replicate m 0)) → w.grownBy w' v.ownBlock → wpList Tryd.prog ops Q rest (a.put o.dst v') w') :
    wpList Tryd.prog ops Q (o :: rest) a w := by
  obtain ⟨v', w', hr, h1, h2⟩ := run_append_zeros w B l.length m v (rowU l) o.type hown hm hB
  have e : rowU l ++ List.replicate m (Value.int .u16 0) = rowU (l ++ List.replicate m 0) := by simp [rowU]
  refine wpList_plain hgd fun K hK => ?_
  unfold Oper.wp execOp
  simp only [ho, resolve, invoke, builtin, Sem.run_bind, Sem.run_pure, Result.andThen_ok, List.map_toArray, List.map_cons, List.map_nil, hs, hx, hr]
  exact hK _ _ (h v' w' (by rw [List.length_append, List.length_replicate, ← e]; exact h1) h2)
theorem zeroAdr : #[Value.int .u8 0, .int .u8 0, .int .u8 0, .int .u8 0, .int .u8 0, .int .u8 0, .int .u8 0, .int .u8 0, .int .u8 0, .int .u8 0, .int .u8 0, .int .u8 0, .int .u8 0, .int .u8 0, .int .u8 0, .int .u8 0] = adrCells fun _ => 0 := by kernel_rfl
theorem adrCells_set (g : Nat → Nat) (i v : Nat) : (adrCells g).setIfInBounds i (.int .u8 (v : Int)) = adrCells fun j => if j = i then v else g j := by
  simp only [adrCells, adrL, List.setIfInBounds_toArray, rowL_set]
theorem adrCells_size (g : Nat → Nat) : (adrCells g).size = 16 := by simp [adrCells, adrL_length]
/-- what a text read as an address returns -/
def getV : Option (List Nat) → Value
  | some l => .tuple #[.agg (adrCells (adrG l)), .int .i64 0]
  | none => .tuple #[.agg (adrCells fun _ => 0), .int .i64 4]
theorem cut_len (s p : List UInt8) : (Lib.cut s p).1.length ≤ s.length ∧ (Lib.cut s p).2.1.length ≤ s.length := by
  unfold Lib.cut
  split
  · simp; omega
  · simp
def getC (ct : Bool) (x y : Option (List Nat)) : Option (List Nat) :=
  match x, y with
  | some l, some m => if (ct = true ∧ l.length + m.length < 8) ∨ (ct = false ∧ l.length + m.length = 8) then some (l ++ List.replicate (8 - (l.length + m.length)) 0 ++ m) else none
  | _, _ => none
theorem getL_eq (s : List UInt8) : getL s = getC (Lib.cut s [58, 58]).2.2 (sideL (!(Lib.cut s [58, 58]).2.2) (Lib.cut s [58, 58]).1) (sideL true (Lib.cut s [58, 58]).2.1) := by
  unfold getL
  cases hc : (Lib.cut s [58, 58]).2.2 with
  | true =>
    simp only [Bool.not_true, if_true, getC]
    cases sideL false (Lib.cut s [58, 58]).1 <;> cases sideL true (Lib.cut s [58, 58]).2.1 <;> simp [hc]
  | false =>
    have h1 : Lib.cut s [58, 58] = (s, [], false) := by
      unfold Lib.cut at hc ⊢
      split
      · rename_i h; rw [if_pos h] at hc; cases hc
      · rfl
    rw [h1]
    simp only [Bool.not_false, getC]
    cases sideL true s with
    | none => simp
    | some l =>
      have : sideL true [] = some [] := rfl
      rw [this]
      by_cases h8 : l.length = 8 <;> simp [h8]
structure GInv2 (B : Nat) (w wr : World) : Prop where
  h : wr.heap[B]? = some (.cells (adrCells fun _ => 0) 23 (0, 0))
  below : Below B w wr
theorem GInv2.step {B : Nat} {w wr w2 : World} (I : GInv2 B w wr) (hb : Below wr.heap.size wr w2) : GInv2 B w w2 :=
  ⟨(hb.block _ (lt_of_blk I.h)).trans I.h, I.below.trans (hb.mono (Nat.le_of_lt (lt_of_blk I.h)))⟩
theorem own_apart {w : World} {C n : Nat} {v : Value} {xs : List Value} {row : Option Nat} (h : w.ownsRow C 36 1 v n xs) (hr : ∀ k, row = some k → k < C) : v.ownBlock = none ∨ v.ownBlock ≠ row := by
  cases hv : v.ownBlock with
  | none => exact .inl rfl
  | some k => exact .inr fun e => by have := own_ge h k hv; have := hr k e.symm; omega
theorem GInv2.grown {B : Nat} {w wr w' : World} {row : Option Nat} (I : GInv2 B w wr) (hg : wr.grownBy w' row) (hr : ∀ k, row = some k → B + 1 ≤ k) : GInv2 B w w' :=
  ⟨(hg.block B (lt_of_blk I.h) (fun e => by have := hr B e.symm; omega)).trans I.h, I.below.grown hg (Nat.le_of_lt (lt_of_blk I.h)) (fun k hk => by have := hr k hk; omega)⟩
theorem decN_lt {x : List UInt8} {n : Nat} (h : decN x = some n) : n < 256 := by
  unfold decN at h
  split at h
  · cases h
  · split at h
    · cases h
    · rename_i h1; cases h; omega
theorem decs_lt : ∀ (L : List (List UInt8)) (r : List Nat), decs L = some r → ∀ x ∈ r, x < 256
  | [], r, h => by simp only [decs, Option.some.injEq] at h; subst h; simp
  | x :: L, r, h => by
    unfold decs at h
    split at h
    · rename_i n r2 e1 e2
      cases h
      intro y hy
      rcases List.mem_cons.1 hy with rfl | hy
      · exact decN_lt e1
      · exact decs_lt L r2 e2 y hy
    · cases h
theorem dec4_lt {x : List UInt8} {r : List Nat} (h : dec4 x = some r) : ∀ y ∈ r, y < 65536 := by
  unfold dec4 at h
  split at h
  · rename_i a b c d e
    have h1 := decs_lt _ _ e
    have ha := h1 a (by simp); have hb := h1 b (by simp); have hc := h1 c (by simp); have hd := h1 d (by simp)
    cases h
    intro y hy
    simp only [List.mem_cons, List.not_mem_nil, or_false] at hy
    omega
  · cases h
theorem sideG_lt {last : Bool} : ∀ (L : List (List UInt8)) (r : List Nat), sideG last L = some r → ∀ x ∈ r, x < 65536
  | [], r, h => by simp only [sideG, Option.some.injEq] at h; subst h; simp
  | x :: L, r, h => by
    unfold sideG at h
    split at h
    · rename_i n e1
      cases e2 : sideG last L with
      | none => rw [e2] at h; cases h
      | some r2 =>
        rw [e2] at h
        cases h
        intro y hy
        rcases List.mem_cons.1 hy with rfl | hy
        · exact num_lt (by decide) e1
        · exact sideG_lt L r2 e2 y hy
    · split at h
      · exact dec4_lt h
      · cases h
theorem sideL_lt {last : Bool} {s : List UInt8} {r : List Nat} (h : sideL last s = some r) : ∀ x ∈ r, x < 65536 := by
  unfold sideL at h
  split at h
  · cases h; simp
  · exact sideG_lt _ _ h
theorem getL_lt {s : List UInt8} {r : List Nat} (h : getL s = some r) : r.length = 8 ∧ ∀ x ∈ r, x < 65536 := by
  rw [getL_eq] at h
  generalize Lib.cut s [58, 58] = c at h
  unfold getC at h
  split at h
  · rename_i l m e1 e2
    split at h
    · rename_i hc
      cases h
      refine ⟨by simp only [List.length_append, List.length_replicate]; omega, fun x hx => ?_⟩
      rw [List.mem_append, List.mem_append] at hx
      rcases hx with (hx | hx) | hx
      · exact sideL_lt e1 x hx
      · rw [List.eq_of_mem_replicate hx]; decide
      · exact sideL_lt e2 x hx
    · cases h
  · cases h
/-- while the address is filled -/
structure AFill (B G k : Nat) (l : List Nat) (w wr : World) : Prop where
  h : wr.heap[B]? = some (.cells (adrCells fun i => if i < 2 * k then adrG l i else 0) 23 (0, 0))
  row : ∀ j, j < 8 → wr.cell? ⟨G, j, none⟩ = some (.int .u16 (l.getD j 0 : Int))
  below : Below B w wr
theorem AFill.put {B G k : Nat} {l : List Nat} {w wr : World} (I : AFill B G k l w wr) (hG : B < G) : AFill B G (k + 1) l w ((wr.setCell ⟨B, 2 * k, none⟩ (.int .u8 ((l.getD k 0 / 256 : Nat) : Int))).setCell ⟨B, 2 * k + 1, none⟩ (.int .u8 ((l.getD k 0 % 256 : Nat) : Int))) := by
  have t := Turned.setCell I.h (2 * k) (.int .u8 ((l.getD k 0 / 256 : Nat) : Int))
  rw [adrCells_set] at t
  have hB := lt_of_blk I.h
  have t2 := Turned.setCell (t.get hB) (2 * k + 1) (.int .u8 ((l.getD k 0 % 256 : Nat) : Int))
  rw [adrCells_set] at t2
  have t3 := t.trans t2
  refine ⟨?_, fun j hj => ?_, I.below.trans (t3.below (Nat.le_refl _))⟩
  · rw [show (fun i => if i < 2 * (k + 1) then adrG l i else 0) = (fun j => if j = 2 * k + 1 then l.getD k 0 % 256 else if j = 2 * k then l.getD k 0 / 256 else if j < 2 * k then adrG l j else 0) from ?_]
    · exact t3.get hB
    · funext i
      by_cases h1 : i = 2 * k + 1
      · subst h1; rw [if_pos (by omega), if_pos rfl, adrG, if_neg (by omega), show (2 * k + 1) / 2 = k by omega]
      · by_cases h2 : i = 2 * k
        · subst h2; rw [if_pos (by omega), if_neg h1, if_pos rfl, adrG, if_pos (by omega), show 2 * k / 2 = k by omega]
        · by_cases h3 : i < 2 * k
          · rw [if_pos (by omega), if_neg h1, if_neg h2, if_pos h3]
          · rw [if_neg (by omega), if_neg h1, if_neg h2, if_neg h3]
  · have := I.row j hj
    rw [← this]
    simp only [World.cell?, t3.other (k := G) (by omega)]
set_option maxRecDepth 100000 in
set_option maxHeartbeats 1000000 in
theorem get11 (s : ByteArray) (w : World) (L : Lay07 w) (hs : s.size < 1000000000) :
    Calls Tryd.prog 11 #[.string s] w fun e w' => e = .returned (getV (getL s.data.toList)) ∧ Below w.heap.size w w' := by
  have h3 := L.lt
  have B0 : Below w.heap.size w (w.alloc (.cells (adrCells fun _ => 0) 23)) := (Below.refl _ _).alloc (Nat.le_refl _) _
  have I0 : GInv2 w.heap.size w (w.alloc (.cells (adrCells fun _ => 0) 23)) := ⟨heap_alloc_new _ _, B0⟩
  have L0 := L.step B0
  rw [← zeroAdr] at I0 L0
  have HL := Lib.hid L0
  have HI := Lib.hid I0
  clear L I0 L0 B0
  go_enter Tryd.func11, Tryd.ntmps11
  go_wp2_with fail
  obtain ⟨m, hm⟩ := HL.out.maxlen
  refine (Tryd.strings_Cut s ⟨#[58, 58]⟩ m _ (by omega) hm).mono ?_
  rintro e w1 ⟨rfl, dn, hw1⟩
  clear hm
  have b1 : Below (w.alloc (.cells (adrCells fun _ => 0) 23)).heap.size (w.alloc (.cells (adrCells fun _ => 0) 23)) w1 := by
    rw [hw1]; exact ⟨rfl, rfl, rfl, Nat.le_refl _, fun _ _ => rfl⟩
  clear hw1
  have HI1 := Lib.hid (HI.out.step b1)
  have HL1 := Lib.hid (HL.out.step b1)
  have hcl := cut_len s.data.toList [58, 58]
  rw [show s.data.toList.length = s.size by simp] at hcl
  rw [show (ByteArray.mk #[58, 58]).data.toList = [58, 58] from rfl]
  have hg := getL_eq s.data.toList
  generalize Lib.cut s.data.toList [58, 58] = c at *
  obtain ⟨x, y, ct⟩ := c
  replace hg : getL s.data.toList = getC ct (sideL (!ct) x) (sideL true y) := hg
  obtain ⟨hx, hy⟩ := hcl
  replace hx : x.length ≤ s.size := hx
  replace hy : y.length ≤ s.size := hy
  have HG := Lib.hid hg
  clear hg b1 HI HL
  go_wp2_with fail
  refine (read23 ⟨x.toArray⟩ (!ct) _ HL1.out (by show x.toArray.size < _; simp; omega)).mono ?_
  rintro e w2 ⟨⟨v1, r1, rfl, hown1, hn1, hv1⟩, b2⟩
  have hB1 := lt_of_blk HI1.out.h
  have HI2 := Lib.hid (HI1.out.step b2)
  have HL2 := Lib.hid (HL1.out.step b2)
  have HO1 := Lib.hid (own_mono hown1 (show w.heap.size + 1 ≤ w1.heap.size by omega))
  have HV1 := Lib.hid hv1
  replace hn1 : r1.length ≤ x.length + 3 := hn1
  clear HI1 HL1 hown1 hv1 b2
  rw [show (⟨x.toArray⟩ : ByteArray).data.toList = x by simp]
  go_wp2_with fail
  refine (read23 ⟨y.toArray⟩ true _ HL2.out (by show y.toArray.size < _; simp; omega)).mono ?_
  rintro e w3 ⟨⟨v2, r2, rfl, hown2, hn2, hv2⟩, b3⟩
  have hB2 := lt_of_blk HI2.out.h
  have HI3 := Lib.hid (HI2.out.step b3)
  have HO13 := Lib.hid (own_below HO1.out b3)
  have hlt1 : ∀ k, v1.ownBlock = some k → k < w2.heap.size := fun k hk => (HO1.out.lt k hk).2
  have HO2 := Lib.hid hown2
  have HV2 := Lib.hid hv2
  replace hn2 : r2.length ≤ y.length + 3 := hn2
  rw [show (⟨y.toArray⟩ : ByteArray).data.toList = y by simp]
  clear hown2 hv2 b3 HI2 HL2 HO1
  obtain ⟨q1, c1, hq1, -, -⟩ := own_slice HO13.out
  obtain ⟨q2, c2, hq2, -, -⟩ := own_slice HO2.out
  subst hq1 hq2
  generalize sideL (!ct) x = X at *
  generalize sideL true y = Y at *
  cases X with
  | none =>
    have HR := Lib.hid (HG.out.trans (show _ = none by rfl))
    have HZ := Lib.hid (show (Tryd.prog.info? 23).map (·.size) = some (adrCells fun _ => 0).size by rw [adrCells_size]; kernel_rfl)
    go_wp2_with (first | (refine wpList_load_row rfl 23 _ rfl w.heap.size rfl 23 _ (0, 0) _ HI3.out.h Tryd.underlying23 rfl HZ.out ?_) | (refine wpList_store_row rfl 23 _ _ rfl w.heap.size (adrCells fun _ => 0) rfl rfl 23 _ HI3.out.h HZ.out ?hold (cells_one _ _ _) ?_))
    case hold => exact rfl
    have t := Turned.setRow HI3.out.h (adrCells fun _ => 0)
    have hlast := t.get (lt_of_blk HI3.out.h)
    have hB := HI3.out.below.trans (t.below (Nat.le_refl _))
    refine bodyPost_ret (results_row_tmp rfl _ _ w.heap.size 23 _ (0, 0) _ rfl hlast Tryd.underlying23 rfl HZ.out) rfl ⟨?_, hB⟩
    rw [HR.out]; rfl
  | some l1 =>
    cases Y with
    | none =>
      have HR := Lib.hid (HG.out.trans (show _ = none by rfl))
      have HZ := Lib.hid (show (Tryd.prog.info? 23).map (·.size) = some (adrCells fun _ => 0).size by rw [adrCells_size]; kernel_rfl)
      go_wp2_with (first | (refine wpList_load_row rfl 23 _ rfl w.heap.size rfl 23 _ (0, 0) _ HI3.out.h Tryd.underlying23 rfl HZ.out ?_) | (refine wpList_store_row rfl 23 _ _ rfl w.heap.size (adrCells fun _ => 0) rfl rfl 23 _ HI3.out.h HZ.out ?hold (cells_one _ _ _) ?_))
      case hold => exact rfl
      have t := Turned.setRow HI3.out.h (adrCells fun _ => 0)
      have hlast := t.get (lt_of_blk HI3.out.h)
      have hB := HI3.out.below.trans (t.below (Nat.le_refl _))
      refine bodyPost_ret (results_row_tmp rfl _ _ w.heap.size 23 _ (0, 0) _ rfl hlast Tryd.underlying23 rfl HZ.out) rfl ⟨?_, hB⟩
      rw [HR.out]; rfl
    | some l2 =>
      obtain rfl : r1 = l1 := HV1.out l1 rfl
      obtain rfl : r2 = l2 := HV2.out l2 rfl
      have ew : IntKind.i64.wrap ((r1.length : Int) + r2.length) = (r1.length : Int) + r2.length := by rw [IntKind.wrap_i64]; omega
      have bad : ¬ ((ct = true ∧ r1.length + r2.length < 8) ∨ (ct = false ∧ r1.length + r2.length = 8)) → getL s.data.toList = none := fun h => HG.out.trans (by unfold getC; exact if_neg h)
      have good : ((ct = true ∧ r1.length + r2.length < 8) ∨ (ct = false ∧ r1.length + r2.length = 8)) → getL s.data.toList = some (r1 ++ List.replicate (8 - (r1.length + r2.length)) 0 ++ r2) := fun h => HG.out.trans (by unfold getC; exact if_pos h)
      have HBAD := Lib.hid bad
      have HGOOD := Lib.hid good
      clear bad good
      by_cases hc : (ct = true ∧ r1.length + r2.length < 8) ∨ (ct = false ∧ r1.length + r2.length = 8)
      · have HR := Lib.hid (HGOOD.out hc)
        obtain ⟨m, hm⟩ : ∃ m, m = 8 - (r1.length + r2.length) := ⟨_, rfl⟩
        have hsum : r1.length + r2.length + m = 8 := by omega
        rw [← hm] at HR
        have ew2 : IntKind.i64.wrap (8 - ((r1.length : Int) + r2.length)) = (m : Int) := by rw [IntKind.wrap_i64]; omega
        have hc2 : (ct = true ∧ ¬ ((8 : Int) ≤ (r1.length : Int) + r2.length)) ∨ (ct = false ∧ (((r1.length : Int) + r2.length) == 8) = true ∧ (r1.length : Int) + r2.length = 8) := by
          rcases hc with ⟨h1, h2⟩ | ⟨h1, h2⟩
          · exact .inl ⟨h1, by omega⟩
          · exact .inr ⟨h1, by simp; omega, by omega⟩
        have HM := Lib.hid hm
        have HS := Lib.hid hsum
        clear hc hm hsum
        rcases hc2 with ⟨rfl, hc⟩ | ⟨rfl, hc, hc3⟩
        all_goals (
          go_wp2_with (first
            | (at_builtin; refine app0 rfl (.tmp 60) (.tmp 62) rfl (w.heap.size + 1) (.slice q1 r1.length c1) r1 rfl HO13.out m (by first | rfl | exact congrArg (Value.int .i64) (by have := HS.out; omega)) (by have := HS.out; omega) (by have := lt_of_blk HI3.out.h; omega) ?_
               intro v4 w4 hown4 hgr4
               have HI4 := Lib.hid (HI3.out.grown hgr4 (fun k hk => own_ge HO13.out k hk))
               have HO24 := Lib.hid (HO2.out.kept hgr4 (own_apart HO2.out hlt1))
               have HO4 := Lib.hid hown4
               have hs4 := HI4.out.below.size
               clear hown4 hgr4)
            | (at_builtin; refine app2 rfl (.tmp 63) (.tmp 64) rfl (w.heap.size + 1) _ (r1 ++ List.replicate m 0) rfl HO4.out w2.heap.size (.slice q2 r2.length c2) r2 rfl HO24.out (by have := HS.out; simp; omega) (by have := lt_of_blk HI4.out.h; omega) ?_
               intro v5 w5 hown5 hgr5
               have HI5 := Lib.hid (HI4.out.grown hgr5 (fun k hk => own_ge HO4.out k hk))
               have hL8 : (r1 ++ List.replicate m 0 ++ r2).length = 8 := by have := HS.out; simp; omega
               rw [hL8] at hown5
               obtain ⟨p5, c5, hq5, -, hsl5⟩ := own_slice hown5
               obtain ⟨G, hp5, hGB, hGs, hcell⟩ := hsl5 (by decide)
               subst hq5
               subst hp5
               have hlt := getL_lt HR.out
               obtain ⟨l, hl⟩ : ∃ l, l = r1 ++ List.replicate m 0 ++ r2 := ⟨_, rfl⟩
               rw [← hl] at HR hcell hlt
               have hrow : ∀ j, j < 8 → w5.cell? ⟨G, j, none⟩ = some (.int .u16 (l.getD j 0 : Int)) := fun j hj => by
                 have hj2 : j < l.length := by rw [hlt.1]; exact hj
                 refine hcell j _ ?_
                 rw [rowU, List.getElem?_map, List.getD_eq_getElem?_getD, List.getElem?_eq_getElem hj2]; rfl
               have I0 : AFill w.heap.size G 0 l w w5 := ⟨by have := HI5.out.h; simpa using this, hrow, HI5.out.below⟩
               have HF := Lib.hid I0
               have HLT := Lib.hid hlt.2
               clear hown5 hgr5 hcell hsl5 hL8 hlt hl hrow I0 HI5 HO4 HI4 HO24 HGOOD HBAD))
          go_loopw [68] (fun i wr => ∃ k : Nat, k ≤ 8 ∧ i = .int .i64 k ∧ AFill w.heap.size G k l w wr) (fun i _ => 8 - (intOf i).toNat)
          case atStart => exact ⟨0, by omega, rfl, HF.out⟩
          case round =>
            clear HF
            obtain ⟨k, hk, rfl, I⟩ := hrel
            by_cases hlt : k < 8
            · have c1 := I.row k hlt
              have hx : l.getD k 0 < 65536 := by
                rw [List.getD_eq_getElem?_getD]
                cases he : l[k]? with
                | none => decide
                | some z => exact HLT.out z (List.mem_of_getElem? he)
              have HP := Lib.hid (I.put hGB)
              obtain ⟨z, hz⟩ : ∃ z, z = l.getD k 0 := ⟨_, rfl⟩
              rw [← hz] at c1 hx HP
              have f1 := frozen_blk I.h (2 * k)
              have f2 := frozen_blk I.h (2 * k + 1)
              have d1 := (cell_blk I.h (2 * k)).trans (adrCells_get _ (by omega))
              have d2 := (cell_blk I.h (2 * k + 1)).trans (adrCells_get _ (by omega))
              clear I hz
              have o1 : ¬ ((8 : Int) ≤ k) := by omega
              have o2 : ¬ ((16 : Int) ≤ 2 * k) := by omega
              have o3 : ¬ ((16 : Int) ≤ 2 * k + 1) := by omega
              go_wp2_with fail
              exact ⟨⟨k + 1, by omega, by go_num, HP.out⟩, by simp [intOf]; omega⟩
            · obtain rfl : k = 8 := by omega
              have g2 := I.h
              rw [show adrCells (fun i => if i < 2 * 8 then adrG l i else 0) = adrCells (adrG l) from by
                unfold adrCells adrL
                rw [rowL_congr .u8 (n := 16) (g := adrG l) (fun i hi => if_pos (by omega))]] at g2
              have G2 := Lib.hid g2
              have B2 := Lib.hid I.below
              clear g2 I
              have HZ := Lib.hid (show (Tryd.prog.info? 23).map (·.size) = some (adrCells (adrG l)).size by rw [adrCells_size]; kernel_rfl)
              go_wp2_with (first | (refine wpList_load_row rfl 23 _ rfl w.heap.size rfl 23 _ (0, 0) _ G2.out Tryd.underlying23 rfl HZ.out ?_) | (refine wpList_store_row rfl 23 _ _ rfl w.heap.size (adrCells (adrG l)) rfl rfl 23 _ G2.out HZ.out ?hold (cells_one _ _ _) ?_))
              case hold => first | exact rfl | exact Eq.trans (adrCells_size _) (by kernel_rfl) | exact Eq.trans (by kernel_rfl) (adrCells_size _).symm
              have t := Turned.setRow G2.out (adrCells (adrG l))
              have hlast := t.get (lt_of_blk G2.out)
              have hB := B2.out.trans (t.below (Nat.le_refl _))
              refine bodyPost_ret (results_row_tmp rfl _ _ w.heap.size 23 _ (0, 0) _ rfl hlast Tryd.underlying23 rfl HZ.out) rfl ⟨?_, hB⟩
              rw [HR.out]; rfl)
      · have HR := Lib.hid (HBAD.out hc)
        have hc2 : (ct = true ∧ (8 : Int) ≤ (r1.length : Int) + r2.length) ∨ (ct = false ∧ (((r1.length : Int) + r2.length) == 8) = false) := by
          cases ct with
          | true => exact .inl ⟨rfl, by simp at hc; omega⟩
          | false => exact .inr ⟨rfl, by simp at hc ⊢; omega⟩
        clear hc
        rcases hc2 with ⟨rfl, hc⟩ | ⟨rfl, hc⟩
        all_goals (
          have HZ := Lib.hid (show (Tryd.prog.info? 23).map (·.size) = some (adrCells fun _ => 0).size by rw [adrCells_size]; kernel_rfl)
          go_wp2_with (first | (refine wpList_load_row rfl 23 _ rfl w.heap.size rfl 23 _ (0, 0) _ HI3.out.h Tryd.underlying23 rfl HZ.out ?_) | (refine wpList_store_row rfl 23 _ _ rfl w.heap.size (adrCells fun _ => 0) rfl rfl 23 _ HI3.out.h HZ.out ?hold (cells_one _ _ _) ?_))
          case hold => exact rfl
          have t := Turned.setRow HI3.out.h (adrCells fun _ => 0)
          have hlast := t.get (lt_of_blk HI3.out.h)
          have hB := HI3.out.below.trans (t.below (Nat.le_refl _))
          refine bodyPost_ret (results_row_tmp rfl _ _ w.heap.size 23 _ (0, 0) _ rfl hlast Tryd.underlying23 rfl HZ.out) rfl ⟨?_, hB⟩
          rw [HR.out]; rfl)
end Go.Proofs.YtepoaapadalnoaaDoor
