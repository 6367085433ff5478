/- The reference: the time goes on: the walk. No condition but that the pool is one. (Written out by exp.py.) -/
import Derived.Test.YtjldcblklbikaaaRJ
import Derived.Test.YtjldcblklbikaaaRM
import Derived.Deep.DeepCutAuto
namespace Go.Proofs.Ytjldcblklbikaaa
open Go.RowKit
set_option linter.unusedVariables false
set_option linter.unusedSimpArgs false
def filt0 (L : List El) : List El := L.filter fun e => e.pk.off == 0
theorem filt0_succ {L : List El} {k : Nat} {e : El} (h : L[k]? = some e) : filt0 (L.take (k + 1)) = filt0 (L.take k) ++ (if e.pk.off = 0 then [e] else []) := by
  unfold filt0
  rw [List.take_add_one, h, List.filter_append]
  by_cases h0 : e.pk.off = 0
  · rw [if_pos h0]; simp [h0]
  · rw [if_neg h0]; simp [h0]
def outR (R : List Dg) (now k : Nat) : List El := (R.take k).flatMap fun d => if decide (d.over ≤ now) then filt0 d.L else []
def leftR (R : List Dg) (now k : Nat) : List Dg := (R.take k).filter fun d => !(decide (d.over ≤ now))
theorem outR_succ {R : List Dg} {now k : Nat} {d : Dg} (h : R[k]? = some d) : outR R now (k + 1) = outR R now k ++ (if decide (d.over ≤ now) then filt0 d.L else []) := by
  unfold outR; rw [List.take_add_one, h]; simp
theorem leftR_succ {R : List Dg} {now k : Nat} {d : Dg} (h : R[k]? = some d) : leftR R now (k + 1) = leftR R now k ++ (if decide (d.over ≤ now) then [] else [d]) := by
  unfold leftR; rw [List.take_add_one, h, List.filter_append]
  by_cases h0 : d.over ≤ now
  · simp [h0]
  · simp [h0]
theorem outR_mem {R : List Dg} {now k : Nat} {e : El} (h : e ∈ outR R now k) : ∃ d ∈ R, e ∈ d.L := by
  obtain ⟨d, hd, he⟩ := List.mem_flatMap.1 h
  split at he
  · exact ⟨d, List.mem_of_mem_take hd, (List.mem_filter.1 he).1⟩
  · cases he
theorem outR_len {R : List Dg} {now k : Nat} (h : ∀ d ∈ R, d.L.length ≤ 32) (h4 : R.length ≤ 4) : (outR R now k).length ≤ 128 := by
  unfold outR
  have key : ∀ M : List Dg, (∀ d ∈ M, d.L.length ≤ 32) → (M.flatMap fun d => if decide (d.over ≤ now) then filt0 d.L else []).length ≤ M.length * 32 := by
    intro M
    induction M with
    | nil => intro _; simp
    | cons d M ih =>
      intro hM
      rw [List.flatMap_cons, List.length_append, List.length_cons]
      have h1 := ih (fun e he => hM e (List.mem_cons_of_mem _ he))
      have h2 : (if decide (d.over ≤ now) then filt0 d.L else []).length ≤ 32 := by
        split
        · exact Nat.le_trans (List.length_filter_le _ _) (hM d List.mem_cons_self)
        · simp
      omega
  have h1 := key (R.take k) (fun d hd => h d (List.mem_of_mem_take hd))
  have h2 : (R.take k).length ≤ 4 := by rw [List.length_take]; omega
  omega
theorem leftR_sub (R : List Dg) (now k : Nat) : ∀ d ∈ leftR R now k, d ∈ R := fun d hd => List.mem_of_mem_take (List.mem_filter.1 hd).1
theorem leftR_len {R : List Dg} {now k : Nat} : (leftR R now k).length ≤ R.length := Nat.le_trans (List.length_filter_le _ _) (by rw [List.length_take]; omega)
/-- what the walk holds behind k datagrams -/
structure RT (w : World) (R : List Dg) (now k : Nat) (O : List El) (vo vl : Value) (W : World) : Prop where
  out : W.ownsRow w.heap.size 43 40 vo O.length (O.flatMap El.cells)
  left : W.ownsRow w.heap.size 81 36 vl (leftR R now k).length ((leftR R now k).flatMap Dg.cells)
  below : Below w.heap.size w W
theorem own_ne81 {w : World} {B n m : Nat} {v u : Value} {xs ys : List Value} (h : w.ownsRow B 43 40 v n xs) (k : w.ownsRow B 81 36 u m ys) : ∀ q, v.ownBlock = some q → u.ownBlock ≠ some q := fun q h1 h2 => by
  obtain ⟨c1, e1⟩ := own_type h h1
  obtain ⟨c2, e2⟩ := own_type k h2
  rw [e1] at e2; cases e2
theorem RT.step {w W W' : World} {R : List Dg} {now k : Nat} {O : List El} {vo vl : Value} (h : RT w R now k O vo vl W) (hb : Below W.heap.size W W') : RT w R now k O vo vl W' := ⟨own_below h.out hb, own_below h.left hb, h.below.trans (hb.mono h.below.size)⟩
theorem own_grown {w w' : World} {B e s n : Nat} {v : Value} {xs : List Value} {r : Option Nat} (h : w.ownsRow B e s v n xs) (hg : w.grownBy w' r) (hr : ∀ q, r = some q → v.ownBlock ≠ some q) : w'.ownsRow B e s v n xs :=
  own_keep h fun k hk => hg.block k (own_lt h hk) (fun e => hr k e.symm hk)
def TickResR (mb : Nat) (rv : Value) (R : List Dg) (now : Nat) (w : World) (e : Ending) (w' : World) : Prop := ∃ rv' A c, e = .returned (.slice A (outR R now R.length).length c) ∧ RefMem mb rv R w w' rv' (R.filter fun d => !(decide (d.over ≤ now))) ∧ PksRd w' w'.heap.size A (outR R now R.length)
theorem wpList_bs1r {P : Program} {ops : Array Oper} {rest : List Oper} {o : Oper} {a : Act} {w : World} {Q : Exit → Act → World → Prop} (hgd : o.guard = none) (t e : TypeId) (len i0 : Nat) (x0 : Operand) (ho : o.op = .buildSlice t len #[(i0, x0)]) (v0 : Value) (h0 : a.eval x0 = v0)
    (cells : Array Value) (ie : TypeInfo) (z : Value)
    (hu : P.underlying t = some (.slice e)) (hie : P.info? e = some ie) (hz : ie.zero = some z) (hsmall : ¬ len * ie.size > 2 ^ 24) (hpos : ¬ len * ie.size = 0)
    (hf : Instr.fill (fun i => some (i * ie.size, ie.size)) ((Array.range (len * ie.size)).map (z.cells[· % z.cells.size]!)) [(i0, v0)] = some cells)
    (h : wpList P ops Q rest (a.put o.dst (.slice (some ⟨w.heap.size, 0, none⟩) len len)) (w.alloc (.cells cells e))) : wpList P ops Q (o :: rest) a w := by
  refine wpList_buildSlice hgd t e len _ ho cells ie z hu hie hz hsmall hpos ?_ h
  have e : ((#[(i0, x0)] : Array (Nat × Operand)).map fun (i, x) => (i, a.eval x)).toList = [(i0, v0)] := by simp [h0]
  rw [e]; exact hf
theorem fillD {d : Dg} {A : Option Addr} {n c : Nat} (h1 : d.src.length = 16) (h2 : d.dst.length = 16) (hv : d.v = .slice A n c) : Instr.fill (fun i => some (i * 36, 36)) ((Array.range (1 * 36)).map ((Value.agg zeroD.toArray).cells[· % (Value.agg zeroD.toArray).cells.size]!)) [(0, .agg d.cells.toArray)] = some d.cells.toArray := by
  obtain ⟨b, s, t, i, o, bd, v, L⟩ := d
  simp only at h1 h2 hv
  subst hv
  obtain ⟨a0, a1, a2, a3, a4, a5, a6, a7, a8, a9, a10, a11, a12, a13, a14, a15, rfl⟩ := list16 h1
  obtain ⟨b0, b1, b2, b3, b4, b5, b6, b7, b8, b9, b10, b11, b12, b13, b14, b15, rfl⟩ := list16 h2
  clear h1 h2
  kernel_rfl
theorem news_at {W : World} {C : List Value} {T : Nat} : ∀ j u, C[j]? = some u → (W.alloc (.cells C.toArray T)).cell? ((⟨W.heap.size, 0, none⟩ : Addr).add j) = some u := by
  intro j u hj
  rw [Addr.add_mid, Nat.zero_add]
  have c := cell_blk (heap_alloc_new W (.cells C.toArray T)) j
  exact c.trans (by simpa using hj)
set_option maxRecDepth 100000 in
set_option maxHeartbeats 4000000 in
theorem tick13 {mb : Nat} {rv : Value} {R : List Dg} {now : Nat} (w : World) (h : RefAt w mb rv R) :
    Calls Try.prog 13 #[.pointer (some ⟨mb, 0, none⟩), .int .u64 (now : Int)] w (TickResR mb rv R now w) := by
  obtain ⟨A, c, hrv, hrow⟩ := h.gets
  have c0 : w.cell? ⟨mb, 0, none⟩ = some (.slice A R.length c) := by rw [cell_blk h.blk, hrv]; rfl
  have HC0 : Hid (∀ W, Below w.heap.size w W → W.cell? ⟨mb, 0, none⟩ = some (.slice A R.length c)) := Lib.hid fun W hW => (hW.cell (p := ⟨mb, 0, none⟩) (lt_of_blk h.blk)).trans c0
  have HROW := Lib.hid hrow
  have HP := Lib.hid h
  have hm := h.four
  obtain ⟨n, hn⟩ : ∃ n, n = R.length := ⟨_, rfl⟩
  have HN := Lib.hid hn
  rw [← hn] at c0 HC0 hm
  have HSZ := Lib.hid size43; have H81 := Lib.hid size81
  clear h hrow hn hrv
  go_enter Try.func13, Try.ntmps13
  go_wp2_with fail
  go_loopw [5, 6, 7] (fun o l i wr => ∃ k : Nat, k ≤ n ∧ i = .int .i64 k ∧ RT w R now k (outR R now k) o l wr) (fun _ _ i _ => n - (intOf i).toNat)
  case atStart => exact ⟨0, Nat.zero_le _, rfl, ⟨World.ownsRow_nil _ _ _ _, World.ownsRow_nil _ _ _ _, Below.refl _ _⟩⟩
  case round =>

    obtain ⟨k, hk, rfl, hT⟩ := hrel
    have c0r := HC0.out _ hT.below
    have HT := Lib.hid hT
    clear hT c0
    by_cases hlt : k < n
    · obtain ⟨d, hd⟩ : ∃ d, R[k]? = some d := ⟨R[k]'(by rw [← HN.out]; exact hlt), List.getElem?_eq_getElem _⟩
      obtain ⟨g, rfl, -, hg, hc⟩ := HROW.out (by rintro h0; rw [h0] at hd; simp at hd)
      have hda := HP.out.each d (List.mem_of_getElem? hd)
      have HDA := Lib.hid hda
      have HDK := Lib.hid hd
      have HR := Lib.hid (range_below (hc k d hd) hg HT.out.below)
      have HOS := Lib.hid (outR_succ (now := now) hd)
      have HLS := Lib.hid (leftR_succ (now := now) hd)
      obtain ⟨A2, c2, hdv, hP2⟩ := own_reads_at (n := 0) (f := El.cells) hda.own (fun e he => (El.at_ (hda.each e he).1).len)
      have HV := Lib.hid hdv
      have HP2 := Lib.hid hP2
      obtain ⟨DC, hDC⟩ : ∃ D, D = d.cells := ⟨_, rfl⟩
      have HDC := Lib.hid hDC
      have HDL : Hid (DC.length = 36) := Lib.hid (by rw [hDC]; exact hda.len)
      have HDO : Hid (∀ v ∈ DC, v.oneCell' = true) := Lib.hid (by
        rw [hDC]; unfold Dg.cells nmL
        intro v hv
        rw [List.append_assoc] at hv
        rcases List.mem_append.1 hv with h | h
        · exact row8_one _ v h
        rw [List.append_assoc] at h
        rcases List.mem_append.1 h with h | h
        · exact row8_one _ v h
        · simp only [List.cons_append, List.nil_append, List.mem_cons, List.not_mem_nil, or_false] at h
          rcases h with rfl | rfl | rfl | rfl
          · rfl
          · rfl
          · rfl
          · rw [hdv]; rfl)
      have HD33 : Hid (DC[33]? = some (.int .u64 (d.over : Int))) := Lib.hid (by rw [hDC]; exact hda.tail 0)
      have HD35 : Hid (DC[35]? = some (.slice A2 d.L.length c2)) := Lib.hid (by rw [hDC, ← hdv]; exact hda.tail 2)
      rw [← hDC] at HR
      have h32 := hda.many
      obtain ⟨m, hm'⟩ : ∃ m, m = d.L.length := ⟨_, rfl⟩
      have HM := Lib.hid hm'
      rw [← hm'] at HD35 h32
      obtain ⟨ov, hov⟩ : ∃ m, m = d.over := ⟨_, rfl⟩
      have HOV := Lib.hid hov
      rw [← hov] at HD33
      obtain ⟨W1, hW1⟩ : ∃ W, W = wr.alloc (.cells DC.toArray 81) := ⟨_, rfl⟩
      have HWA : Hid (Below wr.heap.size wr W1) := Lib.hid (by rw [hW1]; exact (Below.refl _ _).alloc (Nat.le_refl _) _)
      obtain ⟨b8, hb8⟩ : ∃ b, b = wr.heap.size := ⟨_, rfl⟩
      have HB8 : Hid (W1.heap[b8]? = some (.cells DC.toArray 81 (0, 0))) := Lib.hid (by rw [hb8, hW1]; exact heap_alloc_new wr _)
      have HW1E : Hid (wr.alloc (.cells DC.toArray 81) = W1) := Lib.hid hW1.symm
      have HB8E : Hid (wr.heap.size = b8) := Lib.hid hb8.symm
      have HT1 := Lib.hid (HT.out.step HWA.out)
      have e33 := box_cell HB8.out HD33.out
      have HRB := Lib.hid (row_of HB8.out)
      clear hd hda hc hg hdv hP2 hDC hm' hov hW1 hb8
      go_upto_region 7 with (first | (refine wpList_store_new rfl 81 (.tmp 8) (.tmp 25) ?ho _ _ DC.toArray 81 ?hx ?hy ?hi ?hc ?h1 ?_; (case ho => with_reducible rfl); (case hx => rfl); (case hy => rfl); (case hi => rw [List.size_toArray, HDL.out]; exact H81.out); (case hc => exact Eq.trans (b := 36) rfl (by rw [List.size_toArray, HDL.out])); (case h1 => exact all_oneCell_toArray HDO.out)) | (refine wpList_load_mid rfl 81 (.tmp 24) ?ho g (k * 36) ?hx DC _ ?hr Try.underlying81 rfl ?hi ?_; (case ho => with_reducible rfl); (case hx => rfl); (case hr => exact HR.out); (case hi => rw [HDL.out]; exact H81.out); (try simp only [Act.put, List.setIfInBounds_toArray, List.set_cons_zero, List.set_cons_succ])))
      rw [HW1E.out, HB8E.out]
      by_cases hle : ov ≤ now
      · have t1 : ¬ (ov : Int) > now := by omega
        have HO2 : Hid (outR R now (k + 1) = outR R now k ++ filt0 d.L) := Lib.hid (by rw [HOS.out, ← HOV.out, decide_eq_true hle]; simp)
        have HL2 : Hid (leftR R now (k + 1) = leftR R now k) := Lib.hid (by rw [HLS.out, ← HOV.out, decide_eq_true hle]; simp)
        clear hle
        go_wp2_with fail
        go_loopw [5, 9] (fun o i wr => ∃ j : Nat, j ≤ m ∧ i = .int .i64 j ∧ RT w R now k (outR R now k ++ filt0 (d.L.take j)) o u6 wr ∧ wr.heap[b8]? = some (.cells DC.toArray 81 (0, 0))) (fun _ i _ => m - (intOf i).toNat)
        case atStart => exact ⟨0, Nat.zero_le _, rfl, by have := HT1.out; simpa [filt0] using this, HB8.out⟩
        case round =>
          obtain ⟨j, hj, rfl, hT, hx8⟩ := hrel
          have HTJ := Lib.hid hT
          have HX8 := Lib.hid hx8
          have d35 := box_cell hx8 HD35.out
          clear hT hx8 c0r e33
          by_cases hjm : j < m
          · obtain ⟨x, hx⟩ : ∃ x, d.L[j]? = some x := ⟨d.L[j]'(by rw [← HM.out]; exact hjm), List.getElem?_eq_getElem _⟩
            obtain ⟨g3, rfl, -, hg3, hc3⟩ := HP2.out (by rintro h0; rw [h0] at hx; simp at hx)
            have HFS := Lib.hid (filt0_succ hx)
            have hxe := HDA.out.each x (List.mem_of_getElem? hx)
            have HXP : Hid (PkAt x.cells x.pk x.adr x.cap) := Lib.hid (El.at_ hxe.1)
            have hrx := range_below (hc3 j x hx) hg3 HTJ.out.below
            obtain ⟨P, hPx⟩ : ∃ P, P = x.cells := ⟨_, rfl⟩
            have HPX := Lib.hid hPx
            rw [← hPx] at HXP hrx
            have HR3 := Lib.hid hrx
            have HLP := Lib.hid HXP.out.len
            have HOP := Lib.hid HXP.out.one
            obtain ⟨xo, hxo⟩ : ∃ o, o = x.pk.off := ⟨_, rfl⟩
            have e36 := hrx 36 _ (HXP.out.tail 4)
            rw [← hxo] at e36 HFS
            have HFILL : Hid (Instr.fill (fun i => some (i * 40, 40)) ((Array.range (1 * 40)).map ((Value.agg (pkL nilPk none 0).toArray).cells[· % (Value.agg (pkL nilPk none 0).toArray).cells.size]!)) [(0, .agg P.toArray)] = some P.toArray) := Lib.hid (by rw [HXP.out.eq, ← pkV_eq]; exact fill43 hxe.1.src hxe.1.dst rfl)
            clear hx hg3 hc3 hxe hPx hxo hrx
            by_cases h0 : xo = 0
            · have t2 : ((xo : Int) == 0) = true := by rw [beq_iff_eq]; omega
              have HF2 : Hid (filt0 (d.L.take (j + 1)) = filt0 (d.L.take j) ++ [x]) := Lib.hid (by rw [HFS.out, if_pos h0])
              clear h0
              obtain ⟨qo, co, huo, hco⟩ := own_slice2 HTJ.out.out
              obtain ⟨no, hno⟩ : ∃ n, n = (outR R now k ++ filt0 (d.L.take j)).length := ⟨_, rfl⟩
              have HNO := Lib.hid hno
              have hno2 : no ≤ 200 := by
                rw [hno, List.length_append]
                have h1 := outR_len (now := now) (k := k) (fun d hd => (HP.out.each d hd).many) HP.out.four
                have h2 : (filt0 (d.L.take j)).length ≤ 32 := Nat.le_trans (List.length_filter_le _ _) (by rw [List.length_take]; omega)
                omega
              rw [← hno] at huo
              subst huo
              obtain ⟨i43, hi, hz0, hz1, hz2⟩ := info_parts info43
              have hh : Below wr.heap.size wr (wr.alloc (.cells P.toArray 43)) := (Below.refl _ _).alloc (Nat.le_refl _) _
              have HROWO : Hid ((wr.alloc (.cells P.toArray 43)).ownsRow w.heap.size 43 40 (.slice qo no co) no ((outR R now k ++ filt0 (d.L.take j)).flatMap El.cells)) := Lib.hid (by
                have := own_below HTJ.out.out hh
                rw [← hno] at this; exact this)
              have HROWL := Lib.hid (own_below HTJ.out.left hh)
              have HWB : Hid (Below w.heap.size w (wr.alloc (.cells P.toArray 43))) := Lib.hid (HTJ.out.below.trans (hh.mono HTJ.out.below.size))
              have HC2 := Lib.hid (news_at (W := wr) (C := P) (T := 43))
              have HX9 : Hid ((wr.alloc (.cells P.toArray 43)).heap[b8]? = some (.cells DC.toArray 81 (0, 0))) := Lib.hid ((hh.block b8 (lt_of_blk HX8.out)).trans HX8.out)
              have hbs := HWB.out.size
              obtain ⟨M, hM⟩ : ∃ M, M = outR R now k ++ filt0 (d.L.take j) := ⟨_, rfl⟩
              have HMM := Lib.hid hM
              rw [← hM] at HROWO HNO
              clear hno hh hco hM
              go_wp2_with (first | (refine wpList_load_mid rfl 43 (.tmp 53) ?ho g3 (j * 40) ?hx P _ ?hr Try.underlying43 rfl ?hi ?_; (case ho => with_reducible rfl); (case hx => rfl); (case hr => exact HR3.out); (case hi => rw [HLP.out]; exact HSZ.out); (try simp only [Act.put, List.setIfInBounds_toArray, List.set_cons_zero, List.set_cons_succ])) | (refine wpList_bs1r rfl 46 43 1 0 (.tmp 54) rfl (.agg P.toArray) rfl P.toArray i43 _ Try.underlying46 hi hz0 (by rw [hz1]; decide) (by rw [hz1]; decide) (by rw [hz1]; exact HFILL.out) ?_) | (at_builtin; refine wpList_append_own2 _ rfl _ _ 46 rfl w.heap.size 43 i43 _ 40 80 Try.underlying46 hi hz0 hz1 hz2 (by kernel_rfl) (by decide) (.slice qo no co) no (M.flatMap El.cells) rfl HROWO.out ⟨wr.heap.size, 0, none⟩ 1 1 P (by decide) rfl (by rw [HLP.out]) HC2.out HOP.out (by unfold maxLen; omega) (by omega) hbs ?_))
              intro v' w5 hown' hgrow hwh
              have HNEW : Hid (RT w R now k (outR R now k ++ filt0 (d.L.take (j + 1))) v' u6 w5 ∧ w5.heap[b8]? = some (.cells DC.toArray 81 (0, 0))) := Lib.hid (by
                refine ⟨⟨?_, ?_, ?_⟩, ?_⟩
                · rw [HF2.out, ← List.append_assoc, ← HMM.out, List.length_append, List.flatMap_append, List.flatMap_cons, List.flatMap_nil, List.append_nil, ← HNO.out, ← HPX.out]
                  exact hown'
                · exact own_grown HROWL.out hgrow (fun q hq e => own_ne81 HROWO.out HROWL.out q hq e)
                · exact Go.Proofs.Ytjldcblklbikaaa.Below.grown' HWB.out hgrow hbs (fun q hq => (HROWO.out.lt q hq).1)
                · refine (hgrow.block b8 (lt_of_blk HX9.out) (fun e => ?_)).trans HX9.out
                  obtain ⟨cu, hcu⟩ := own_type HROWO.out e.symm
                  rw [HX9.out] at hcu; cases hcu)
              clear hown' hgrow hwh
              obtain ⟨q2, c2', hv2, -⟩ := own_slice2 HNEW.out.1.out
              rw [hv2] at HNEW ⊢
              clear hv2
              go_wp2_with fail
              go_roundw
              case rel => exact ⟨j + 1, by omega, by go_num, HNEW.out.1, HNEW.out.2⟩
              case measure => simp [intOf]; omega
            · have t2 : ((xo : Int) == 0) = false := by rw [beq_eq_false_iff_ne]; omega
              have HF2 : Hid (filt0 (d.L.take (j + 1)) = filt0 (d.L.take j)) := Lib.hid (by rw [HFS.out, if_neg h0]; simp)
              clear h0
              go_wp2_with fail
              go_roundw
              case rel => exact ⟨j + 1, by omega, by go_num, by rw [HF2.out]; exact HTJ.out, HX8.out⟩
              case measure => simp [intOf]; omega
          · obtain rfl : j = m := by omega
            have HNEW : Hid (RT w R now (k + 1) (outR R now (k + 1)) _ u6 _) := Lib.hid (by
              have := HTJ.out
              rw [HM.out, List.take_length, ← HO2.out] at this
              exact ⟨this.out, by rw [HL2.out]; exact this.left, this.below⟩)
            clear hjm
            go_wp2_with fail
            go_roundw
            case rel => exact ⟨k + 1, by omega, by go_num, HNEW.out⟩
            case measure => simp [intOf]; omega
      · have t1 : (ov : Int) > now := by omega
        have HO2 : Hid (outR R now (k + 1) = outR R now k) := Lib.hid (by rw [HOS.out, ← HOV.out, decide_eq_false hle]; simp)
        have HL2 : Hid (leftR R now (k + 1) = leftR R now k ++ [d]) := Lib.hid (by rw [HLS.out, ← HOV.out, decide_eq_false hle]; simp)
        have HFILL : Hid (Instr.fill (fun i => some (i * 36, 36)) ((Array.range (1 * 36)).map ((Value.agg zeroD.toArray).cells[· % (Value.agg zeroD.toArray).cells.size]!)) [(0, .agg DC.toArray)] = some DC.toArray) := Lib.hid (by rw [HDC.out]; exact fillD HDA.out.src HDA.out.dst HV.out)
        obtain ⟨i81, hi, hz0, hz1, hz2⟩ := info_parts info81
        obtain ⟨ql, cl, hul, hcl⟩ := own_slice2 HT1.out.left
        have HUL := Lib.hid hul
        obtain ⟨nl, hnl⟩ : ∃ n, n = (leftR R now k).length := ⟨_, rfl⟩
        have hnl4 : nl ≤ 4 := by rw [hnl]; have := leftR_len (R := R) (now := now) (k := k); have := HN.out; omega
        have HNL := Lib.hid hnl
        rw [← hnl] at hul
        subst hul
        have h12 : Below W1.heap.size W1 (W1.alloc (.cells DC.toArray 81)) := (Below.refl _ _).alloc (Nat.le_refl _) _
        have HROWL : Hid ((W1.alloc (.cells DC.toArray 81)).ownsRow w.heap.size 81 36 (.slice ql nl cl) nl ((leftR R now k).flatMap Dg.cells)) := Lib.hid (by
          have := own_below HT1.out.left h12
          rw [← hnl] at this; exact this)
        have HROWO := Lib.hid (own_below HT1.out.out h12)
        have HWB : Hid (Below w.heap.size w (W1.alloc (.cells DC.toArray 81))) := Lib.hid (HT1.out.below.trans (h12.mono HT1.out.below.size))
        have HC2 := Lib.hid (news_at (W := W1) (C := DC) (T := 81))
        have hbs := HWB.out.size
        clear hnl hle h12 hcl
        go_wp2_with (first | (refine wpList_load_mid rfl 81 (.tmp 8) ?ho b8 0 ?hx DC _ ?hr Try.underlying81 rfl ?hi ?_; (case ho => with_reducible rfl); (case hx => rfl); (case hr => exact HRB.out); (case hi => rw [HDL.out]; exact H81.out); (try simp only [Act.put, List.setIfInBounds_toArray, List.set_cons_zero, List.set_cons_succ])) | (refine wpList_bs1r rfl 28 81 1 0 (.tmp 31) rfl (.agg DC.toArray) rfl DC.toArray i81 _ Try.underlying28 hi hz0 (by rw [hz1]; decide) (by rw [hz1]; decide) (by rw [hz1]; exact HFILL.out) ?_) | (at_builtin; refine wpList_append_own2 _ rfl _ _ 28 rfl w.heap.size 81 i81 _ 36 80 Try.underlying28 hi hz0 hz1 hz2 (by kernel_rfl) (by decide) (.slice ql nl cl) nl ((leftR R now k).flatMap Dg.cells) rfl HROWL.out ⟨W1.heap.size, 0, none⟩ 1 1 DC (by decide) rfl (by rw [HDL.out]) HC2.out HDO.out (by unfold maxLen; omega) (by omega) hbs ?_))
        intro v' w5 hown' hgrow hwh
        have HNEW : Hid (RT w R now (k + 1) (outR R now (k + 1)) u5 v' w5) := Lib.hid (by
          refine ⟨?_, ?_, ?_⟩
          · rw [HO2.out]
            exact own_grown HROWO.out hgrow (fun q hq e => own_ne81 HROWO.out HROWL.out q e hq)
          · rw [HL2.out, List.length_append, List.flatMap_append, List.flatMap_cons, List.flatMap_nil, List.append_nil, ← HNL.out, ← HDC.out]
            exact hown'
          · exact Go.Proofs.Ytjldcblklbikaaa.Below.grown' HWB.out hgrow hbs (fun q hq => (HROWL.out.lt q hq).1))
        clear hown' hgrow hwh
        obtain ⟨q2, c2', hv2, -⟩ := own_slice2 HNEW.out.left
        rw [hv2] at HNEW ⊢
        clear hv2
        go_wp2_with fail
        go_roundw
        case rel => exact ⟨k + 1, by omega, by go_num, HNEW.out⟩
        case measure => simp [intOf]; omega
    · obtain rfl : k = n := by omega
      clear hlt
      obtain ⟨qo, co, rfl, hco⟩ := own_slice2 HT.out.out
      obtain ⟨ql, cl, rfl, hcl⟩ := own_slice2 HT.out.left
      have HB0 : Hid (wr.heap[mb]? = some (.cells #[rv] 30 (0, 0))) := Lib.hid ((HT.out.below.block mb (lt_of_blk HP.out.blk)).trans HP.out.blk)
      have f0 := frozen_blk HB0.out 0
      have t0 := Turned.setCell HB0.out 0 (.slice ql (leftR R now k).length cl)
      have hset : (#[rv] : Array Value).setIfInBounds 0 (.slice ql (leftR R now k).length cl) = #[.slice ql (leftR R now k).length cl] := rfl
      rw [hset] at t0
      have HT0 := Lib.hid t0
      have c00 : wr.cell? ⟨mb, 0, none⟩ = some rv := by rw [cell_blk HB0.out]; rfl
      clear t0 hset
      go_wp2_with fail
      go_ret
      have hml : mb < w.heap.size := lt_of_blk HP.out.blk
      have e1 : leftR R now k = R.filter fun d => !(decide (d.over ≤ now)) := by unfold leftR; rw [HN.out, List.take_length]
      have e2 : outR R now k = outR R now R.length := by rw [HN.out]
      have hne : ∀ {B e s n : Nat} {v : Value} {xs : List Value}, wr.ownsRow B e s v n xs → w.heap.size ≤ B → (wr.setCell ⟨mb, 0, none⟩ (.slice ql (leftR R now k).length cl)).ownsRow B e s v n xs := fun h hB => own_keep h (fun i hi => HT0.out.other (fun e => by have := (h.lt i hi).1; omega))
      have ho := hne HT.out.out (Nat.le_refl _)
      have hl := hne HT.out.left (Nat.le_refl _)
      have hkept : Kept (fun i => i = mb ∨ rv.ownBlock = some i) w (wr.setCell ⟨mb, 0, none⟩ (.slice ql (leftR R now k).length cl)) := (Kept.of_below HT.out.below (Nat.le_refl _)).trans (G := fun i => i = mb) (Kept.of_turned HT0.out rfl) (fun i _ h => .inl h)
      have hmem : RefMem mb rv R w (wr.setCell ⟨mb, 0, none⟩ (.slice ql (leftR R now k).length cl)) (.slice ql (leftR R now k).length cl) (leftR R now k) := HP.out.re (fun d hd => .inl (leftR_sub R now k d hd)) (by
          unfold leftR
          exact (HP.out.rows.sublist (List.take_sublist _ _)).filter _) (Nat.le_trans leftR_len HP.out.four) hkept (HT0.out.get (lt_of_blk HB0.out)) (own_mono hl (Nat.zero_le _)) (fun g hg => .inr (HT.out.left.lt g hg).1)
      refine ⟨.slice ql (leftR R now k).length cl, qo, co, ?_, ?_, ?_⟩
      · rw [← e2]; rfl
      · rw [← e1]; exact hmem
      · have hall : ∀ e ∈ outR R now k, PkOk e.pk ∧ Bs (wr.setCell ⟨mb, 0, none⟩ (.slice ql (leftR R now k).length cl)) (wr.setCell ⟨mb, 0, none⟩ (.slice ql (leftR R now k).length cl)).heap.size e.adr e.cap e.pk.body ∧ e.pk.body.length ≤ 1000000 := fun e he => by
          obtain ⟨d, hd, hel⟩ := outR_mem he
          have hde := (HP.out.each d hd).each e hel
          refine ⟨hde.1, (hde.2.1.keep (fun g hg => hkept.block g (hde.2.1.lt hg) (fun hf => ?_)) hkept.size).bs, hde.2.2⟩
          have hk5 := (HP.out.each d hd).kdo ⟨e, hel, hg⟩
          rcases hf with rfl | hf
          · have := hk5.one HP.out.kdm; omega
          · have := hk5.one (HP.out.kdr hf); omega
        obtain ⟨A', c', ea, hp⟩ := own_pks ho hall (by have := outR_len (now := now) (k := k) (fun d hd => (HP.out.each d hd).many) HP.out.four; omega)
        cases ea
        rw [← e2]; exact hp
end Go.Proofs.Ytjldcblklbikaaa
