/- A datagram cut into parts: the walk. No condition but that it is shorter than 4000 bytes, and the sizes fewer than 100. (Written out by exp.py.) -/
import Derived.Test.YtjldcblklbikaaaApp2
import Derived.Test.YtjldcblklbikaaaPlainP
import Derived.Deep.DeepCutAuto
namespace Go.Proofs.Ytjldcblklbikaaa
open Go.RowKit
set_option linter.unusedVariables false
set_option linter.unusedSimpArgs false
theorem bs_sub {w : World} {B b o c : Nat} {l : List Nat} (h : Bs w B (some ⟨b, o, none⟩) c l) {x y : Nat} (hxy : x ≤ y) (hy : y ≤ l.length) : Bs w B (some ⟨b, o + x, none⟩) (c - x) ((l.drop x).take (y - x)) := by
  refine ⟨fun hl => ?_, ?_, fun e => (by cases e), (by have := h.max; omega)⟩
  · obtain ⟨b', o', e, hb, hc⟩ := h.rd (by rintro rfl; simp at hl)
    cases e
    refine ⟨b, o + x, rfl, hb, fun k v hv => ?_⟩
    rw [List.getElem?_take] at hv
    split at hv
    · rw [List.getElem?_drop] at hv
      have := hc (x + k) v hv
      rw [← this]; congr 2; omega
    · cases hv
  · have := h.cap
    rw [List.length_take, List.length_drop]; omega
theorem wpList_buildSlice1 {P : Program} {ops : Array Oper} {rest : List Oper} {o : Oper} {a : Act} {w : World} {Q : Exit → Act → World → Prop} (hgd : o.guard = none) (t e : TypeId) (len i0 : Nat) (x0 : Operand) (ho : o.op = .buildSlice t len #[(i0, x0)]) (v0 : Value) (h0 : a.eval x0 = v0)
    (cells : Array Value) (ie : TypeInfo) (z : Value)
    (hu : P.underlying t = some (.slice e)) (hie : P.info? e = some ie) (hz : ie.zero = some z) (hsmall : ¬ len * ie.size > 2 ^ 24) (hpos : ¬ len * ie.size = 0)
    (hf : Instr.fill (fun i => some (i * ie.size, ie.size)) ((Array.range (len * ie.size)).map (z.cells[· % z.cells.size]!)) [(i0, v0)] = some cells)
    (h : wpList P ops Q rest (a.put o.dst (.slice (some ⟨w.heap.size, 0, none⟩) len len)) (w.alloc (.cells cells e))) : wpList P ops Q (o :: rest) a w := by
  refine wpList_buildSlice hgd t e len _ ho cells ie z hu hie hz hsmall hpos ?_ h
  have e : ((#[(i0, x0)] : Array (Nat × Operand)).map fun (i, x) => (i, a.eval x)).toList = [(i0, v0)] := by simp [h0]
  rw [e]; exact hf
theorem part_set {x : Pk} (h : PkOk x) (v : Value) (a b : Nat) (mo : Bool) : (((((pkV x v).toArray.setIfInBounds 34 (.bool true)).setIfInBounds 35 (.int .u32 5)).setIfInBounds 36 (.int .u16 ((a / 8 : Nat) : Int))).setIfInBounds 37 (.bool mo)) = (pkV (partP x a b mo) v).toArray := by
  unfold pkV
  rw [show (34 : Nat) = 32 + 2 from rfl, pkT_set h.src h.dst, show (35 : Nat) = 32 + 3 from rfl, pkT_set h.src h.dst, show (36 : Nat) = 32 + 4 from rfl, pkT_set h.src h.dst, show (37 : Nat) = 32 + 5 from rfl, pkT_set h.src h.dst]
  rfl
theorem partP_ok {x : Pk} (h : PkOk x) (hl : x.body.length ≤ 4000) {a b : Nat} (ha : a ≤ x.body.length) (mo : Bool) : PkOk (partP x a b mo) :=
  ⟨h.src, h.dst, h.src8, h.dst8, h.hops, by show (5 : Nat) < _; omega, by show a / 8 < 65536; omega, h.next, fun y hy => h.body8 y (List.mem_of_mem_drop (List.mem_of_mem_take hy))⟩
/-- the parts in memory -/
structure PartsAt (w W : World) (v : Value) (L : List El) : Prop where
  own : W.ownsRow w.heap.size 43 40 v L.length (L.flatMap El.cells)
  each : ∀ e ∈ L, PkOk e.pk ∧ BodyAt W e ∧ (∀ g, e.adr = some ⟨g, 0, none⟩ → w.heap.size ≤ g) ∧ e.pk.body.length ≤ 4000
  old : Below w.heap.size w W
def CutI (x : Pk) (V wr : World) (v zv : Value) : Prop := ∃ (z : Nat) (L : List El) (C : List Nat), zv = .int .i64 z ∧ CutPre x C (L.map (·.pk)) z ∧ PartsAt V wr v L
def CutRes (x : Pk) (w : World) (e : Ending) (w' : World) : Prop := ∃ L A c at_, CutOf x at_ (L.map (·.pk)) ∧ e = .returned (.slice A L.length c) ∧ PartsAt w w' (.slice A L.length c) L
set_option maxRecDepth 100000 in
set_option maxHeartbeats 4000000 in
theorem cut24 {P : List Value} {x : Pk} {A A2 : Option Addr} {c c2 : Nat} {sz : List Nat} (w : World) (hx : PkAt P x A c) (hb : Bs w w.heap.size A c x.body) (hl : x.body.length ≤ 4000) (hs : RdL w w.heap.size A2 sz) (hsl : sz.length ≤ 100) (hs8 : ∀ y ∈ sz, y < 256) :
    Calls Try.prog 24 #[.agg P.toArray, .slice A2 sz.length c2] w (CutRes x w) := by
  obtain ⟨V, hV⟩ : ∃ V, V = w.alloc (.cells P.toArray 43) := ⟨_, rfl⟩
  have hal : Below w.heap.size w V := by rw [hV]; exact (Below.refl _ _).alloc (Nat.le_refl _) _
  have hbox : V.heap[w.heap.size]? = some (.cells P.toArray 43 (0, 0)) := by rw [hV]; exact heap_alloc_new w _
  have hVs : V.heap.size = w.heap.size + 1 := by rw [hV]; simp
  obtain ⟨b2, hb2⟩ : ∃ b, b = w.heap.size := ⟨_, rfl⟩
  rw [← hb2] at hbox
  have HB2 : Hid (b2 = w.heap.size ∧ V.heap.size = b2 + 1) := Lib.hid ⟨hb2, by omega⟩
  have HBX := Lib.hid hbox
  have HAL := Lib.hid hal
  have HX := Lib.hid hx
  have HLEN := Lib.hid hx.len
  have HONE := Lib.hid hx.one
  have HBS := Lib.hid hb
  have HL := Lib.hid hl
  have HSZ := Lib.hid size43
  have HRS := Lib.hid hs
  have HS8 := Lib.hid hs8
  obtain ⟨ns, hns⟩ : ∃ n, n = sz.length := ⟨_, rfl⟩
  rw [← hns] at hsl ⊢
  have HNS := Lib.hid hns
  clear hal hbox hVs hx hb hl hs hs8 hns
  go_enter Try.func24, Try.ntmps24
  go_upto_region 1 with (fail)
  rw [← hV, ← hb2]
  clear hV hb2
  go_upto_block 0 with (fail)
  go_cut [5, 6] from 7 (fun v z wx => CutI x V wx v z)
  case first =>
    go_wp2_with fail
    go_loopw [5, 6, 7] (fun v z i wr => (∃ k : Nat, k ≤ ns ∧ i = .int .i64 k) ∧ CutI x V wr v z) (fun _ _ i _ => ns - (intOf i).toNat)
    case atStart => exact ⟨⟨0, Nat.zero_le _, rfl⟩, 0, [], [], rfl, CutPre.nil x, ⟨World.ownsRow_nil _ _ _ _, fun e he => (by cases he), Below.refl _ _⟩⟩
    case round =>
      obtain ⟨⟨k, hk, rfl⟩, z, L, C, rfl, hpre, hpa⟩ := hrel
      obtain ⟨Av, cv, rfl, hcv⟩ := own_slice2 hpa.own
      have HCUT : Hid (CutI x V wr (.slice Av L.length cv) (.int .i64 z)) := Lib.hid ⟨z, L, C, rfl, hpre, hpa⟩
      have HPRE := Lib.hid hpre
      have HPA := Lib.hid hpa
      have hz := hpre.le
      have hm := hpre.most
      rw [List.length_map] at hm
      have hbx : wr.heap[b2]? = some (.cells P.toArray 43 (0, 0)) := (hpa.old.block b2 (lt_of_blk HBX.out)).trans HBX.out
      have HBXW := Lib.hid hbx
      have c39 := box_cell hbx (HX.out.tail 7)
      have HBSW : Hid (Bs wr wr.heap.size A c x.body) := Lib.hid (((HBS.out.below HAL.out).mono HAL.out.size).below hpa.old |>.mono hpa.old.size)
      have hl := HL.out
      obtain ⟨m, hm'⟩ : ∃ m, m = x.body.length := ⟨_, rfl⟩
      rw [← hm'] at c39 hz hl
      have HM := Lib.hid hm'
      obtain ⟨nl, hnl⟩ : ∃ n, n = L.length := ⟨_, rfl⟩
      rw [← hnl] at hcv hm HCUT ⊢
      have HNL := Lib.hid hnl
      clear hpre hpa hbx hm' hnl
      by_cases h1 : k < ns
      · have t1 : (k : Int) < ns := by omega
        by_cases h2 : nl < 31
        · have t2 : (nl : Int) < 31 := by omega
          have HLT : Hid (nl < 31) := Lib.hid h2
          obtain ⟨s, hs⟩ : ∃ s, sz[k]? = some s := ⟨sz[k]'(by rw [← HNS.out]; exact h1), List.getElem?_eq_getElem _⟩
          obtain ⟨bs, os, rfl, hbs, hcs⟩ := HRS.out (by rintro rfl; simp at hs)
          have hsw : wr.cell? ⟨bs, os + k, none⟩ = some (.int .u8 (s : Int)) := by
            have h1 := hcs k s hs
            have h2 := (HAL.out.cell (p := ⟨bs, os + k, none⟩) hbs).trans h1
            exact (HPA.out.old.cell (p := ⟨bs, os + k, none⟩) (lt_of_cell h2)).trans h2
          have hs256 := HS8.out s (List.mem_of_getElem? hs)
          obtain ⟨r, hr⟩ : ∃ r, r = s % 9 := ⟨_, rfl⟩
          have e9 : (s : Int).tmod 9 = (r : Int) := by rw [hr]; rfl
          have hr9 : r < 9 := by omega
          have hkns : k < ns := h1
          clear hcs hbs hs h1 h2 hr
          by_cases h3 : z + 8 * (1 + r) < m
          · have t3 : (z : Int) + 8 * (1 + (r : Int)) < m := by omega
            have RB := Lib.hid (row_of HBXW.out)
            go_upto_region 9 with (first | (refine wpList_load_mid rfl 43 (.tmp 2) ?ho b2 0 ?hx P _ ?hr Try.underlying43 rfl ?hi ?_; (case ho => with_reducible rfl); (case hx => rfl); (case hr => exact RB.out); (case hi => rw [HLEN.out]; exact HSZ.out)) | (refine wpList_store_new rfl 43 (.tmp 9) (.tmp 37) ?ho wr _ P.toArray 43 ?hx ?hy ?hi ?hc ?h1 ?_; (case ho => with_reducible rfl); (case hx => rfl); (case hy => rfl); (case hi => rw [List.size_toArray, HLEN.out]; exact HSZ.out); (case hc => exact Eq.trans (b := 40) rfl (by rw [List.size_toArray, HLEN.out])); (case h1 => exact all_oneCell_toArray HONE.out)))
            obtain ⟨W, hW⟩ : ∃ W, W = wr.alloc (.cells P.toArray 43) := ⟨_, rfl⟩
            have hwW : Below wr.heap.size wr W := by rw [hW]; exact (Below.refl _ _).alloc (Nat.le_refl _) _
            have hb9 : W.heap[wr.heap.size]? = some (.cells P.toArray 43 (0, 0)) := by rw [hW]; exact heap_alloc_new wr _
            obtain ⟨b9, hb9e⟩ : ∃ b, b = wr.heap.size := ⟨_, rfl⟩
            rw [← hb9e] at hb9
            rw [← hW, ← hb9e]
            have HWW := Lib.hid hwW; have HB9 := Lib.hid hb9; have HB9E := Lib.hid hb9e
            have d34 := box_cell hb9 (HX.out.tail 2)
            have d35 := box_cell hb9 (HX.out.tail 3)
            have d36 := box_cell hb9 (HX.out.tail 4)
            have d37 := box_cell hb9 (HX.out.tail 5)
            have f34 := frozen_blk hb9 34
            have f35 := frozen_blk hb9 35
            have f36 := frozen_blk hb9 36
            have f37 := frozen_blk hb9 37
            obtain ⟨q, hq⟩ : ∃ q, q = z / 8 := ⟨_, rfl⟩
            have e8 : (z : Int).tdiv 8 = (q : Int) := by rw [hq]; rfl
            have hq5 : q < 65536 := by omega
            have HQ := Lib.hid hq
            clear hW hwW hb9 hb9e hq e9 t1 t2
            go_upto_region 10 with (fail)
            have hP : P = pkV x (.slice A x.body.length c) := HX.out.eq
            have hmx := HM.out
            have t34 := Turned.setCell HB9.out 34 (.bool true)
            have t35 := t34.trans (Turned.setCell (t34.get (lt_of_blk HB9.out)) 35 (.int .u32 5))
            have t36 := t35.trans (Turned.setCell (t35.get (lt_of_blk HB9.out)) 36 (.int .u16 (q : Int)))
            have t37 := t36.trans (Turned.setCell (t36.get (lt_of_blk HB9.out)) 37 (.bool true))
            obtain ⟨W4, hW4⟩ : ∃ W', W' = ((((W.setCell ⟨b9, 34, none⟩ (.bool true)).setCell ⟨b9, 35, none⟩ (.int .u32 5)).setCell ⟨b9, 36, none⟩ (.int .u16 (q : Int))).setCell ⟨b9, 37, none⟩ (.bool true)) := ⟨_, rfl⟩
            rw [← hW4] at t37 ⊢
            rw [hP, HQ.out, part_set HX.out.ok _ z (z + 8 * (1 + r)) true] at t37
            obtain ⟨y, hy⟩ : ∃ y, y = partP x z (z + 8 * (1 + r)) true := ⟨_, rfl⟩
            rw [← hy] at t37
            have HYOK : Hid (PkOk y) := Lib.hid (by rw [hy]; exact partP_ok HX.out.ok HL.out (by omega) true)
            have hyb : y.body = (x.body.drop z).take (8 * (1 + r)) := by rw [hy]; show (x.body.drop z).take (z + 8 * (1 + r) - z) = _; rw [Nat.add_sub_cancel_left]
            have hybl : y.body.length = 8 * (1 + r) := by rw [hyb, List.length_take, List.length_drop]; omega
            obtain ⟨bo, oo, rfl, _, _⟩ := HBSW.out.rd (by intro e; rw [e] at HM; have := HM.out; simp at this; omega)
            have hw4 : W4.heap.size = W.heap.size := t37.size
            have hb9w : b9 < W.heap.size := lt_of_blk HB9.out
            have h4B : Below wr.heap.size wr W4 := HWW.out.trans (t37.below (by have := HB9E.out; omega))
            have HSUB : Hid (Bs W4 W4.heap.size (some ⟨bo, oo + z, none⟩) (c - z) y.body) := Lib.hid (by
              rw [hyb]
              have := bs_sub HBSW.out (x := z) (y := z + 8 * (1 + r)) (by omega) (by omega)
              rw [Nat.add_sub_cancel_left] at this
              exact (this.below h4B).mono h4B.size)
            have HB4 := Lib.hid h4B
            have HX94 := Lib.hid (t37.get (lt_of_blk HB9.out))
            have e39 : W4.cell? ⟨b2, 39, none⟩ = some (.slice (some ⟨bo, oo, none⟩) m c) := (h4B.cell (p := ⟨b2, 39, none⟩) (lt_of_cell c39)).trans c39
            have hmc : m ≤ c := by rw [HM.out]; exact HBSW.out.cap
            have hbig : c < 9223372036854775808 := by have := HBSW.out.max; unfold maxLen at this; omega
            have HYB := Lib.hid hybl
            have HY := Lib.hid hy
            have HWS : Hid (V.heap.size ≤ wr.heap.size ∧ wr.heap.size = b9 ∧ b9 < W4.heap.size) := Lib.hid ⟨HPA.out.old.size, HB9E.out.symm, by omega⟩
            clear hmx t34 t35 t36 t37 d34 d35 d36 d37 f34 f35 f36 f37 hW4 hP hy hyb hybl hw4 hb9w h4B c39 e8 hq5 hsw
            go_wp2_with (at_builtin; refine wpList_append_bs rfl _ _ rfl V.heap.size (.slice none 0 0) 0 [] rfl (World.ownsRow_nil _ _ _ _) (some ⟨bo, oo + z, none⟩) (c - z) y.body ?l0 HSUB.out ?l1 ?l2 ?_)
            case l0 => rw [HYB.out]; go_simp
            case l1 => rw [HYB.out]; omega
            case l2 => have := HWS.out; omega
            intro v' w5 hown hgrow _
            obtain ⟨A3, c3, hv3, hc3⟩ := own_slice2 hown
            have hws := HWS.out
            have h9 : w5.heap[b9]? = some (.cells (pkV y (.slice (some ⟨bo, oo, none⟩) x.body.length c)).toArray 43 (0, 0)) := (hgrow.block b9 hws.2.2 (fun e => by cases e)).trans HX94.out
            have t9 := Turned.setCell h9 39 v'
            rw [body_set HYOK.out] at t9
            have g39 : w5.cell? ⟨b9, 39, none⟩ = some (.slice (some ⟨bo, oo, none⟩) x.body.length c) := box_cell h9 (pkV_tail HYOK.out 7)
            have fg39 := frozen_blk h9 39
            obtain ⟨W6, hW6⟩ : ∃ W, W = w5.setCell ⟨b9, 39, none⟩ v' := ⟨_, rfl⟩
            rw [← hW6] at t9
            have hown6 : W6.ownsRow V.heap.size 5 1 v' y.body.length (row8 y.body) := own_keep hown (fun i hi => t9.other (fun e => by
              obtain ⟨cu, hc⟩ := own_type hown hi
              rw [e, h9] at hc; cases hc))
            rw [hv3] at hown6 t9 hW6 ⊢
            obtain ⟨P3, hP3⟩ : ∃ P, P = pkV y (.slice A3 y.body.length c3) := ⟨_, rfl⟩
            rw [← hP3] at t9
            have HP3 : Hid (PkAt P3 y A3 c3) := Lib.hid ⟨hP3, HYOK.out⟩
            have HOWN6 := Lib.hid hown6
            have HX96 := Lib.hid (t9.get (lt_of_blk h9))
            have hold6 : ∀ i, i < wr.heap.size → W6.heap[i]? = wr.heap[i]? := fun i hi => ((t9.other (by omega)).trans (hgrow.block i (by have := HB4.out.size; omega) (fun e => by cases e))).trans (HB4.out.block i hi)
            have HOLD6 : Hid (Below wr.heap.size wr W6) := Lib.hid ⟨t9.os.trans (hgrow.os.trans HB4.out.os), t9.tape.trans (hgrow.tape.trans HB4.out.tape), t9.output.trans (hgrow.output.trans HB4.out.output), by have := t9.size; have := hgrow.size; omega, hold6⟩
            have HW6 := Lib.hid hW6
            have HPL := Lib.hid HP3.out.len
            have HPO := Lib.hid HP3.out.one
            have HR9 := Lib.hid (row_of HX96.out)
            rw [HM.out.symm] at g39
            clear hown hgrow hv3 h9 t9 hown6 hP3 hold6 hW6 e39 hmc hbig hws
            go_upto_region 11 with (fail)
            rw [← HW6.out]
            have h67 : Below W6.heap.size W6 (W6.alloc (.cells P3.toArray 43)) := (Below.refl _ _).alloc (Nat.le_refl _) _
            have HROW : Hid ((W6.alloc (.cells P3.toArray 43)).ownsRow V.heap.size 43 40 (.slice Av nl cv) nl (L.flatMap El.cells)) := Lib.hid (by
              have h1 := own_below HPA.out.own HOLD6.out
              have h2 := own_below h1 h67
              rw [← HNL.out] at h2
              exact h2)
            have H67 := Lib.hid h67
            have HC2 : Hid (∀ j u, P3[j]? = some u → (W6.alloc (.cells P3.toArray 43)).cell? ((⟨W6.heap.size, 0, none⟩ : Addr).add j) = some u) := Lib.hid (by
              intro j u hj
              rw [Addr.add_mid, Nat.zero_add]
              have c := cell_blk (heap_alloc_new W6 (.cells P3.toArray 43)) j
              exact c.trans (by simpa using hj))
            have HFILL : Hid (Instr.fill (fun i => some (i * 40, 40)) ((Array.range (1 * 40)).map ((Value.agg (pkL nilPk none 0).toArray).cells[· % (Value.agg (pkL nilPk none 0).toArray).cells.size]!)) [(0, .agg P3.toArray)] = some P3.toArray) := Lib.hid (by rw [HP3.out.eq, ← pkV_eq]; exact fill43 HYOK.out.src HYOK.out.dst rfl)
            obtain ⟨i43, hi, hz0, hz1, hz2⟩ := info_parts info43
            have HB6 : Hid (V.heap.size ≤ (W6.alloc (.cells P3.toArray 43)).heap.size) := Lib.hid (by have := HWS.out; have := HOLD6.out.size; have := h67.size; omega)
            clear h67
            go_wp2_with (first | (refine wpList_load_mid rfl 43 (.tmp 9) ?ho b9 0 ?hx P3 _ ?hr Try.underlying43 rfl ?hi ?_; (case ho => with_reducible rfl); (case hx => rfl); (case hr => exact HR9.out); (case hi => rw [HPL.out]; exact HSZ.out)) | (refine wpList_buildSlice1 rfl 46 43 1 0 (.tmp 53) rfl (.agg P3.toArray) rfl P3.toArray i43 _ Try.underlying46 hi hz0 (by rw [hz1]; decide) (by rw [hz1]; decide) (by rw [hz1]; exact HFILL.out) ?_) | (at_builtin; refine wpList_append_own2 _ rfl _ _ 46 rfl V.heap.size 43 i43 _ 40 80 Try.underlying46 hi hz0 hz1 hz2 (by kernel_rfl) (by decide) (.slice Av nl cv) nl (L.flatMap El.cells) rfl HROW.out ⟨W6.heap.size, 0, none⟩ 1 1 P3 (by decide) rfl (by rw [HPL.out]) HC2.out HPO.out (by unfold maxLen; omega) (by omega) HB6.out ?_))
            intro v2 w8 ho hg hwh
            obtain ⟨q2, cq2, hv2, -⟩ := own_slice2 ho
            have HNEW : Hid (CutI x V w8 v2 (.int .i64 ((z + 8 * (1 + r) : Nat) : Int))) := Lib.hid (by
              refine ⟨_, L ++ [⟨y, A3, c3⟩], C ++ [z + 8 * (1 + r)], rfl, ?_, ⟨?_, ?_, ?_⟩⟩
              · rw [List.map_append, List.map_cons, List.map_nil]
                show CutPre x _ (L.map (·.pk) ++ [y]) _
                rw [HY.out]
                exact HPRE.out.snoc (by omega) (by omega) (by have := HM.out; omega) (by rw [List.length_map, ← HNL.out]; exact HLT.out)
              · rw [List.length_append, List.length_singleton, List.flatMap_append, List.flatMap_cons, List.flatMap_nil, List.append_nil, ← HNL.out]
                have := HP3.out.eq
                show w8.ownsRow V.heap.size 43 40 v2 (nl + 1) (L.flatMap El.cells ++ pkL y A3 c3)
                rw [← this]; exact ho
              · have hkeep : ∀ (g : Nat) (cu : Array Value), W6.heap[g]? = some (Obj.cells cu 5 (0, 0)) → w8.heap[g]? = W6.heap[g]? := fun g cu hc => by
                  have h1 := H67.out.block g (lt_of_blk hc)
                  refine (hg.block g (by have := lt_of_blk hc; have := H67.out.size; omega) (fun e => ?_)).trans h1
                  obtain ⟨cu2, hc2⟩ := own_type HROW.out e.symm
                  rw [h1, hc] at hc2; cases hc2
                intro e he
                rcases List.mem_append.1 he with he | he
                · obtain ⟨e1, e2, e3, e4⟩ := HPA.out.each e he
                  have e26 := e2.keep (fun g hg' => HOLD6.out.block g (e2.lt hg')) HOLD6.out.size
                  refine ⟨e1, e26.keep (fun g hg' => ?_) (by have := hg.size; have := H67.out.size; omega), e3, e4⟩
                  obtain ⟨cu, hc⟩ := body_type e26 hg'
                  exact hkeep g cu hc
                · rw [List.mem_singleton] at he; subst he
                  obtain ⟨A6, c6, e6, hb6, _⟩ := Bs.own HOWN6.out
                  cases e6
                  have hb : BodyAt W6 ⟨y, A3, c3⟩ := ⟨hb6, by
                    rcases HOWN6.out.2 with ⟨e, _⟩ | ⟨g6, cap6, cur6, e, hbb, hg6, hn6, hx6, hs6, ht6⟩
                    · injection e with e1 e2 e3; exact .inl e1
                    · injection e with e1 e2 e3
                      exact .inr ⟨g6, cur6, e1, hg6, by show c3 ≤ cur6.size; omega⟩⟩
                  refine ⟨HYOK.out, hb.keep (fun g hg' => ?_) (by have := hg.size; have := H67.out.size; omega), fun g hg' => (HOWN6.out.lt g (by rw [show A3 = some ⟨g, 0, none⟩ from hg']; rfl)).1, by have := HYB.out; show y.body.length ≤ 4000; omega⟩
                  obtain ⟨cu, hc⟩ := body_type hb hg'
                  exact hkeep g cu hc
              · have h1 : Below V.heap.size V (W6.alloc (.cells P3.toArray 43)) := (HPA.out.old.trans (HOLD6.out.mono HPA.out.old.size)).trans (H67.out.mono (by have := HOLD6.out.size; have := HPA.out.old.size; omega))
                exact Below.grown' h1 hg h1.size (fun i hi => (HROW.out.lt i hi).1))
            rw [hv2] at HNEW ⊢
            clear ho hg hwh hv2
            go_wp2_with fail
            have hfit : (z : Int) + 8 * (1 + (r : Int)) = ((z + 8 * (1 + r) : Nat) : Int) := by omega
            go_roundw
            case rel => exact ⟨⟨k + 1, by omega, by go_num⟩, by rw [hfit]; exact HNEW.out⟩
            case measure => simp [intOf]; omega
          · have t3 : ¬ ((z : Int) + 8 * (1 + (r : Int)) < m) := by omega
            go_wp2_with fail
            go_meet
            exact HCUT.out
        · have t2 : ¬ ((nl : Int) < 31) := by omega
          clear h2
          go_wp2_with fail
          go_meet
          exact HCUT.out
      · have t1 : ¬ ((k : Int) < ns) := by omega
        clear h1
        go_wp2_with fail
        go_meet
        exact HCUT.out
  case rest =>
    obtain ⟨z, L, C, rfl, hpre, hpa⟩ := hcut
    obtain ⟨Av, cv, rfl, hcv⟩ := own_slice2 hpa.own
    have HPRE := Lib.hid hpre
    have HPA := Lib.hid hpa
    have hz := hpre.le
    have hm := hpre.most
    rw [List.length_map] at hm
    have hbx : wc.heap[b2]? = some (.cells P.toArray 43 (0, 0)) := (hpa.old.block b2 (lt_of_blk HBX.out)).trans HBX.out
    have HBXW := Lib.hid hbx
    have c39 := box_cell hbx (HX.out.tail 7)
    have HBSW : Hid (Bs wc wc.heap.size A c x.body) := Lib.hid (((HBS.out.below HAL.out).mono HAL.out.size).below hpa.old |>.mono hpa.old.size)
    have hl := HL.out
    obtain ⟨m, hm'⟩ : ∃ m, m = x.body.length := ⟨_, rfl⟩
    rw [← hm'] at c39 hz hl
    have HM := Lib.hid hm'
    obtain ⟨nl, hnl⟩ : ∃ n, n = L.length := ⟨_, rfl⟩
    rw [← hnl] at hcv hm ⊢
    have HNL := Lib.hid hnl
    clear hpre hpa hbx hm' hnl
    have RB := Lib.hid (row_of HBXW.out)
    go_upto_region 14 with (first | (refine wpList_load_mid rfl 43 (.tmp 2) ?ho b2 0 ?hx P _ ?hr Try.underlying43 rfl ?hi ?_; (case ho => with_reducible rfl); (case hx => rfl); (case hr => exact RB.out); (case hi => rw [HLEN.out]; exact HSZ.out)) | (refine wpList_store_new rfl 43 (.tmp 10) (.tmp 59) ?ho wc _ P.toArray 43 ?hx ?hy ?hi ?hc ?h1 ?_; (case ho => with_reducible rfl); (case hx => rfl); (case hy => rfl); (case hi => rw [List.size_toArray, HLEN.out]; exact HSZ.out); (case hc => exact Eq.trans (b := 40) rfl (by rw [List.size_toArray, HLEN.out])); (case h1 => exact all_oneCell_toArray HONE.out)))
    obtain ⟨W, hW⟩ : ∃ W, W = wc.alloc (.cells P.toArray 43) := ⟨_, rfl⟩
    have hwW : Below wc.heap.size wc W := by rw [hW]; exact (Below.refl _ _).alloc (Nat.le_refl _) _
    have hb9 : W.heap[wc.heap.size]? = some (.cells P.toArray 43 (0, 0)) := by rw [hW]; exact heap_alloc_new wc _
    obtain ⟨b9, hb9e⟩ : ∃ b, b = wc.heap.size := ⟨_, rfl⟩
    rw [← hb9e] at hb9
    rw [← hW, ← hb9e]
    have HWW := Lib.hid hwW; have HB9 := Lib.hid hb9; have HB9E := Lib.hid hb9e
    have d34 := box_cell hb9 (HX.out.tail 2)
    have d35 := box_cell hb9 (HX.out.tail 3)
    have d36 := box_cell hb9 (HX.out.tail 4)
    have d37 := box_cell hb9 (HX.out.tail 5)
    have f34 := frozen_blk hb9 34
    have f35 := frozen_blk hb9 35
    have f36 := frozen_blk hb9 36
    have f37 := frozen_blk hb9 37
    obtain ⟨q, hq⟩ : ∃ q, q = z / 8 := ⟨_, rfl⟩
    have e8 : (z : Int).tdiv 8 = (q : Int) := by rw [hq]; rfl
    have hq5 : q < 65536 := by omega
    have HQ := Lib.hid hq
    clear hW hwW hb9 hb9e hq
    go_upto_region 15 with (fail)
    have hP : P = pkV x (.slice A x.body.length c) := HX.out.eq
    have hmx := HM.out
    have t34 := Turned.setCell HB9.out 34 (.bool true)
    have t35 := t34.trans (Turned.setCell (t34.get (lt_of_blk HB9.out)) 35 (.int .u32 5))
    have t36 := t35.trans (Turned.setCell (t35.get (lt_of_blk HB9.out)) 36 (.int .u16 (q : Int)))
    have t37 := t36.trans (Turned.setCell (t36.get (lt_of_blk HB9.out)) 37 (.bool false))
    obtain ⟨W4, hW4⟩ : ∃ W', W' = ((((W.setCell ⟨b9, 34, none⟩ (.bool true)).setCell ⟨b9, 35, none⟩ (.int .u32 5)).setCell ⟨b9, 36, none⟩ (.int .u16 (q : Int))).setCell ⟨b9, 37, none⟩ (.bool false)) := ⟨_, rfl⟩
    rw [← hW4] at t37 ⊢
    rw [hP, HQ.out, part_set HX.out.ok _ z x.body.length false] at t37
    obtain ⟨y, hy⟩ : ∃ y, y = partP x z x.body.length false := ⟨_, rfl⟩
    rw [← hy] at t37
    have HYOK : Hid (PkOk y) := Lib.hid (by rw [hy]; exact partP_ok HX.out.ok HL.out (by omega) false)
    have hyb : y.body = (x.body.drop z).take (x.body.length - z) := by rw [hy]; rfl
    have hybl : y.body.length = m - z := by rw [hyb, List.length_take, List.length_drop]; omega
    have hw4 : W4.heap.size = W.heap.size := t37.size
    have hb9w : b9 < W.heap.size := lt_of_blk HB9.out
    have h4B : Below wc.heap.size wc W4 := HWW.out.trans (t37.below (by have := HB9E.out; omega))
    have HB4 := Lib.hid h4B
    have HX94 := Lib.hid (t37.get (lt_of_blk HB9.out))
    have hmc : m ≤ c := by rw [HM.out]; exact HBSW.out.cap
    have hbig : c < 9223372036854775808 := by have := HBSW.out.max; unfold maxLen at this; omega
    have HYB := Lib.hid hybl
    have HY := Lib.hid hy
    have HYBO := Lib.hid hyb
    have HWS : Hid (V.heap.size ≤ wc.heap.size ∧ wc.heap.size = b9 ∧ b9 < W4.heap.size) := Lib.hid ⟨HPA.out.old.size, HB9E.out.symm, by omega⟩
    clear hmx t34 t35 t36 t37 d34 d35 d36 d37 f34 f35 f36 f37 hW4 hP hy hyb hybl hw4 hb9w e8 hq5
    by_cases hm0 : 0 < m
    · obtain ⟨bo, oo, rfl, _, _⟩ := HBSW.out.rd (by intro e; rw [e] at HM; have := HM.out; simp at this; omega)
      have e39 : W4.cell? ⟨b2, 39, none⟩ = some (.slice (some ⟨bo, oo, none⟩) m c) := (h4B.cell (p := ⟨b2, 39, none⟩) (lt_of_cell c39)).trans c39
      have HSUB : Hid (Bs W4 W4.heap.size (some ⟨bo, oo + z, none⟩) (c - z) y.body) := Lib.hid (by
        rw [HYBO.out]
        have := bs_sub HBSW.out (x := z) (y := x.body.length) (by have := HM.out; omega) (Nat.le_refl _)
        exact (this.below h4B).mono h4B.size)
      have hzm : z < m := by
        have h1 := HPRE.out.low
        have h2 := HPRE.out.cur
        have h3 := HM.out
        by_cases h0 : 0 < (L.map (·.pk)).length
        · have := h1 h0; omega
        · rw [show (L.map (·.pk)).length = 0 by omega] at h2
          have : atF C x.body.length 0 = 0 := rfl
          omega
      clear h4B c39
      go_wp2_with (at_builtin; refine wpList_append_bs rfl _ _ rfl V.heap.size (.slice none 0 0) 0 [] rfl (World.ownsRow_nil _ _ _ _) (some ⟨bo, oo + z, none⟩) (c - z) y.body ?l0 HSUB.out ?l1 ?l2 ?_)
      case l0 => rw [HYB.out]; go_simp
      case l1 => rw [HYB.out]; omega
      case l2 => have := HWS.out; omega
      intro v' w5 hown hgrow _
      obtain ⟨A3, c3, hv3, hc3⟩ := own_slice2 hown
      have hws := HWS.out
      have h9 : w5.heap[b9]? = some (.cells (pkV y (.slice (some ⟨bo, oo, none⟩) x.body.length c)).toArray 43 (0, 0)) := (hgrow.block b9 hws.2.2 (fun e => by cases e)).trans HX94.out
      have t9 := Turned.setCell h9 39 v'
      rw [body_set HYOK.out] at t9
      have g39 : w5.cell? ⟨b9, 39, none⟩ = some (.slice (some ⟨bo, oo, none⟩) x.body.length c) := box_cell h9 (pkV_tail HYOK.out 7)
      have fg39 := frozen_blk h9 39
      obtain ⟨W6, hW6⟩ : ∃ W, W = w5.setCell ⟨b9, 39, none⟩ v' := ⟨_, rfl⟩
      rw [← hW6] at t9
      have hown6 : W6.ownsRow V.heap.size 5 1 v' y.body.length (row8 y.body) := own_keep hown (fun i hi => t9.other (fun e => by
        obtain ⟨cu, hc⟩ := own_type hown hi
        rw [e, h9] at hc; cases hc))
      rw [hv3] at hown6 t9 hW6 ⊢
      obtain ⟨P3, hP3⟩ : ∃ P, P = pkV y (.slice A3 y.body.length c3) := ⟨_, rfl⟩
      rw [← hP3] at t9
      have HP3 : Hid (PkAt P3 y A3 c3) := Lib.hid ⟨hP3, HYOK.out⟩
      have HX96 := Lib.hid (t9.get (lt_of_blk h9))
      have hold6 : ∀ i, i < wc.heap.size → W6.heap[i]? = wc.heap[i]? := fun i hi => ((t9.other (by omega)).trans (hgrow.block i (by have := HB4.out.size; omega) (fun e => by cases e))).trans (HB4.out.block i hi)
      have HOLD6 : Hid (Below wc.heap.size wc W6) := Lib.hid ⟨t9.os.trans (hgrow.os.trans HB4.out.os), t9.tape.trans (hgrow.tape.trans HB4.out.tape), t9.output.trans (hgrow.output.trans HB4.out.output), by have := t9.size; have := hgrow.size; have := HB4.out.size; omega, hold6⟩
      have HW6 := Lib.hid hW6
      have HEL : Hid (BodyAt W6 ⟨y, A3, c3⟩ ∧ ∀ g, A3 = some ⟨g, 0, none⟩ → V.heap.size ≤ g) := Lib.hid (by
        obtain ⟨A6, c6, e6, hb6, _⟩ := Bs.own hown6
        cases e6
        refine ⟨⟨hb6, ?_⟩, fun g hg' => (hown6.lt g (by rw [hg']; rfl)).1⟩
        rcases hown6.2 with ⟨e, _⟩ | ⟨g6, cap6, cur6, e, hbb, hg6, hn6, hx6, hs6, ht6⟩
        · injection e with e1 e2 e3; exact .inl e1
        · injection e with e1 e2 e3
          exact .inr ⟨g6, cur6, e1, hg6, by show c3 ≤ cur6.size; omega⟩)
      rw [HM.out.symm] at g39
      clear hown hgrow hv3 h9 t9 hown6 hP3 hold6 hW6 e39 hmc hbig hws
      go_upto_region 16 with (fail)
      rw [← HW6.out]
      clear g39 fg39
      have HPL := Lib.hid HP3.out.len
      have HPO := Lib.hid HP3.out.one
      have HR9 := Lib.hid (row_of HX96.out)
      have h67 : Below W6.heap.size W6 (W6.alloc (.cells P3.toArray 43)) := (Below.refl _ _).alloc (Nat.le_refl _) _
      have HROW : Hid ((W6.alloc (.cells P3.toArray 43)).ownsRow V.heap.size 43 40 (.slice Av nl cv) nl (L.flatMap El.cells)) := Lib.hid (by
        have h1 := own_below HPA.out.own HOLD6.out
        have h2 := own_below h1 h67
        rw [← HNL.out] at h2
        exact h2)
      have H67 := Lib.hid h67
      have HC2 : Hid (∀ j u, P3[j]? = some u → (W6.alloc (.cells P3.toArray 43)).cell? ((⟨W6.heap.size, 0, none⟩ : Addr).add j) = some u) := Lib.hid (by
        intro j u hj
        rw [Addr.add_mid, Nat.zero_add]
        have c := cell_blk (heap_alloc_new W6 (.cells P3.toArray 43)) j
        exact c.trans (by simpa using hj))
      have HFILL : Hid (Instr.fill (fun i => some (i * 40, 40)) ((Array.range (1 * 40)).map ((Value.agg (pkL nilPk none 0).toArray).cells[· % (Value.agg (pkL nilPk none 0).toArray).cells.size]!)) [(0, .agg P3.toArray)] = some P3.toArray) := Lib.hid (by rw [HP3.out.eq, ← pkV_eq]; exact fill43 HYOK.out.src HYOK.out.dst rfl)
      obtain ⟨i43, hi, hz0, hz1, hz2⟩ := info_parts info43
      have HB6 : Hid (V.heap.size ≤ (W6.alloc (.cells P3.toArray 43)).heap.size) := Lib.hid (by have := HWS.out; have := HOLD6.out.size; have := h67.size; omega)
      clear h67
      go_wp2_with (first | (refine wpList_load_mid rfl 43 (.tmp 10) ?ho b9 0 ?hx P3 _ ?hr Try.underlying43 rfl ?hi ?_; (case ho => with_reducible rfl); (case hx => rfl); (case hr => exact HR9.out); (case hi => rw [HPL.out]; exact HSZ.out)) | (refine wpList_buildSlice1 rfl 46 43 1 0 (.tmp 72) rfl (.agg P3.toArray) rfl P3.toArray i43 _ Try.underlying46 hi hz0 (by rw [hz1]; decide) (by rw [hz1]; decide) (by rw [hz1]; exact HFILL.out) ?_) | (at_builtin; refine wpList_append_own2 _ rfl _ _ 46 rfl V.heap.size 43 i43 _ 40 80 Try.underlying46 hi hz0 hz1 hz2 (by kernel_rfl) (by decide) (.slice Av nl cv) nl (L.flatMap El.cells) rfl HROW.out ⟨W6.heap.size, 0, none⟩ 1 1 P3 (by decide) rfl (by rw [HPL.out]) HC2.out HPO.out (by unfold maxLen; omega) (by omega) HB6.out ?_))
      intro v2 w8 ho hg hwh
      obtain ⟨q2, cq2, hv2, -⟩ := own_slice2 ho
      have HNEW : Hid (CutOf x (atF C x.body.length) ((L ++ [(⟨y, A3, c3⟩ : El)]).map (·.pk)) ∧ PartsAt V w8 v2 (L ++ [(⟨y, A3, c3⟩ : El)]) ∧ (L ++ [(⟨y, A3, c3⟩ : El)]).length = nl + 1) := Lib.hid (by
        refine ⟨?_, ⟨?_, ?_, ?_⟩, by rw [List.length_append, List.length_singleton, HNL.out]⟩
        · rw [List.map_append, List.map_cons, List.map_nil]
          show CutOf x _ (L.map (·.pk) ++ [y])
          rw [HY.out]
          exact HPRE.out.done
        · rw [List.length_append, List.length_singleton, List.flatMap_append, List.flatMap_cons, List.flatMap_nil, List.append_nil, ← HNL.out]
          have := HP3.out.eq
          show w8.ownsRow V.heap.size 43 40 v2 (nl + 1) (L.flatMap El.cells ++ pkL y A3 c3)
          rw [← this]; exact ho
        · have hkeep : ∀ (g : Nat) (cu : Array Value), W6.heap[g]? = some (Obj.cells cu 5 (0, 0)) → w8.heap[g]? = W6.heap[g]? := fun g cu hc => by
            have h1 := H67.out.block g (lt_of_blk hc)
            refine (hg.block g (by have := lt_of_blk hc; have := H67.out.size; omega) (fun e => ?_)).trans h1
            obtain ⟨cu2, hc2⟩ := own_type HROW.out e.symm
            rw [h1, hc] at hc2; cases hc2
          intro e he
          rcases List.mem_append.1 he with he | he
          · obtain ⟨e1, e2, e3, e4⟩ := HPA.out.each e he
            have e26 := e2.keep (fun g hg' => HOLD6.out.block g (e2.lt hg')) HOLD6.out.size
            refine ⟨e1, e26.keep (fun g hg' => ?_) (by have := hg.size; have := H67.out.size; omega), e3, e4⟩
            obtain ⟨cu, hc⟩ := body_type e26 hg'
            exact hkeep g cu hc
          · rw [List.mem_singleton] at he; subst he
            refine ⟨HYOK.out, HEL.out.1.keep (fun g hg' => ?_) (by have := hg.size; have := H67.out.size; omega), HEL.out.2, by have := HYB.out; show y.body.length ≤ 4000; omega⟩
            obtain ⟨cu, hc⟩ := body_type HEL.out.1 hg'
            exact hkeep g cu hc
        · have h1 : Below V.heap.size V (W6.alloc (.cells P3.toArray 43)) := (HPA.out.old.trans (HOLD6.out.mono HPA.out.old.size)).trans (H67.out.mono (by have := HOLD6.out.size; have := HPA.out.old.size; omega))
          exact Below.grown' h1 hg h1.size (fun i hi => (HROW.out.lt i hi).1))
      rw [hv2] at HNEW ⊢
      clear ho hg hwh hv2
      go_wp2_with fail
      go_ret
      have hVw : w.heap.size ≤ V.heap.size := HAL.out.size
      exact ⟨L ++ [(⟨y, A3, c3⟩ : El)], q2, cq2, _, HNEW.out.1, by rw [HNEW.out.2.2]; rfl, by
        rw [HNEW.out.2.2]
        have hp := HNEW.out.2.1
        exact ⟨own_mono hp.own hVw, fun e he => ⟨(hp.each e he).1, (hp.each e he).2.1, fun g hg' => Nat.le_trans hVw ((hp.each e he).2.2.1 g hg'), (hp.each e he).2.2.2⟩, HAL.out.trans (hp.old.mono hVw)⟩⟩
    · obtain rfl : m = 0 := by omega
      obtain rfl : z = 0 := by omega
      have h9 : W4.heap[b9]? = some (.cells (pkV y (.slice A x.body.length c)).toArray 43 (0, 0)) := HX94.out
      have t9 := Turned.setCell h9 39 (.slice none 0 0)
      rw [body_set HYOK.out] at t9
      have g39 : W4.cell? ⟨b9, 39, none⟩ = some (.slice A x.body.length c) := box_cell h9 (pkV_tail HYOK.out 7)
      have fg39 := frozen_blk h9 39
      rw [HM.out.symm] at g39
      obtain ⟨W6, hW6⟩ : ∃ W, W = W4.setCell ⟨b9, 39, none⟩ (.slice none 0 0) := ⟨_, rfl⟩
      rw [← hW6] at t9
      have HW6 := Lib.hid hW6
      have HT9 := Lib.hid t9
      have hyl0 : y.body.length = 0 := by have := HYB.out; omega
      have HYL0 := Lib.hid hyl0
      have hws := HWS.out
      have HOLD6 : Hid (Below wc.heap.size wc W6) := Lib.hid (HB4.out.trans (t9.below (by omega)))
      obtain ⟨P3, hP3⟩ : ∃ P, P = pkV y (.slice none 0 0) := ⟨_, rfl⟩
      rw [← hP3] at t9
      have HX96 := Lib.hid (t9.get (lt_of_blk h9))
      have HP3 : Hid (PkAt P3 y none 0) := Lib.hid ⟨by rw [hP3]; show _ = pkV y (.slice none y.body.length 0); rw [hyl0], HYOK.out⟩
      have HEL : Hid (BodyAt W6 ⟨y, none, 0⟩ ∧ ∀ g, (none : Option Addr) = some ⟨g, 0, none⟩ → V.heap.size ≤ g) := Lib.hid ⟨⟨by
        show Bs W6 W6.heap.size none 0 y.body
        rw [List.length_eq_zero_iff.1 hyl0]
        exact ⟨RdL.nil, Nat.le_refl _, fun _ => ⟨rfl, rfl⟩, Nat.zero_le _⟩, .inl rfl⟩, fun g hg => by cases hg⟩
      clear hP3 hW6 t9 h9 hyl0 hws
      cases A with
      | none =>
        obtain ⟨_, rfl⟩ := HBSW.out.nil rfl
        have e39 : W4.cell? ⟨b2, 39, none⟩ = some (.slice none 0 0) := (h4B.cell (p := ⟨b2, 39, none⟩) (lt_of_cell c39)).trans c39
        clear h4B c39
        go_upto_region 16 with (fail)
        rw [← HW6.out]
        clear g39 fg39 e39
        have HPL := Lib.hid HP3.out.len
        have HPO := Lib.hid HP3.out.one
        have HR9 := Lib.hid (row_of HX96.out)
        have h67 : Below W6.heap.size W6 (W6.alloc (.cells P3.toArray 43)) := (Below.refl _ _).alloc (Nat.le_refl _) _
        have HROW : Hid ((W6.alloc (.cells P3.toArray 43)).ownsRow V.heap.size 43 40 (.slice Av nl cv) nl (L.flatMap El.cells)) := Lib.hid (by
          have h1 := own_below HPA.out.own HOLD6.out
          have h2 := own_below h1 h67
          rw [← HNL.out] at h2
          exact h2)
        have H67 := Lib.hid h67
        have HC2 : Hid (∀ j u, P3[j]? = some u → (W6.alloc (.cells P3.toArray 43)).cell? ((⟨W6.heap.size, 0, none⟩ : Addr).add j) = some u) := Lib.hid (by
          intro j u hj
          rw [Addr.add_mid, Nat.zero_add]
          have c := cell_blk (heap_alloc_new W6 (.cells P3.toArray 43)) j
          exact c.trans (by simpa using hj))
        have HFILL : Hid (Instr.fill (fun i => some (i * 40, 40)) ((Array.range (1 * 40)).map ((Value.agg (pkL nilPk none 0).toArray).cells[· % (Value.agg (pkL nilPk none 0).toArray).cells.size]!)) [(0, .agg P3.toArray)] = some P3.toArray) := Lib.hid (by rw [HP3.out.eq, ← pkV_eq]; exact fill43 HYOK.out.src HYOK.out.dst rfl)
        obtain ⟨i43, hi, hz0, hz1, hz2⟩ := info_parts info43
        have HB6 : Hid (V.heap.size ≤ (W6.alloc (.cells P3.toArray 43)).heap.size) := Lib.hid (by have := HWS.out; have := HOLD6.out.size; have := h67.size; omega)
        clear h67
        go_wp2_with (first | (refine wpList_load_mid rfl 43 (.tmp 10) ?ho b9 0 ?hx P3 _ ?hr Try.underlying43 rfl ?hi ?_; (case ho => with_reducible rfl); (case hx => rfl); (case hr => exact HR9.out); (case hi => rw [HPL.out]; exact HSZ.out)) | (refine wpList_buildSlice1 rfl 46 43 1 0 (.tmp 72) rfl (.agg P3.toArray) rfl P3.toArray i43 _ Try.underlying46 hi hz0 (by rw [hz1]; decide) (by rw [hz1]; decide) (by rw [hz1]; exact HFILL.out) ?_) | (at_builtin; refine wpList_append_own2 _ rfl _ _ 46 rfl V.heap.size 43 i43 _ 40 80 Try.underlying46 hi hz0 hz1 hz2 (by kernel_rfl) (by decide) (.slice Av nl cv) nl (L.flatMap El.cells) rfl HROW.out ⟨W6.heap.size, 0, none⟩ 1 1 P3 (by decide) rfl (by rw [HPL.out]) HC2.out HPO.out (by unfold maxLen; omega) (by omega) HB6.out ?_))
        intro v2 w8 ho hg hwh
        obtain ⟨q2, cq2, hv2, -⟩ := own_slice2 ho
        have HNEW : Hid (CutOf x (atF C x.body.length) ((L ++ [(⟨y, none, 0⟩ : El)]).map (·.pk)) ∧ PartsAt V w8 v2 (L ++ [(⟨y, none, 0⟩ : El)]) ∧ (L ++ [(⟨y, none, 0⟩ : El)]).length = nl + 1) := Lib.hid (by
          refine ⟨?_, ⟨?_, ?_, ?_⟩, by rw [List.length_append, List.length_singleton, HNL.out]⟩
          · rw [List.map_append, List.map_cons, List.map_nil]
            show CutOf x _ (L.map (·.pk) ++ [y])
            rw [HY.out]
            exact HPRE.out.done
          · rw [List.length_append, List.length_singleton, List.flatMap_append, List.flatMap_cons, List.flatMap_nil, List.append_nil, ← HNL.out]
            have := HP3.out.eq
            show w8.ownsRow V.heap.size 43 40 v2 (nl + 1) (L.flatMap El.cells ++ pkL y none 0)
            rw [← this]; exact ho
          · have hkeep : ∀ (g : Nat) (cu : Array Value), W6.heap[g]? = some (Obj.cells cu 5 (0, 0)) → w8.heap[g]? = W6.heap[g]? := fun g cu hc => by
              have h1 := H67.out.block g (lt_of_blk hc)
              refine (hg.block g (by have := lt_of_blk hc; have := H67.out.size; omega) (fun e => ?_)).trans h1
              obtain ⟨cu2, hc2⟩ := own_type HROW.out e.symm
              rw [h1, hc] at hc2; cases hc2
            intro e he
            rcases List.mem_append.1 he with he | he
            · obtain ⟨e1, e2, e3, e4⟩ := HPA.out.each e he
              have e26 := e2.keep (fun g hg' => HOLD6.out.block g (e2.lt hg')) HOLD6.out.size
              refine ⟨e1, e26.keep (fun g hg' => ?_) (by have := hg.size; have := H67.out.size; omega), e3, e4⟩
              obtain ⟨cu, hc⟩ := body_type e26 hg'
              exact hkeep g cu hc
            · rw [List.mem_singleton] at he; subst he
              refine ⟨HYOK.out, HEL.out.1.keep (fun g hg' => ?_) (by have := hg.size; have := H67.out.size; omega), HEL.out.2, by have := HYB.out; show y.body.length ≤ 4000; omega⟩
              obtain ⟨cu, hc⟩ := body_type HEL.out.1 hg'
              exact hkeep g cu hc
          · have h1 : Below V.heap.size V (W6.alloc (.cells P3.toArray 43)) := (HPA.out.old.trans (HOLD6.out.mono HPA.out.old.size)).trans (H67.out.mono (by have := HOLD6.out.size; have := HPA.out.old.size; omega))
            exact Below.grown' h1 hg h1.size (fun i hi => (HROW.out.lt i hi).1))
        rw [hv2] at HNEW ⊢
        clear ho hg hwh hv2
        go_wp2_with fail
        go_ret
        have hVw : w.heap.size ≤ V.heap.size := HAL.out.size
        exact ⟨L ++ [(⟨y, none, 0⟩ : El)], q2, cq2, _, HNEW.out.1, by rw [HNEW.out.2.2]; rfl, by
          rw [HNEW.out.2.2]
          have hp := HNEW.out.2.1
          exact ⟨own_mono hp.own hVw, fun e he => ⟨(hp.each e he).1, (hp.each e he).2.1, fun g hg' => Nat.le_trans hVw ((hp.each e he).2.2.1 g hg'), (hp.each e he).2.2.2⟩, HAL.out.trans (hp.old.mono hVw)⟩⟩
      | some a =>
        have e39 : W4.cell? ⟨b2, 39, none⟩ = some (.slice (some a) 0 c) := (h4B.cell (p := ⟨b2, 39, none⟩) (lt_of_cell c39)).trans c39
        clear h4B c39
        go_upto_region 16 with (fail)
        rw [← HW6.out]
        clear g39 fg39 e39
        have HPL := Lib.hid HP3.out.len
        have HPO := Lib.hid HP3.out.one
        have HR9 := Lib.hid (row_of HX96.out)
        have h67 : Below W6.heap.size W6 (W6.alloc (.cells P3.toArray 43)) := (Below.refl _ _).alloc (Nat.le_refl _) _
        have HROW : Hid ((W6.alloc (.cells P3.toArray 43)).ownsRow V.heap.size 43 40 (.slice Av nl cv) nl (L.flatMap El.cells)) := Lib.hid (by
          have h1 := own_below HPA.out.own HOLD6.out
          have h2 := own_below h1 h67
          rw [← HNL.out] at h2
          exact h2)
        have H67 := Lib.hid h67
        have HC2 : Hid (∀ j u, P3[j]? = some u → (W6.alloc (.cells P3.toArray 43)).cell? ((⟨W6.heap.size, 0, none⟩ : Addr).add j) = some u) := Lib.hid (by
          intro j u hj
          rw [Addr.add_mid, Nat.zero_add]
          have c := cell_blk (heap_alloc_new W6 (.cells P3.toArray 43)) j
          exact c.trans (by simpa using hj))
        have HFILL : Hid (Instr.fill (fun i => some (i * 40, 40)) ((Array.range (1 * 40)).map ((Value.agg (pkL nilPk none 0).toArray).cells[· % (Value.agg (pkL nilPk none 0).toArray).cells.size]!)) [(0, .agg P3.toArray)] = some P3.toArray) := Lib.hid (by rw [HP3.out.eq, ← pkV_eq]; exact fill43 HYOK.out.src HYOK.out.dst rfl)
        obtain ⟨i43, hi, hz0, hz1, hz2⟩ := info_parts info43
        have HB6 : Hid (V.heap.size ≤ (W6.alloc (.cells P3.toArray 43)).heap.size) := Lib.hid (by have := HWS.out; have := HOLD6.out.size; have := h67.size; omega)
        clear h67
        go_wp2_with (first | (refine wpList_load_mid rfl 43 (.tmp 10) ?ho b9 0 ?hx P3 _ ?hr Try.underlying43 rfl ?hi ?_; (case ho => with_reducible rfl); (case hx => rfl); (case hr => exact HR9.out); (case hi => rw [HPL.out]; exact HSZ.out)) | (refine wpList_buildSlice1 rfl 46 43 1 0 (.tmp 72) rfl (.agg P3.toArray) rfl P3.toArray i43 _ Try.underlying46 hi hz0 (by rw [hz1]; decide) (by rw [hz1]; decide) (by rw [hz1]; exact HFILL.out) ?_) | (at_builtin; refine wpList_append_own2 _ rfl _ _ 46 rfl V.heap.size 43 i43 _ 40 80 Try.underlying46 hi hz0 hz1 hz2 (by kernel_rfl) (by decide) (.slice Av nl cv) nl (L.flatMap El.cells) rfl HROW.out ⟨W6.heap.size, 0, none⟩ 1 1 P3 (by decide) rfl (by rw [HPL.out]) HC2.out HPO.out (by unfold maxLen; omega) (by omega) HB6.out ?_))
        intro v2 w8 ho hg hwh
        obtain ⟨q2, cq2, hv2, -⟩ := own_slice2 ho
        have HNEW : Hid (CutOf x (atF C x.body.length) ((L ++ [(⟨y, none, 0⟩ : El)]).map (·.pk)) ∧ PartsAt V w8 v2 (L ++ [(⟨y, none, 0⟩ : El)]) ∧ (L ++ [(⟨y, none, 0⟩ : El)]).length = nl + 1) := Lib.hid (by
          refine ⟨?_, ⟨?_, ?_, ?_⟩, by rw [List.length_append, List.length_singleton, HNL.out]⟩
          · rw [List.map_append, List.map_cons, List.map_nil]
            show CutOf x _ (L.map (·.pk) ++ [y])
            rw [HY.out]
            exact HPRE.out.done
          · rw [List.length_append, List.length_singleton, List.flatMap_append, List.flatMap_cons, List.flatMap_nil, List.append_nil, ← HNL.out]
            have := HP3.out.eq
            show w8.ownsRow V.heap.size 43 40 v2 (nl + 1) (L.flatMap El.cells ++ pkL y none 0)
            rw [← this]; exact ho
          · have hkeep : ∀ (g : Nat) (cu : Array Value), W6.heap[g]? = some (Obj.cells cu 5 (0, 0)) → w8.heap[g]? = W6.heap[g]? := fun g cu hc => by
              have h1 := H67.out.block g (lt_of_blk hc)
              refine (hg.block g (by have := lt_of_blk hc; have := H67.out.size; omega) (fun e => ?_)).trans h1
              obtain ⟨cu2, hc2⟩ := own_type HROW.out e.symm
              rw [h1, hc] at hc2; cases hc2
            intro e he
            rcases List.mem_append.1 he with he | he
            · obtain ⟨e1, e2, e3, e4⟩ := HPA.out.each e he
              have e26 := e2.keep (fun g hg' => HOLD6.out.block g (e2.lt hg')) HOLD6.out.size
              refine ⟨e1, e26.keep (fun g hg' => ?_) (by have := hg.size; have := H67.out.size; omega), e3, e4⟩
              obtain ⟨cu, hc⟩ := body_type e26 hg'
              exact hkeep g cu hc
            · rw [List.mem_singleton] at he; subst he
              refine ⟨HYOK.out, HEL.out.1.keep (fun g hg' => ?_) (by have := hg.size; have := H67.out.size; omega), HEL.out.2, by have := HYB.out; show y.body.length ≤ 4000; omega⟩
              obtain ⟨cu, hc⟩ := body_type HEL.out.1 hg'
              exact hkeep g cu hc
          · have h1 : Below V.heap.size V (W6.alloc (.cells P3.toArray 43)) := (HPA.out.old.trans (HOLD6.out.mono HPA.out.old.size)).trans (H67.out.mono (by have := HOLD6.out.size; have := HPA.out.old.size; omega))
            exact Below.grown' h1 hg h1.size (fun i hi => (HROW.out.lt i hi).1))
        rw [hv2] at HNEW ⊢
        clear ho hg hwh hv2
        go_wp2_with fail
        go_ret
        have hVw : w.heap.size ≤ V.heap.size := HAL.out.size
        exact ⟨L ++ [(⟨y, none, 0⟩ : El)], q2, cq2, _, HNEW.out.1, by rw [HNEW.out.2.2]; rfl, by
          rw [HNEW.out.2.2]
          have hp := HNEW.out.2.1
          exact ⟨own_mono hp.own hVw, fun e he => ⟨(hp.each e he).1, (hp.each e he).2.1, fun g hg' => Nat.le_trans hVw ((hp.each e he).2.2.1 g hg'), (hp.each e he).2.2.2⟩, HAL.out.trans (hp.old.mono hVw)⟩⟩
end Go.Proofs.Ytjldcblklbikaaa
