/- A datagram whole, if nothing is missing: the walk. No condition but that it has parts. (Written out by exp.py of YtjldcblklbikaaaFO.in.) -/
import Derived.Test.YtjldcblklbikaaaFM
import Derived.Test.YtjldcblklbikaaaPlainP
import Derived.Deep.WholeRow
namespace Go.Proofs.Ytjldcblklbikaaa
open Go.RowKit Go.Sort Go.Shelf Go.Lib
set_option linter.unusedVariables false
set_option linter.unusedSimpArgs false
def zeroP : List Value := pkL nilPk none 0
theorem zeroP_length : zeroP.length = 40 := by decide
theorem zeroP_lit : (#[Value.int .u8 0, Value.int .u8 0, Value.int .u8 0, Value.int .u8 0, Value.int .u8 0, Value.int .u8 0, Value.int .u8 0, Value.int .u8 0, Value.int .u8 0, Value.int .u8 0, Value.int .u8 0, Value.int .u8 0, Value.int .u8 0, Value.int .u8 0, Value.int .u8 0, Value.int .u8 0, Value.int .u8 0, Value.int .u8 0, Value.int .u8 0, Value.int .u8 0, Value.int .u8 0, Value.int .u8 0, Value.int .u8 0, Value.int .u8 0, Value.int .u8 0, Value.int .u8 0, Value.int .u8 0, Value.int .u8 0, Value.int .u8 0, Value.int .u8 0, Value.int .u8 0, Value.int .u8 0, Value.int .u8 0, Value.bool false, Value.bool false, Value.int .u32 0, Value.int .u16 0, Value.bool false, Value.int .u8 0, Value.slice none 0 0] : Array Value) = zeroP.toArray := by kernel_rfl
theorem zeroP_one : ∀ v ∈ zeroP, v.oneCell' = true := PkAt.one (x := nilPk) (A := none) (c := 0) ⟨rfl, nilPk_ok⟩
/-- the packet's head of the whole -/
def headP (x : Pk) : Pk := { x with is := false, id := 0, off := 0, more := false, body := [] }
theorem headP_ok {x : Pk} (h : PkOk x) : PkOk (headP x) := ⟨h.src, h.dst, h.src8, h.dst8, h.hops, by show (0 : Nat) < _; omega, by show (0 : Nat) < _; omega, h.next, fun y hy => by cases hy⟩
def WholeNo (P : List Pk) (e : Ending) : Prop := ¬ ((hadN P : Int) = endZ P) ∧ e = .returned (.tuple #[.agg zeroP.toArray, .bool false])
def WholeYes (P : List Pk) (B : Nat) (e : Ending) (w' : World) : Prop := (hadN P : Int) = endZ P ∧ ∃ l y A c, l.Perm P ∧ (l.Pairwise fun a b => frm a ≤ frm b) ∧ joinP l = some y ∧ e = .returned (.tuple #[.agg (pkL y A c).toArray, .bool true]) ∧ PkOk y ∧ BodyAt w' ⟨y, A, c⟩ ∧ (∀ g, A = some ⟨g, 0, none⟩ → B ≤ g) ∧ y.body.length ≤ 100000000
def WholePost (P : List Pk) (w : World) (e : Ending) (w' : World) : Prop := Below w.heap.size w w' ∧ (WholeNo P e ∨ WholeYes P w.heap.size e w')
theorem had_take {L : List El} {k : Nat} {x : El} (h : L[k]? = some x) : hadN ((L.take (k + 1)).map (·.pk)) = hadN ((L.take k).map (·.pk)) + x.pk.body.length := by
  rw [List.take_add_one, h, Option.toList_some, List.map_append, List.map_cons, List.map_nil, hadN_snoc]
theorem end_take {L : List El} {k : Nat} {x : El} (h : L[k]? = some x) : endZ ((L.take (k + 1)).map (·.pk)) = if x.pk.more then endZ ((L.take k).map (·.pk)) else (too x.pk : Int) := by
  rw [List.take_add_one, h, Option.toList_some, List.map_append, List.map_cons, List.map_nil, endZ_snoc]
theorem had_le {L : List El} (h : ∀ e ∈ L, e.pk.body.length ≤ 1000000) (k : Nat) : hadN ((L.take k).map (·.pk)) ≤ k * 1000000 := by
  induction k with
  | zero => rw [Nat.zero_mul]; exact Nat.le_refl _
  | succ k ih =>
    rw [Nat.succ_mul]
    cases hx : L[k]? with
    | none =>
      have e1 : L.take (k + 1) = L.take k := by rw [List.take_add_one, hx]; simp
      rw [e1]; exact Nat.le_trans ih (Nat.le_add_right _ _)
    | some x =>
      rw [had_take hx]
      exact Nat.add_le_add ih (h x (List.mem_of_getElem? hx))
theorem end_le {L : List El} (h : ∀ e ∈ L, PkOk e.pk ∧ e.pk.body.length ≤ 1000000) : ∀ k, -1 ≤ endZ ((L.take k).map (·.pk)) ∧ endZ ((L.take k).map (·.pk)) ≤ 10000000
  | 0 => by simp [endZ]
  | k + 1 => by
    have ih := end_le h k
    cases hx : L[k]? with
    | none =>
      have e1 : L.take (k + 1) = L.take k := by rw [List.take_add_one, hx]; simp
      rw [e1]; exact ih
    | some x =>
      rw [end_take hx]
      have := h x (List.mem_of_getElem? hx)
      have h1 := this.1.off
      have h2 := this.2
      split
      · exact ih
      · unfold too frm; omega
theorem wpList_store_new {P : Program} {ops : Array Oper} {rest : List Oper} {o : Oper} {a : Act} {Q : Exit → Act → World → Prop} (hgd : o.guard = none) (ty : TypeId) (x y : Operand) (ho : o.op = .store ty x y)
    (w : World) (c C : Array Value) (t : TypeId) (hx : a.eval x = .pointer (some ⟨w.heap.size, 0, none⟩)) (hy : a.eval y = .agg C) (hi : (P.info? ty).map (·.size) = some C.size) (hc : c.size = C.size) (h1 : C.all (·.oneCell') = true)
    (h : wpList P ops Q rest (a.put o.dst undef) (w.alloc (.cells C t))) : wpList P ops Q (o :: rest) a (w.alloc (.cells c t)) :=
  wpList_store_row hgd ty x y ho w.heap.size C hx hy t c (heap_alloc_new w _) hi hc h1 (by rw [World.setRow_alloc_new]; exact h)
theorem results_row_tmp {P : Program} {fn : Func} {p u : Tmp} {ty : TypeId} (h : fn.results = #[.cell p ty, .tmp u]) (tmps : Array Value) (w : World) (g : Nat) (t : TypeId) (cs : Array Value) (fr : Nat × Nat) (d : TypeDesc)
    (hp : tmps.getD p undef = .pointer (some ⟨g, 0, none⟩)) (hg : w.heap[g]? = some (.cells cs t fr))
    (hu : P.underlying ty = some d) (hd : (match d with | .struct _ | .array _ _ => true | _ => false) = true) (hi : (P.info? ty).map (·.size) = some cs.size) :
    (results fn tmps).run P w = .ok (.tuple #[.agg cs, tmps.getD u undef]) w := by
  have hp' : tmps[p]?.getD undef = .pointer (some ⟨g, 0, none⟩) := by simpa using hp
  simp [results, h, hp', asAddr, run_loadVar_row w g t ty cs fr d hg hu hd hi]
theorem results_row_tmp2 {P : Program} {fn : Func} {p u v : Tmp} {ty : TypeId} (h : fn.results = #[.cell p ty, .tmp u, .tmp v]) (tmps : Array Value) (w : World) (g : Nat) (t : TypeId) (cs : Array Value) (fr : Nat × Nat) (d : TypeDesc)
    (hp : tmps.getD p undef = .pointer (some ⟨g, 0, none⟩)) (hg : w.heap[g]? = some (.cells cs t fr))
    (hu : P.underlying ty = some d) (hd : (match d with | .struct _ | .array _ _ => true | _ => false) = true) (hi : (P.info? ty).map (·.size) = some cs.size) :
    (results fn tmps).run P w = .ok (.tuple #[.agg cs, tmps.getD u undef, tmps.getD v undef]) w := by
  have hp' : tmps[p]?.getD undef = .pointer (some ⟨g, 0, none⟩) := by simpa using hp
  simp [results, h, hp', asAddr, run_loadVar_row w g t ty cs fr d hg hu hd hi]
def hadK (L : List El) (k : Nat) : Nat := hadN ((L.take k).map (·.pk))
def endK (L : List El) (k : Nat) : Int := endZ ((L.take k).map (·.pk))
theorem head_set {x : Pk} (h : PkOk x) (v : Value) : ((((((pkV x v).toArray.setIfInBounds 34 (.bool false)).setIfInBounds 35 (.int .u32 0)).setIfInBounds 36 (.int .u16 0)).setIfInBounds 37 (.bool false)).setIfInBounds 39 (.slice none 0 0)) = (pkV (headP x) (.slice none 0 0)).toArray := by
  unfold pkV
  rw [show (34 : Nat) = 32 + 2 from rfl, pkT_set h.src h.dst, show (35 : Nat) = 32 + 3 from rfl, pkT_set h.src h.dst, show (36 : Nat) = 32 + 4 from rfl, pkT_set h.src h.dst, show (37 : Nat) = 32 + 5 from rfl, pkT_set h.src h.dst, show (39 : Nat) = 32 + 7 from rfl, pkT_set h.src h.dst]
  rfl
theorem body_set {x : Pk} (h : PkOk x) (v v' : Value) : (pkV x v).toArray.setIfInBounds 39 v' = (pkV x v').toArray := by
  unfold pkV
  rw [show (39 : Nat) = 32 + 7 from rfl, pkT_set h.src h.dst]
  rfl
theorem range_keep {w w' : World} {b o : Nat} {l : List Value} (h : w.rangeAt b o l) (hk : w'.heap[b]? = w.heap[b]?) : w'.rangeAt b o l := fun j v hj => (World.cell?_of_block (w := w) (a := ⟨b, o + j, none⟩) hk).trans (h j v hj)
def bd (M : List El) (j : Nat) : List Nat := (M.take j).flatMap (·.pk.body)
theorem bd_succ {M : List El} {j : Nat} {x : El} (h : M[j]? = some x) : bd M (j + 1) = bd M j ++ x.pk.body := by
  unfold bd; rw [List.take_add_one, h, Option.toList_some, List.flatMap_append]; simp
theorem bd_len (M : List El) (j : Nat) : (bd M j).length = hadK M j := by
  unfold bd hadK hadN; rw [List.length_flatMap, List.map_map]; rfl
def LOOP2 (M : List El) (n : Nat) (x : Pk) (p : Nat) (W4 wr : World) (i : Value) : Prop := ∃ (j : Nat) (v : Value), j ≤ n ∧ i = .int .i64 j ∧ wr.heap[p]? = some (.cells (pkV x v).toArray 43 (0, 0)) ∧ wr.ownsRow W4.heap.size 5 1 v (bd M j).length (row8 (bd M j)) ∧ Kept (· = p) W4 wr
def LOOP1 (L : List El) (n : Nat) (V wr : World) (h z i : Value) : Prop := ∃ k : Nat, k ≤ n ∧ i = .int .i64 k ∧ h = .int .i64 (hadK L k : Int) ∧ z = .int .i64 (endK L k) ∧ Below V.heap.size V wr
set_option maxRecDepth 100000 in
set_option maxHeartbeats 1000000 in
theorem whole42 {d : Dg} (w : World) (h : DgAt w d) (hL : d.L ≠ []) :
    Calls Try.prog 42 #[ptrTo d] w (WholePost (d.L.map (·.pk)) w) := by
  obtain ⟨Z, hZ⟩ : ∃ Z : Array Value, Z = zeroP.toArray := ⟨_, rfl⟩
  have hZ2 := zeroP_lit.trans hZ.symm
  have hal : Below w.heap.size w (w.alloc (.cells Z 43)) := (Below.refl _ _).alloc (Nat.le_refl _) _
  obtain ⟨V, hV⟩ : ∃ V, V = w.alloc (.cells Z 43) := ⟨_, rfl⟩
  rw [← hV] at hal
  have hVs : V.heap.size = w.heap.size + 1 := by rw [hV]; simp
  have hbox : V.heap[w.heap.size]? = some (.cells Z 43 (0, 0)) := by rw [hV]; exact heap_alloc_new w _
  obtain ⟨p, hp⟩ : ∃ p, p = w.heap.size := ⟨_, rfl⟩
  rw [← hp] at hbox hVs
  have hd35 : w.cell? ⟨d.blk, 33 + 2, none⟩ = some d.v := Dg.tail h 2
  obtain ⟨A, c, hv, hP⟩ := own_pks (B := 0) h.own (fun e he => ⟨(h.each e he).1, (h.each e he).2.1.bs, (h.each e he).2.2⟩) (by have := h.many; omega)
  have hm := h.many
  have hown := h.own
  have hdl : d.blk < w.heap.size := lt_of_blk h.blk
  rw [hv] at hd35 hown
  obtain ⟨db, hdb⟩ : ∃ b, b = d.blk := ⟨_, rfl⟩
  have hptr : ptrTo d = .pointer (some ⟨db, 0, none⟩) := by rw [hdb]; rfl
  rw [hptr]
  rw [← hdb] at hd35 hdl
  have hEach := h.each
  obtain ⟨L, hLd⟩ : ∃ L, L = d.L := ⟨_, rfl⟩
  rw [← hLd] at hP hm hown hEach hL hd35 ⊢
  obtain ⟨n, hn⟩ : ∃ n, L.length = n := ⟨_, rfl⟩
  rw [hn] at hd35 hm hown
  have HD : Hid (∀ W, Below V.heap.size V W → W.cell? ⟨db, 35, none⟩ = some (.slice A n c)) := Lib.hid fun W hW => ((hW.cell (p := ⟨db, 35, none⟩) (by show db < _; omega)).trans (hal.cell (p := ⟨db, 35, none⟩) hdl)).trans hd35
  have HPR : Hid (∀ W, Below V.heap.size V W → PksRd W w.heap.size A L) := Lib.hid fun W hW => hP.below (hal.trans (hW.mono (by omega)))
  have hVV := HD.out V (Below.refl _ _)
  have HOW : Hid (∀ W, Below V.heap.size V W → W.ownsRow 0 43 40 (.slice A n c) n (L.flatMap El.cells)) := Lib.hid fun W hW => own_below hown (hal.trans (hW.mono (by omega)))
  have HEACH := Lib.hid hEach
  have HL := Lib.hid hL; have HN := Lib.hid hn
  have HBOX := Lib.hid hbox
  have HAL := Lib.hid hal
  have HSZ := Lib.hid size43
  have HZ := Lib.hid hZ
  have HVS := Lib.hid hVs
  have HPW := Lib.hid hp
  clear hd35 hP hown hEach hL hn hbox hal hdb hptr hv h hLd hZ hVs hdl
  go_enter Try.func42, Try.ntmps42
  go_upto_region 1 with (fail)
  try rw [hZ2]
  rw [← hV, ← hp]
  clear hV hZ2 hp
  go_wp2_with fail
  go_loopw [4, 5, 16] (fun h z i wr => LOOP1 L n V wr h z i) (fun _ _ i _ => n - (intOf i).toNat)
  case atStart => exact ⟨0, Nat.zero_le _, rfl, rfl, rfl, Below.refl _ _⟩
  case round =>
    obtain ⟨k, hk, rfl, rfl, rfl, hW⟩ := hrel
    clear hVV
    by_cases hlt : k < n
    · obtain ⟨x, hx⟩ : ∃ x, L[k]? = some x := ⟨L[k]'(by rw [HN.out]; exact hlt), List.getElem?_eq_getElem _⟩
      have hO := HPR.out wr hW
      obtain ⟨b, o, rfl, hb, hc⟩ := hO.at_ (by rintro rfl; simp at hx)
      have HR := Lib.hid (hc k x hx)
      have hxe := HEACH.out x (List.mem_of_getElem? hx)
      have HXP : Hid (PkAt x.cells x.pk x.adr x.cap) := Lib.hid (El.at_ hxe.1)
      have HX := Lib.hid hx
      have HW := Lib.hid hW
      have HXL := Lib.hid hxe.2.2
      have HHL : Hid (hadK L k ≤ k * 1000000) := Lib.hid (had_le (fun e he => (HEACH.out e he).2.2) k)
      have HHT : Hid (hadK L (k + 1) = hadK L k + x.pk.body.length) := Lib.hid (had_take hx)
      have HET : Hid (endK L (k + 1) = if x.pk.more then endK L k else (too x.pk : Int)) := Lib.hid (end_take hx)
      obtain ⟨P, hPx⟩ : ∃ P, P = x.cells := ⟨_, rfl⟩
      rw [← hPx] at HR HXP
      have HLEN := Lib.hid HXP.out.len
      have HONE := Lib.hid HXP.out.one
      have H37 : Hid (P[37]? = some (.bool x.pk.more)) := Lib.hid (HXP.out.tail 5)
      have H39 : Hid (P[39]? = some (.slice x.adr x.pk.body.length x.cap)) := Lib.hid (HXP.out.tail 7)
      have hhl := HHL.out
      have hxl := HXL.out
      have HB : Hid (BoxAt (wr.alloc (.cells P.toArray 43)) wr.heap.size P) := Lib.hid ⟨heap_alloc_new wr _⟩
      have HWA : Hid (Below V.heap.size V (wr.alloc (.cells P.toArray 43))) := Lib.hid (HW.out.alloc HW.out.size _)
      have HTO : Hid (∀ W, Calls Try.prog 54 #[.agg P.toArray] W (NatPost (too x.pk) W)) := Lib.hid (fun W => to54 W HXP.out (by omega))
      obtain ⟨m, hm'⟩ : ∃ m, m = x.pk.body.length := ⟨_, rfl⟩
      obtain ⟨hk', hhk⟩ : ∃ h, h = hadK L k := ⟨_, rfl⟩
      obtain ⟨ez, hez⟩ : ∃ h, h = endK L k := ⟨_, rfl⟩
      obtain ⟨mo, hmo⟩ : ∃ h, h = x.pk.more := ⟨_, rfl⟩
      obtain ⟨tx, htx⟩ : ∃ h, h = too x.pk := ⟨_, rfl⟩
      rw [← hm'] at H39 HHT hxl
      rw [← hhk] at HHT hhl
      rw [← hez] at HET
      rw [← hmo] at HET H37
      rw [← htx] at HET HTO
      rw [← hhk, ← hez]
      have w1 : IntKind.i64.wrap ((hk' : Int) + m) = (hk' : Int) + m := by rw [show (hk' : Int) + m = ((hk' + m : Nat) : Int) by omega]; exact i64_small (by omega)
      clear hx hO hc hxe hPx hW hm' hhk hez hmo htx
      go_upto_region 5 with (first | (refine wpList_store_new rfl 43 (.tmp 7) (.tmp 19) ?ho wr _ P.toArray 43 ?hx ?hy ?hi ?hc ?h1 ?_; (case ho => with_reducible rfl); (case hx => rfl); (case hy => rfl); (case hi => rw [List.size_toArray, HLEN.out]; exact HSZ.out); (case hc => exact Eq.trans (b := 40) rfl (by rw [List.size_toArray, HLEN.out])); (case h1 => exact all_oneCell_toArray HONE.out)) | (refine wpList_load_mid rfl 43 (.tmp 18) ?ho b (o + k * 40) ?hx P _ ?hr Try.underlying43 rfl ?hi ?_; (case ho => with_reducible rfl); (case hx => rfl); (case hr => exact HR.out); (case hi => rw [HLEN.out]; exact HSZ.out)))
      obtain ⟨W, hWe⟩ : ∃ W, W = wr.alloc (.cells P.toArray 43) := ⟨_, rfl⟩
      have hWs : W.heap.size = wr.heap.size + 1 := by rw [hWe]; simp
      rw [← hWe] at HB HWA
      rw [← hWe]
      have c37 := box_cell HB.out.blk H37.out
      have c39 := box_cell HB.out.blk H39.out
      have HRB := Lib.hid (row_of HB.out.blk)
      clear hWe
      cases mo with
      | true =>
        have HE2 : Hid (endK L (k + 1) = ez) := Lib.hid HET.out
        go_wp2_with fail
        go_roundw
        case rel => exact ⟨k + 1, by omega, by go_num, by rw [HHT.out]; go_num, by rw [HE2.out], HWA.out⟩
        case measure => simp [intOf]; omega
      | false =>
        have HE2 : Hid (endK L (k + 1) = (tx : Int)) := Lib.hid HET.out
        go_wp2_with (first | (refine wpList_load_mid rfl 43 (.tmp 7) ?ho wr.heap.size 0 ?hx P _ ?hr Try.underlying43 rfl ?hi ?_; (case ho => with_reducible rfl); (case hx => rfl); (case hr => exact HRB.out); (case hi => rw [HLEN.out]; exact HSZ.out)))
        refine (HTO.out _).mono ?_
        rintro e w2 ⟨rfl, hb2⟩
        have HW2 : Hid (Below V.heap.size V w2) := Lib.hid (HWA.out.trans (hb2.mono HWA.out.size))
        clear hb2
        go_wp2_with fail
        go_roundw
        case rel => exact ⟨k + 1, by omega, by go_num, by rw [HHT.out]; go_num, by rw [HE2.out], HW2.out⟩
        case measure => simp [intOf]; omega
    · obtain rfl : k = n := by omega
      clear hlt
      have HHK : Hid (hadK L k = hadN (L.map (·.pk))) := Lib.hid (by unfold hadK; rw [← HN.out, List.take_length])
      have HEK : Hid (endK L k = endZ (L.map (·.pk))) := Lib.hid (by unfold endK; rw [← HN.out, List.take_length])
      obtain ⟨H, hH⟩ : ∃ h, h = hadK L k := ⟨_, rfl⟩
      obtain ⟨E, hE⟩ : ∃ h, h = endK L k := ⟨_, rfl⟩
      rw [← hH] at HHK
      rw [← hE] at HEK
      rw [← hH, ← hE]
      have hpV : p < V.heap.size := by have := HVS.out; omega
      have HBX : Hid (wr.heap[p]? = some (.cells zeroP.toArray 43 (0, 0))) := Lib.hid (by rw [hW.block p hpV, ← HZ.out]; exact HBOX.out)
      have HRZ := Lib.hid (row_of HBX.out)
      have HZL := Lib.hid zeroP_length
      have HZ1 := Lib.hid zeroP_one
      have HWW : Hid (Below w.heap.size w wr) := Lib.hid (HAL.out.trans (hW.mono HAL.out.size))
      have d35 := HD.out wr hW
      have HOWr := Lib.hid (HOW.out wr hW)
      have HPRr := Lib.hid (HPR.out wr hW)
      have hwr : V.heap.size ≤ wr.heap.size := hW.size
      clear hH hE hW HD HOW HPR
      by_cases heq : (H : Int) = E
      · have t1 : ((H : Int) == E) = true := by rw [beq_iff_eq]; exact heq
        have HEQ : Hid ((hadN (L.map (·.pk)) : Int) = endZ (L.map (·.pk))) := Lib.hid (by rw [← HHK.out, ← HEK.out]; exact heq)
        have HCL := Lib.hid (clone60p wr (by rw [HN.out]; exact HOWr.out) (fun e he => (HEACH.out e he).1) HL.out (by rw [HN.out]; exact hm))
        rw [HN.out] at HCL
        clear heq
        go_wp2_with fail
        refine (HCL.out).mono ?_
        rintro e w1 ⟨g, cap, rfl, hg1, hb1⟩
        have hgw : wr.heap.size ≤ g := by
          rcases hg1.2 with ⟨e, _⟩ | ⟨g', c', u', e, hb', _⟩
          · cases e
          · cases e; exact hb'
        have HSO := Lib.hid (sort61 (L := L) w1 (by rw [HN.out]; exact hg1) (fun e he => (HEACH.out e he).1) (by rw [HN.out]; omega))
        rw [HN.out] at HSO
        have HB1 := Lib.hid hb1
        clear hg1 hb1 HCL
        go_wp2_with fail
        refine (HSO.out).mono ?_
        rintro e w2 ⟨rfl, M, hM⟩
        have hMl : M.length = k := by rw [hM.perm.length_eq, HN.out]
        have hMpos : 0 < k := by rw [← HN.out]; exact List.length_pos_iff.2 HL.out
        have h0 : M[0]? = some (M[0]'(by omega)) := List.getElem?_eq_getElem _
        generalize M[0]'(by omega) = x0 at h0
        have hx0 := HEACH.out x0 (hM.perm.mem_iff.1 (List.mem_of_getElem? h0))
        have HX0 : Hid (PkAt x0.cells x0.pk x0.adr x0.cap) := Lib.hid (El.at_ hx0.1)
        have HR0 : Hid (w2.rangeAt g 0 x0.cells) := Lib.hid (by have := hM.holds 0 x0 h0; simpa using this)
        obtain ⟨P0, hP0⟩ : ∃ P, P = x0.cells := ⟨_, rfl⟩
        rw [← hP0] at HX0 HR0
        have HL0 := Lib.hid HX0.out.len
        have HO0 := Lib.hid HX0.out.one
        have HM := Lib.hid hM
        have HM0 := Lib.hid h0
        have HXOK := Lib.hid hx0.1
        have hpg : p ≠ g := by omega
        have hpw1 : p < w1.heap.size := by have := HB1.out.size; omega
        have HB2 : Hid (w2.heap[p]? = some (.cells zeroP.toArray 43 (0, 0))) := Lib.hid (((hM.grown.block p hpw1 (fun e => hpg (Option.some.inj e))).trans (HB1.out.block p (by omega))).trans HBX.out)
        clear hM h0 hx0 hP0 HSO
        go_upto_region 14 with (first | (refine wpList_load_mid rfl 43 (.tmp 44) ?ho g 0 ?hx P0 _ ?hr Try.underlying43 rfl ?hi ?_; (case ho => with_reducible rfl); (case hx => rfl); (case hr => exact HR0.out); (case hi => rw [HL0.out]; exact HSZ.out)) | (refine wpList_store_row rfl 43 (.tmp 2) (.tmp 45) ?ho p P0.toArray ?hx ?hy 43 zeroP.toArray HB2.out ?hi ?hc ?h1 ?_; (case ho => with_reducible rfl); (case hx => rfl); (case hy => rfl); (case hi => rw [List.size_toArray, HL0.out]; exact HSZ.out); (case hc => rw [List.size_toArray, List.size_toArray, HL0.out, HZL.out]); (case h1 => exact all_oneCell_toArray HO0.out)))
        have t3 := Turned.setRow HB2.out P0.toArray
        obtain ⟨W3, hW3⟩ : ∃ W, W = w2.setRow p P0.toArray := ⟨_, rfl⟩
        rw [← hW3] at t3 ⊢
        have HB3 := Lib.hid (t3.get (lt_of_blk HB2.out))
        have HT3 := Lib.hid t3
        have HPE : Hid (P0 = pkV x0.pk (.slice x0.adr x0.pk.body.length x0.cap)) := Lib.hid HX0.out.eq
        have b34 := box_cell HB3.out (HX0.out.tail 2)
        have b35 := box_cell HB3.out (HX0.out.tail 3)
        have b36 := box_cell HB3.out (HX0.out.tail 4)
        have b37 := box_cell HB3.out (HX0.out.tail 5)
        have b39 := box_cell HB3.out (HX0.out.tail 7)
        have f34 := frozen_blk HB3.out 34
        have f35 := frozen_blk HB3.out 35
        have f36 := frozen_blk HB3.out 36
        have f37 := frozen_blk HB3.out 37
        have f39 := frozen_blk HB3.out 39
        clear t3 hW3
        go_upto_region 15 with (fail)
        have t34 := Turned.setCell HB3.out 34 (.bool false)
        have t35 := t34.trans (Turned.setCell (t34.get (lt_of_blk HB3.out)) 35 (.int .u32 0))
        have t36 := t35.trans (Turned.setCell (t35.get (lt_of_blk HB3.out)) 36 (.int .u16 0))
        have t37 := t36.trans (Turned.setCell (t36.get (lt_of_blk HB3.out)) 37 (.bool false))
        have t39 := t37.trans (Turned.setCell (t37.get (lt_of_blk HB3.out)) 39 (.slice none 0 0))
        obtain ⟨W4, hW4⟩ : ∃ W, W = (((((W3.setCell ⟨p, 34, none⟩ (.bool false)).setCell ⟨p, 35, none⟩ (.int .u32 0)).setCell ⟨p, 36, none⟩ (.int .u16 0)).setCell ⟨p, 37, none⟩ (.bool false)).setCell ⟨p, 39, none⟩ (.slice none 0 0)) := ⟨_, rfl⟩
        rw [← hW4] at t39 ⊢
        rw [HPE.out, head_set HXOK.out] at t39
        have t4 := HT3.out.trans t39
        have HB4 : Hid (W4.heap[p]? = some (.cells (pkV (headP x0.pk) (.slice none 0 0)).toArray 43 (0, 0))) := Lib.hid (t4.get (lt_of_blk HB2.out))
        have HW4 : Hid (RowKit.Below w.heap.size w W4) := Lib.hid ((((HWW.out.trans (HB1.out.mono HWW.out.size)).grown HM.out.grown (by have := HWW.out.size; have := HB1.out.size; omega) (fun k hk => by cases hk; have := HWW.out.size; omega))).trans (t4.below (by have := HPW.out; omega)))
        have hgs : g < w2.heap.size := by
          obtain ⟨hh, _⟩ := Array.getElem?_eq_some_iff.1 HB2.out
          have h1 := HR0.out 0 (P0[0]'(by rw [HL0.out]; omega)) (List.getElem?_eq_getElem _)
          exact lt_of_cell h1
        have HRG : Hid (∀ j e, M[j]? = some e → W4.rangeAt g (0 + j * 40) e.cells) := Lib.hid fun j e he => range_keep (HM.out.holds j e he) (t4.other (fun e => hpg e.symm))
        have hgW4 : g < W4.heap.size := by rw [t4.size]; exact hgs
        have hpW4 : p < W4.heap.size := lt_of_blk HB4.out
        have HOKH := Lib.hid (headP_ok HXOK.out)
        have HXB : Hid ((headP x0.pk).body = []) := Lib.hid rfl
        have HJ : Hid (∀ l, joinP (M.map (·.pk)) = some l ↔ l = { headP x0.pk with body := bd M k }) := Lib.hid fun l => by
          have h1 : (M.map (·.pk)).head? = some x0.pk := by rw [List.head?_eq_getElem?, List.getElem?_map, HM0.out]; rfl
          have h2 : bd M k = (M.map (·.pk)).flatMap (·.body) := by unfold bd; rw [← hMl, List.take_length, List.flatMap_map]
          unfold joinP
          rw [h1, h2]
          simp [headP, eq_comm]
        obtain ⟨xh, hxh⟩ : ∃ x, x = headP x0.pk := ⟨_, rfl⟩
        rw [← hxh] at HB4 HOKH HJ HXB
        have HPER := Lib.hid HM.out.perm
        have HUP := Lib.hid HM.out.up
        have HMB : Hid (∀ e ∈ M, PkOk e.pk ∧ BodyAt w e ∧ e.pk.body.length ≤ 1000000) := Lib.hid fun e he => HEACH.out e (HPER.out.mem_iff.1 he)
        clear t34 t35 t36 t37 t39 t4 hW4 b34 b35 b36 b37 b39 f34 f35 f36 f37 f39 HT3 HB3 HPE HX0 HR0 HL0 HO0 HM HM0 HXOK HB2 hxh d35 HOWr HPRr HBX HRZ
        go_wp2_with fail
        go_loopw [51] (fun i wr => LOOP2 M k xh p W4 wr i) (fun i _ => k - (intOf i).toNat)
        case atStart => exact ⟨0, .slice none 0 0, Nat.zero_le _, rfl, HB4.out, World.ownsRow_nil _ _ _ _, Kept.refl _ _⟩
        case round =>
          obtain ⟨j, v, hj, rfl, hbx, hown, hkep⟩ := hrel
          have hW2 : RowKit.Below w.heap.size w wr := HW4.out.trans (hkep.below (by have := HW4.out.size; omega) (fun k hk => by have := HPW.out; omega))
          have c39 : wr.cell? ⟨p, 39, none⟩ = some v := box_cell hbx (pkV_tail HOKH.out 7)
          have HBX := Lib.hid hbx; have HOWN := Lib.hid hown; have HKEP := Lib.hid hkep; have HW2 := Lib.hid hW2
          by_cases hlt : j < k
          · obtain ⟨x, hx⟩ : ∃ x, M[j]? = some x := ⟨M[j]'(by rw [hMl]; exact hlt), List.getElem?_eq_getElem _⟩
            have hxe := HMB.out x (List.mem_of_getElem? hx)
            have HR : Hid (wr.rangeAt g (0 + j * 40) x.cells) := Lib.hid (range_keep (HRG.out j x hx) (hkep.block g hgW4 (fun e => hpg e.symm)))
            have HXP : Hid (PkAt x.cells x.pk x.adr x.cap) := Lib.hid (El.at_ hxe.1)
            have hbody := (hxe.2.1.keep (fun g hg => hW2.block g (hxe.2.1.lt hg)) hW2.size).bs
            have HBDS := Lib.hid (bd_succ hx)
            have hbl : (bd M j).length ≤ j * 1000000 := by rw [bd_len]; exact had_le (fun e he => (HMB.out e he).2.2) j
            have hxl := hxe.2.2
            obtain ⟨P, hPx⟩ : ∃ P, P = x.cells := ⟨_, rfl⟩
            rw [← hPx] at HR HXP
            rw [Nat.zero_add] at HR
            have HLEN := Lib.hid HXP.out.len
            have HONE := Lib.hid HXP.out.one
            have H39 : Hid (P[39]? = some (.slice x.adr x.pk.body.length x.cap)) := Lib.hid (HXP.out.tail 7)
            have hsz2 : W4.heap.size ≤ wr.heap.size := hkep.size
            obtain ⟨W, hWe⟩ : ∃ W, W = wr.alloc (.cells P.toArray 43) := ⟨_, rfl⟩
            have hWs : W.heap.size = wr.heap.size + 1 := by rw [hWe]; simp
            have hWB : RowKit.Below wr.heap.size wr W := by rw [hWe]; exact (Below.refl _ _).alloc (Nat.le_refl _) _
            have HBW : Hid (W.heap[wr.heap.size]? = some (.cells P.toArray 43 (0, 0))) := Lib.hid (by rw [hWe]; exact heap_alloc_new wr _)
            have d39 := box_cell HBW.out H39.out
            have e39 : W.cell? ⟨p, 39, none⟩ = some v := (hWB.cell (p := ⟨p, 39, none⟩) (by show p < _; omega)).trans c39
            have HOWN2 := Lib.hid (own_below hown hWB)
            have HBS := Lib.hid ((hbody.below hWB).mono hWB.size)
            have HWB := Lib.hid hWB
            have HBX2 : Hid (W.heap[p]? = some (.cells (pkV xh v).toArray 43 (0, 0))) := Lib.hid ((hWB.block p (by omega)).trans hbx)
            have HWE := Lib.hid hWe
            obtain ⟨l, hl⟩ : ∃ l, l = x.pk.body := ⟨_, rfl⟩
            rw [← hl] at HBS HBDS hxl d39
            obtain ⟨B, hB⟩ : ∃ B, B = bd M j := ⟨_, rfl⟩
            rw [← hB] at HBDS hbl HOWN2
            clear hx hxe hbody hPx hWe hWB hbx hown hkep hW2 c39 hl hB HXP H39
            go_upto_region 18 with (first | (refine wpList_store_new rfl 43 (.tmp 10) (.tmp 54) ?ho wr _ P.toArray 43 ?hx ?hy ?hi ?hc ?h1 ?_; (case ho => with_reducible rfl); (case hx => rfl); (case hy => rfl); (case hi => rw [List.size_toArray, HLEN.out]; exact HSZ.out); (case hc => exact Eq.trans (b := 40) rfl (by rw [List.size_toArray, HLEN.out])); (case h1 => exact all_oneCell_toArray HONE.out)) | (refine wpList_load_mid rfl 43 (.tmp 53) ?ho g (j * 40) ?hx P _ ?hr Try.underlying43 rfl ?hi ?_; (case ho => with_reducible rfl); (case hx => rfl); (case hr => exact HR.out); (case hi => rw [HLEN.out]; exact HSZ.out)))
            rw [← HWE.out]
            go_wp2_with (at_builtin; refine wpList_append_bs rfl _ _ rfl W4.heap.size v B.length (row8 B) rfl HOWN2.out x.adr x.cap l rfl HBS.out ?l1 ?l2 ?_)
            case l1 => omega
            case l2 => omega
            intro v' w5 hown' hgrow hnil
            have hpo : some p ≠ v.ownBlock := fun e => by have := ((HOWN2.out).lt p e.symm).1; omega
            have HB5 : Hid (w5.heap[p]? = some (.cells (pkV xh v).toArray 43 (0, 0))) := Lib.hid ((hgrow.block p (by omega) hpo).trans HBX2.out)
            have g39 : w5.cell? ⟨p, 39, none⟩ = some v := box_cell HB5.out (pkV_tail HOKH.out 7)
            have fg39 := frozen_blk HB5.out 39
            obtain ⟨q2, cq2, hv2, -⟩ := own_slice2 hown'
            have HV2 := Lib.hid hv2
            have ht5 := Turned.setCell HB5.out 39 v'
            rw [body_set HOKH.out] at ht5
            have hown2 : (w5.setCell ⟨p, 39, none⟩ v').ownsRow W4.heap.size 5 1 v' (bd M (j + 1)).length (row8 (bd M (j + 1))) := by
              rw [HBDS.out, List.length_append, row8_append]
              refine own_keep hown' (fun q hq => ht5.other (fun e => ?_))
              subst e
              have := (hown'.lt q hq).1; omega
            have hkp2 : Kept (· = p) W4 (w5.setCell ⟨p, 39, none⟩ v') := by
              refine HKEP.out.trans (G := fun i => i = p ∨ W4.heap.size ≤ i) ?_ (fun i hi hg => hg.resolve_right (by omega))
              refine (Kept.of_below (F := fun i => i = p ∨ W4.heap.size ≤ i) HWB.out (Nat.le_refl _)).trans (G := fun i => i = p ∨ W4.heap.size ≤ i) ?_ (fun i _ h => h)
              exact (Kept.of_grown hgrow (fun q hq => .inr (HOWN2.out.lt q hq).1)).trans (G := fun i => i = p ∨ W4.heap.size ≤ i) (Kept.of_turned ht5 (.inl rfl)) (fun i _ h => h)
            have HR1 : Hid (LOOP2 M k xh p W4 (w5.setCell ⟨p, 39, none⟩ v') (.int .i64 ((j + 1 : Nat) : Int))) := Lib.hid ⟨j + 1, v', by omega, rfl, ht5.get (lt_of_blk HB5.out), hown2, hkp2⟩
            clear hown' hgrow hnil hpo ht5 hown2 hkp2
            rw [hv2] at HR1 ⊢
            clear hv2 HV2
            go_wp2_with fail
            go_roundw
            case rel =>
              have := HR1.out
              rw [show ((j + 1 : Nat) : Int) = (j : Int) + 1 by omega] at this
              exact this
            case measure => simp [intOf]; omega
          · obtain rfl : j = k := by omega
            clear hlt
            obtain ⟨q, c2, rfl, hc2⟩ := own_slice2 HOWN.out
            have HCLP := Lib.hid (clip56 q (bd M j).length c2 hc2 wr)
            have ft39 := frozen_blk HBX.out 39
            have ht5 := Turned.setCell HBX.out 39 (.slice q (bd M j).length (bd M j).length)
            rw [body_set HOKH.out] at ht5
            obtain ⟨W5, hW5⟩ : ∃ W, W = wr.setCell ⟨p, 39, none⟩ (.slice q (bd M j).length (bd M j).length) := ⟨_, rfl⟩
            rw [← hW5] at ht5
            have HT5 := Lib.hid ht5
            have HW5 := Lib.hid hW5
            have HB5 := Lib.hid (ht5.get (lt_of_blk HBX.out))
            have HO5 := Lib.hid (pkV_length (v := .slice q (bd M j).length (bd M j).length) HOKH.out)
            have HN5 := Lib.hid (pkV_one (x := xh) (v := .slice q (bd M j).length (bd M j).length) rfl)
            obtain ⟨PV, hPV⟩ : ∃ P, P = pkV xh (.slice q (bd M j).length (bd M j).length) := ⟨_, rfl⟩
            have HPV := Lib.hid hPV
            rw [← hPV] at HB5 HO5 HN5
            have HR5 := Lib.hid (row_of HB5.out)
            obtain ⟨m, hm'⟩ : ∃ m, m = (bd M j).length := ⟨_, rfl⟩
            have HM5 := Lib.hid hm'
            rw [← hm'] at HCLP hc2 HW5 c39
            clear ht5 hW5 hPV hm' hkep hbx hown hW2
            go_wp2_with fail
            refine (HCLP.out).mono ?_
            rintro e w6 ⟨rfl, rfl⟩
            go_upto_region 21 with (fail)
            rw [← HW5.out]
            go_wp2_with (first | (refine wpList_load_mid rfl 43 (.tmp 2) ?ho p 0 ?hx PV _ ?hr Try.underlying43 rfl ?hi ?_; (case ho => with_reducible rfl); (case hx => rfl); (case hr => exact HR5.out); (case hi => rw [HO5.out]; exact HSZ.out)) | (refine wpList_store_row rfl 43 (.tmp 2) (.tmp 66) ?ho p PV.toArray ?hx ?hy 43 PV.toArray HB5.out ?hi ?hc ?h1 ?_; (case ho => with_reducible rfl); (case hx => rfl); (case hy => rfl); (case hi => rw [List.size_toArray, HO5.out]; exact HSZ.out); (case hc => simp only [List.size_toArray, HO5.out, HO5.out]); (case h1 => exact all_oneCell_toArray HN5.out)))
            have t6 := HT5.out.trans (Turned.setRow HB5.out PV.toArray)
            refine bodyPost_ret (results_row_tmp Try.results42 _ _ p 43 _ (0, 0) _ rfl (t6.get (lt_of_blk HBX.out)) Try.underlying43 rfl (by rw [List.size_toArray, HO5.out]; exact HSZ.out)) rfl ?_
            have hWF : RowKit.Below w.heap.size w (W5.setRow p PV.toArray) := HW2.out.trans (t6.below (by have := HPW.out; omega))
            have hjm : (bd M j).length ≤ j * 1000000 := by rw [bd_len]; exact had_le (fun e he => (HMB.out e he).2.2) j
            have hm2 : m ≤ 32000000 := by rw [HM5.out]; omega
            refine ⟨hWF, .inr ⟨HEQ.out, M.map (·.pk), _, q, m, HPER.out.map _, by rw [List.pairwise_map]; exact HUP.out, (HJ.out _).2 rfl, ?_, ?_, ?_, ?_, ?_⟩⟩
            · rw [HPV.out, HM5.out]; rfl
            · exact ⟨HOKH.out.src, HOKH.out.dst, HOKH.out.src8, HOKH.out.dst8, HOKH.out.hops, HOKH.out.id, HOKH.out.off, HOKH.out.next, fun y hy => by
                obtain ⟨e, he, hy⟩ := List.mem_flatMap.1 hy
                exact (HMB.out e (List.mem_of_mem_take he)).1.body8 y hy⟩
            · have ho6 : (W5.setRow p PV.toArray).ownsRow W4.heap.size 5 1 (.slice q (bd M j).length c2) (bd M j).length (row8 (bd M j)) := own_keep HOWN.out (fun i hi => t6.other (fun e => by have := (HOWN.out.lt i hi).1; omega))
              obtain ⟨A6, c6, e6, hb6, _⟩ := Bs.own ho6
              cases e6
              refine ⟨⟨hb6.rd, by rw [HM5.out]; exact Nat.le_refl _, fun h => ⟨(hb6.nil h).1, by rw [HM5.out, (hb6.nil h).1]; rfl⟩, Nat.le_trans hm2 (by unfold maxLen; omega)⟩, ?_⟩
              rcases ho6.2 with ⟨e, _⟩ | ⟨g6, cap6, cur6, e, hb6, hg6, hn6, hx6, hs6, ht6⟩
              · injection e with e1 e2 e3; exact .inl e1
              · injection e with e1 e2 e3
                exact .inr ⟨g6, cur6, e1, hg6, by show m ≤ cur6.size; have := HM5.out; omega⟩
            · intro g6 e6
              have := (HOWN.out.lt g6 (by rw [e6]; rfl)).1
              have := HW4.out.size
              omega
            · show (bd M j).length ≤ _
              omega
      · have t1 : ((H : Int) == E) = false := by rw [beq_eq_false_iff_ne]; exact heq
        have HNE : Hid (¬ (hadN (L.map (·.pk)) : Int) = endZ (L.map (·.pk))) := Lib.hid (by rw [← HHK.out, ← HEK.out]; exact heq)
        clear heq
        go_wp2_with (first | (refine wpList_load_mid rfl 43 (.tmp 2) ?ho p 0 ?hx zeroP _ ?hr Try.underlying43 rfl ?hi ?_; (case ho => with_reducible rfl); (case hx => rfl); (case hr => exact HRZ.out); (case hi => rw [HZL.out]; exact HSZ.out)) | (refine wpList_store_row rfl 43 (.tmp 2) (.tmp 35) ?ho p zeroP.toArray ?hx ?hy 43 zeroP.toArray HBX.out ?hi ?hc ?h1 ?_; (case ho => with_reducible rfl); (case hx => rfl); (case hy => rfl); (case hi => rw [List.size_toArray, HZL.out]; exact HSZ.out); (case hc => simp only [List.size_toArray, HZL.out, HZL.out]); (case h1 => exact all_oneCell_toArray HZ1.out)))
        have t := Turned.setRow HBX.out zeroP.toArray
        refine bodyPost_ret (results_row_tmp Try.results42 _ _ p 43 _ (0, 0) _ rfl (t.get (lt_of_blk HBX.out)) Try.underlying43 rfl (by rw [List.size_toArray, HZL.out]; exact HSZ.out)) rfl ⟨HWW.out.trans (t.below (by have := HPW.out; omega)), .inl ⟨HNE.out, rfl⟩⟩
end Go.Proofs.Ytjldcblklbikaaa
