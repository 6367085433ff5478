/- The reference: is a datagram whole: the walk. No condition but that the parts stand alone. (Written out by exp.py.) -/
import Derived.Test.YtjldcblklbikaaaRG
import Derived.Test.YtjldcblklbikaaaPlainT
import Derived.StillTailTactics
import Derived.Deep.DeepCutAuto
namespace Go.Proofs.Ytjldcblklbikaaa
open Go.RowKit
set_option linter.unusedVariables false
set_option linter.unusedSimpArgs false
/-- the head that the reference has behind k parts -/
def outH (L : List El) (k : Nat) : Pk := match head0 ((L.take k).map (·.pk)) with
  | none => nilPk
  | some x => bareP x []
theorem outH_succ {L : List El} {k : Nat} {x : El} (h : L[k]? = some x) : outH L (k + 1) = if x.pk.off = 0 then bareP x.pk [] else outH L k := by
  have e : L.take (k + 1) = L.take k ++ [x] := by rw [List.take_add_one, h]; rfl
  unfold outH
  rw [e, List.map_append, List.map_cons, List.map_nil, head0_snoc]
  by_cases h0 : x.pk.off = 0
  · rw [if_pos h0, if_pos h0]
  · rw [if_neg h0, if_neg h0]
theorem bare_ok {x : Pk} (h : PkOk x) : PkOk (bareP x []) := ⟨h.src, h.dst, h.src8, h.dst8, h.hops, by show (0 : Nat) < _; omega, by show (0 : Nat) < _; omega, h.next, fun y hy => by cases hy⟩
theorem outH_ok {L : List El} (h : ∀ e ∈ L, PkOk e.pk) : ∀ k, PkOk (outH L k) := by
  intro k
  induction k with
  | zero => exact nilPk_ok
  | succ k ih =>
    by_cases hk : k < L.length
    · rw [outH_succ (List.getElem?_eq_getElem hk)]
      split
      · exact bare_ok (h _ (List.getElem_mem hk))
      · exact ih
    · have : outH L (k + 1) = outH L k := by
        unfold outH
        rw [List.take_of_length_le (by omega : L.length ≤ k + 1), List.take_of_length_le (by omega : L.length ≤ k)]
      rw [this]; exact ih
theorem outH_body (L : List El) (k : Nat) : (outH L k).body = [] := by
  unfold outH; split <;> rfl
theorem zero_pkV : zeroP = pkV nilPk (.slice none 0 0) := rfl
/-- the parts that begin at s, of the first k -/
def selK (L : List El) (k s : Nat) : List Nat := selB ((L.take k).map (·.pk)) s
theorem selK_succ {L : List El} {k s : Nat} {x : El} (h : L[k]? = some x) : selK L (k + 1) s = selK L k s ++ (if frm x.pk = s ∧ 0 < x.pk.body.length then x.pk.body else []) := by
  unfold selK selB
  rw [List.take_add_one, h]; simp
theorem selB_le (M : List Pk) (s : Nat) : (selB M s).length ≤ hadN M := by
  induction M with
  | nil => exact Nat.le_refl _
  | cons x M ih =>
    have e1 : selB (x :: M) s = (if frm x = s ∧ 0 < x.body.length then x.body else []) ++ selB M s := by unfold selB; rw [List.flatMap_cons]
    have e2 : hadN (x :: M) = x.body.length + hadN M := by unfold hadN; simp
    rw [e1, e2, List.length_append]
    split
    · omega
    · rw [List.length_nil]; omega
theorem selK_le {L : List El} (h : ∀ e ∈ L, e.pk.body.length ≤ 1000000) (k s : Nat) : (selK L k s).length ≤ k * 1000000 := Nat.le_trans (selB_le _ _) (had_le h k)
theorem built43 {s d : List Nat} {hp nx : Nat} {al : Bool} (h1 : s.length = 16) (h2 : d.length = 16) : Try.prog.built 43 [(0, .agg (row8 s).toArray), (1, .agg (row8 d).toArray), (2, .int .u8 (hp : Int)), (3, .bool al), (5, .int .u8 (nx : Int))] = some (row8 s ++ (row8 d ++ [Value.int .u8 (hp : Int), Value.bool al, Value.bool false, Value.int .u32 0, Value.int .u16 0, Value.bool false, Value.int .u8 (nx : Int), Value.slice none 0 0])).toArray := by
  obtain ⟨a0, a1, a2, a3, a4, a5, a6, a7, a8, a9, a10, a11, a12, a13, a14, a15, rfl⟩ := list16 h1
  obtain ⟨b0, b1, b2, b3, b4, b5, b6, b7, b8, b9, b10, b11, b12, b13, b14, b15, rfl⟩ := list16 h2
  clear h1 h2
  kernel_rfl
theorem built_bare {x : Pk} (h : PkOk x) : Try.prog.built 43 [(0, .agg (row8 x.src).toArray), (1, .agg (row8 x.dst).toArray), (2, .int .u8 (x.hops : Int)), (3, .bool x.alert), (5, .int .u8 (x.next : Int))] = some (pkV (bareP x []) (.slice none 0 0)).toArray := built43 h.src h.dst
theorem wpList_build5 {P : Program} {ops : Array Oper} {rest : List Oper} {o : Oper} {a : Act} {w : World} {Q : Exit → Act → World → Prop} (hg : o.guard = none) (t : TypeId) (i0 i1 i2 i3 i4 : Nat) (x0 x1 x2 x3 x4 : Operand) (ho : o.op = .build t #[(i0, x0), (i1, x1), (i2, x2), (i3, x3), (i4, x4)])
    (v0 v1 v2 v3 v4 : Value) (h0 : a.eval x0 = v0) (h1 : a.eval x1 = v1) (h2 : a.eval x2 = v2) (h3 : a.eval x3 = v3) (h4 : a.eval x4 = v4) (cs : Array Value) (hf : P.built t [(i0, v0), (i1, v1), (i2, v2), (i3, v3), (i4, v4)] = some cs)
    (h : wpList P ops Q rest (a.put o.dst (.agg cs)) w) : wpList P ops Q (o :: rest) a w := by
  have e : ((#[(i0, x0), (i1, x1), (i2, x2), (i3, x3), (i4, x4)] : Array (Nat × Operand)).map fun (i, x) => (i, a.eval x)).toList = [(i0, v0), (i1, v1), (i2, v2), (i3, v3), (i4, v4)] := by simp [h0, h1, h2, h3, h4]
  exact wpList_build hg t _ ho (by rw [e, hf]; rfl) (by rw [e, hf]; exact h)
theorem wpList_build0 {P : Program} {ops : Array Oper} {rest : List Oper} {o : Oper} {a : Act} {w : World} {Q : Exit → Act → World → Prop} (hg : o.guard = none) (t : TypeId) (ho : o.op = .build t #[]) (cs : Array Value) (hf : P.built t [] = some cs)
    (h : wpList P ops Q rest (a.put o.dst (.agg cs)) w) : wpList P ops Q (o :: rest) a w := by
  have e : ((#[] : Array (Nat × Operand)).map fun (i, x) => (i, a.eval x)).toList = [] := by simp
  exact wpList_build hg t _ ho (by rw [e, hf]; rfl) (by rw [e, hf]; exact h)
theorem built0 : Try.prog.built 43 [] = some zeroP.toArray := by kernel_rfl
def lenAt (W : World) (p : Nat) : Nat := match W.cell? ⟨p, 39, none⟩ with
  | some (.slice _ n _) => n
  | _ => 0
theorem lenAt_of {W : World} {p : Nat} {A : Option Addr} {n c : Nat} (h : W.cell? ⟨p, 39, none⟩ = some (.slice A n c)) : lenAt W p = n := by unfold lenAt; rw [h]
set_option maxRecDepth 100000 in
set_option maxHeartbeats 4000000 in
theorem whole49 {d : Dg} (w : World) (h : RgAt w d) (ha : Alone d.id (d.L.map (·.pk))) :
    Calls Try.prog 49 #[.agg d.cells.toArray] w (WholePost (d.L.map (·.pk)) w) := by
  obtain ⟨Z, hZ⟩ : ∃ Z : List Value, Z = zeroP := ⟨_, rfl⟩
  have hZ2 := zeroP_lit
  rw [← hZ] at hZ2
  have HZL : Hid (Z.length = 40) := Lib.hid (by rw [hZ]; exact zeroP_length)
  have HZ1 : Hid (∀ v ∈ Z, v.oneCell' = true) := Lib.hid (by rw [hZ]; exact zeroP_one)
  obtain ⟨V1, hV1⟩ : ∃ V, V = w.alloc (.cells d.cells.toArray 81) := ⟨_, rfl⟩
  obtain ⟨V2, hV2⟩ : ∃ V, V = V1.alloc (.cells Z.toArray 43) := ⟨_, rfl⟩
  obtain ⟨V, hV⟩ : ∃ V, V = V2.alloc (.cells Z.toArray 43) := ⟨_, rfl⟩
  have h01 : RowKit.Below w.heap.size w V1 := by rw [hV1]; exact (Below.refl _ _).alloc (Nat.le_refl _) _
  have h12 : RowKit.Below V1.heap.size V1 V2 := by rw [hV2]; exact (Below.refl _ _).alloc (Nat.le_refl _) _
  have h23 : RowKit.Below V2.heap.size V2 V := by rw [hV]; exact (Below.refl _ _).alloc (Nat.le_refl _) _
  have s1 : V1.heap.size = w.heap.size + 1 := by rw [hV1]; simp
  have s2 : V2.heap.size = w.heap.size + 2 := by rw [hV2]; simp [s1]
  have s3 : V.heap.size = w.heap.size + 3 := by rw [hV]; simp [s2]
  have hal : RowKit.Below w.heap.size w V := h01.trans ((h12.trans (h23.mono (by omega))).mono (by omega))
  obtain ⟨b1, hb1⟩ : ∃ b, b = w.heap.size := ⟨_, rfl⟩
  obtain ⟨b2, hb2⟩ : ∃ b, b = w.heap.size + 1 := ⟨_, rfl⟩
  obtain ⟨b4, hb4⟩ : ∃ b, b = w.heap.size + 2 := ⟨_, rfl⟩
  have x1 : V.heap[b1]? = some (.cells d.cells.toArray 81 (0, 0)) := by rw [h23.block _ (by omega), h12.block _ (by omega), hb1, hV1]; exact heap_alloc_new w _
  have x2 : V.heap[b2]? = some (.cells Z.toArray 43 (0, 0)) := by rw [h23.block _ (by omega), hb2, ← s1, hV2]; exact heap_alloc_new V1 _
  have x4 : V.heap[b4]? = some (.cells Z.toArray 43 (0, 0)) := by rw [hb4, ← s2, hV]; exact heap_alloc_new V2 _
  have c35 : V.cell? ⟨b1, 35, none⟩ = some d.v := by
    rw [cell_blk x1]
    have := h.tail 2
    simpa using this
  obtain ⟨A, c, hv, hP⟩ := own_reads_at (n := 0) (f := El.cells) h.own (fun e he => (El.at_ (h.each e he).1).len)
  rw [hv] at c35
  have hstand := ha.stand
  obtain ⟨l, hlp, hlu⟩ := sort_parts hstand
  have HSTAND := Lib.hid hstand; have HLP := Lib.hid hlp; have HLU := Lib.hid hlu
  have HEND := Lib.hid (fun h0 => end_all hstand h0)
  have HEACH := Lib.hid h.each
  have hm := h.many
  obtain ⟨L, hLd⟩ : ∃ L, L = d.L := ⟨_, rfl⟩
  rw [← hLd] at hP hm c35 ⊢
  rw [← hLd] at HSTAND HLP HEACH HEND
  obtain ⟨n, hn⟩ : ∃ n, L.length = n := ⟨_, rfl⟩
  rw [hn] at c35 hm
  have HN := Lib.hid hn
  have HC35 : Hid (∀ W, Kept (· = b4) V W → W.cell? ⟨b1, 35, none⟩ = some (.slice A n c)) := Lib.hid fun W hW => (World.cell?_of_block (w := V) (a := ⟨b1, 35, none⟩) (hW.block b1 (by omega) (by omega))).trans c35
  have HX2 : Hid (∀ W, Kept (· = b4) V W → W.heap[b2]? = some (.cells zeroP.toArray 43 (0, 0))) := Lib.hid fun W hW => (hW.block b2 (by omega) (by omega)).trans (by rw [x2, hZ])
  have HX4 : Hid (V.heap[b4]? = some (.cells (pkV (outH L 0) (.slice none 0 0)).toArray 43 (0, 0))) := Lib.hid (by rw [x4, hZ]; rfl)
  have HROW : Hid (L ≠ [] → ∃ g, A = some ⟨g, 0, none⟩ ∧ ∀ W, Kept (· = b4) V W → ∀ k x, L[k]? = some x → W.rangeAt g (k * 40) x.cells) := Lib.hid fun hne => by
    obtain ⟨g, e, -, hg, hc⟩ := hP hne
    exact ⟨g, e, fun W hW k x hx => range_keep (hc k x hx) ((hW.block g (by omega) (by omega)).trans (hal.block g hg))⟩
  have HBODY : Hid (∀ W, Kept (· = b4) V W → ∀ e ∈ L, BodyAt W e) := Lib.hid fun W hW e he => (HEACH.out e he).2.1.keep (fun g hg => (hW.block g (by have := (HEACH.out e he).2.1.lt hg; omega) (by have := (HEACH.out e he).2.1.lt hg; omega)).trans (hal.block g ((HEACH.out e he).2.1.lt hg))) (by have := hW.size; omega)
  have HFIN : Hid (∀ W, Kept (· = b4) V W → RowKit.Below w.heap.size w W) := Lib.hid fun W hW => hal.trans (hW.below (by omega) (fun k hk => by omega))
  have HB : Hid (w.heap.size ≤ b2 ∧ w.heap.size ≤ b4 ∧ b4 < V.heap.size ∧ b2 < V.heap.size ∧ b2 ≠ b4) := Lib.hid (by omega)
  have HSZ := Lib.hid size43; have H36 := Lib.hid size36
  have hc35 := HC35.out V (Kept.refl _ _)
  have HD : Hid ((w.alloc (.cells d.cells.toArray 81)).alloc (.cells Z.toArray 43) = V2) := Lib.hid (by rw [hV2, hV1])
  have HDV : Hid (V2.alloc (.cells Z.toArray 43) = V) := Lib.hid hV.symm
  have HSS : Hid (w.heap.size = b1 ∧ w.heap.size + 1 = b2 ∧ w.heap.size + 1 + 1 = b4) := Lib.hid (by omega)
  obtain ⟨DC, hDC⟩ : ∃ D : Array Value, D = d.cells.toArray := ⟨_, rfl⟩
  rw [← hDC] at HD ⊢
  clear hV1 hV2 hV h01 h12 h23 s1 s2 s3 hal hb1 hb2 hb4 x1 x2 x4 c35 hv hP hstand hlp hlu hLd hn ha h hZ hDC
  have HZ2 := Lib.hid hZ2
  go_enter Try.func49, Try.ntmps49
  go_upto_region 2 with (refine wpList_store_new rfl 43 (.tmp 4) (.tmp 10) ?ho _ _ Z.toArray 43 ?hx ?hy ?hi ?hc ?h1 ?_; (case ho => with_reducible rfl); (case hx => show Value.pointer _ = Value.pointer _; simp); (case hy => rfl); (case hi => rw [List.size_toArray, HZL.out]; exact HSZ.out); (case hc => first | rfl | exact Eq.trans (b := 40) rfl (by rw [List.size_toArray, HZL.out])); (case h1 => exact all_oneCell_toArray HZ1.out))
  clear hZ2
  rw [HD.out, HDV.out, HSS.out.2.2, HSS.out.2.1, HSS.out.1]
  clear HD HDV HSS HZ2 HZL HZ1
  go_wp2_with fail
  go_loopw [5, 6] (fun z i wr => ∃ k : Nat, k ≤ n ∧ i = .int .i64 k ∧ z = .int .i64 (endK L k) ∧ wr.heap[b4]? = some (.cells (pkV (outH L k) (.slice none 0 0)).toArray 43 (0, 0)) ∧ Kept (· = b4) V wr) (fun _ i _ => n - (intOf i).toNat)
  case atStart => exact ⟨0, Nat.zero_le _, rfl, rfl, HX4.out, Kept.refl _ _⟩
  case round =>
    obtain ⟨k, hk, rfl, rfl, hbx, hW⟩ := hrel
    have c35 := HC35.out wr hW
    have HW := Lib.hid hW; have HBX := Lib.hid hbx
    clear hc35 hbx hW
    by_cases hlt : k < n
    · obtain ⟨x, hx⟩ : ∃ x, L[k]? = some x := ⟨L[k]'(by rw [HN.out]; exact hlt), List.getElem?_eq_getElem _⟩
      obtain ⟨g, rfl, hg⟩ := HROW.out (by rintro rfl; simp at hx)
      have HR := Lib.hid (hg wr HW.out k x hx)
      have hxe := HEACH.out x (List.mem_of_getElem? hx)
      have HXP : Hid (PkAt x.cells x.pk x.adr x.cap) := Lib.hid (El.at_ hxe.1)
      have HXL := Lib.hid hxe.2.2
      have HOS : Hid (outH L (k + 1) = if x.pk.off = 0 then bareP x.pk [] else outH L k) := Lib.hid (outH_succ hx)
      have HET : Hid (endK L (k + 1) = if x.pk.more then endK L k else (too x.pk : Int)) := Lib.hid (end_take hx)
      have HBU := Lib.hid (built_bare hxe.1)
      have HOKN : Hid (PkOk (outH L k)) := Lib.hid (outH_ok (fun e he => (HEACH.out e he).1) k)
      have HOKB : Hid (PkOk (bareP x.pk [])) := Lib.hid (bare_ok hxe.1)
      obtain ⟨P, hPx⟩ : ∃ P, P = x.cells := ⟨_, rfl⟩
      rw [← hPx] at HR HXP
      have HLEN := Lib.hid HXP.out.len
      have HONE := Lib.hid HXP.out.one
      have HTO : Hid (∀ W, Calls Try.prog 65 #[.agg P.toArray] W (NatPost (too x.pk) W)) := Lib.hid (fun W => end65 W HXP.out (by have := HXL.out; omega))
      obtain ⟨W1, hW1⟩ : ∃ W, W = wr.alloc (.cells P.toArray 43) := ⟨_, rfl⟩
      have HWA : Hid (RowKit.Below wr.heap.size wr W1) := Lib.hid (by rw [hW1]; exact (Below.refl _ _).alloc (Nat.le_refl _) _)
      obtain ⟨b7, hb7⟩ : ∃ b, b = wr.heap.size := ⟨_, rfl⟩
      have HB7 : Hid (W1.heap[b7]? = some (.cells P.toArray 43 (0, 0))) := Lib.hid (by rw [hb7, hW1]; exact heap_alloc_new wr _)
      have HW1E : Hid (wr.alloc (.cells P.toArray 43) = W1) := Lib.hid hW1.symm
      have HB7E : Hid (wr.heap.size = b7) := Lib.hid hb7.symm
      have HB47 : Hid (b4 ≠ b7) := Lib.hid (by have := HB.out; have := HW.out.size; omega)
      have HK1 : Hid (Kept (· = b4) V W1) := Lib.hid (HW.out.trans (G := fun i => i = b4) (Kept.of_below HWA.out (Nat.le_refl _)) (fun _ _ h => h))
      have HBX1 : Hid (W1.heap[b4]? = some (.cells (pkV (outH L k) (.slice none 0 0)).toArray 43 (0, 0))) := Lib.hid ((HWA.out.block b4 (lt_of_blk HBX.out)).trans HBX.out)
      have HPL : Hid ((pkV (outH L k) (.slice none 0 0)).length = 40) := Lib.hid (pkV_length HOKN.out)
      have HPLB : Hid ((pkV (bareP x.pk []) (.slice none 0 0)).length = 40) := Lib.hid (pkV_length HOKB.out)
      have HPO : Hid (∀ v ∈ pkV (bareP x.pk []) (.slice none 0 0), v.oneCell' = true) := Lib.hid (pkV_one rfl)
      obtain ⟨mo, hmo⟩ : ∃ h, h = x.pk.more := ⟨_, rfl⟩
      obtain ⟨tx, htx⟩ : ∃ h, h = too x.pk := ⟨_, rfl⟩
      obtain ⟨ez, hez⟩ : ∃ h, h = endK L k := ⟨_, rfl⟩
      obtain ⟨xo, hxo⟩ : ∃ o, o = x.pk.off := ⟨_, rfl⟩
      obtain ⟨hp, hhp⟩ : ∃ o, o = x.pk.hops := ⟨_, rfl⟩
      obtain ⟨nx, hnx⟩ : ∃ o, o = x.pk.next := ⟨_, rfl⟩
      obtain ⟨al, hal⟩ : ∃ o, o = x.pk.alert := ⟨_, rfl⟩
      have HT : Hid (PkAt P x.pk x.adr x.cap) := Lib.hid HXP.out
      have d32 : W1.cell? ⟨b7, 32, none⟩ = some (.int .u8 (hp : Int)) := by rw [hhp]; exact box_cell HB7.out (HT.out.tail 0)
      have d33 : W1.cell? ⟨b7, 33, none⟩ = some (.bool al) := by rw [hal]; exact box_cell HB7.out (HT.out.tail 1)
      have d36 : W1.cell? ⟨b7, 36, none⟩ = some (.int .u16 (xo : Int)) := by rw [hxo]; exact box_cell HB7.out (HT.out.tail 4)
      have d37 : W1.cell? ⟨b7, 37, none⟩ = some (.bool mo) := by rw [hmo]; exact box_cell HB7.out (HT.out.tail 5)
      have d38 : W1.cell? ⟨b7, 38, none⟩ = some (.int .u8 (nx : Int)) := by rw [hnx]; exact box_cell HB7.out (HT.out.tail 6)
      have HDC : Hid (∀ W, RowKit.Below W1.heap.size W1 W → W.cell? ⟨b7, 32, none⟩ = some (.int .u8 (hp : Int)) ∧ W.cell? ⟨b7, 33, none⟩ = some (.bool al) ∧ W.cell? ⟨b7, 36, none⟩ = some (.int .u16 (xo : Int)) ∧ W.cell? ⟨b7, 38, none⟩ = some (.int .u8 (nx : Int))) := Lib.hid fun W h => by
        have hl := lt_of_blk HB7.out
        exact ⟨(h.cell (p := ⟨b7, 32, none⟩) hl).trans d32, (h.cell (p := ⟨b7, 33, none⟩) hl).trans d33, (h.cell (p := ⟨b7, 36, none⟩) hl).trans d36, (h.cell (p := ⟨b7, 38, none⟩) hl).trans d38⟩
      have HRS := Lib.hid (HXP.out.rs (row_of HB7.out)).1
      have HRD := Lib.hid (HXP.out.rs (row_of HB7.out)).2
      have HRB := Lib.hid (row_of HB7.out)
      have HSL : Hid ((row8 x.pk.src).length = 16) := Lib.hid (by rw [row8_length, HXP.out.ok.src])
      have HDL : Hid ((row8 x.pk.dst).length = 16) := Lib.hid (by rw [row8_length, HXP.out.ok.dst])
      obtain ⟨SR, hSR⟩ : ∃ o, o = row8 x.pk.src := ⟨_, rfl⟩
      obtain ⟨DR, hDR⟩ : ∃ o, o = row8 x.pk.dst := ⟨_, rfl⟩
      rw [← hSR] at HRS HSL HBU; rw [← hDR] at HRD HDL HBU
      rw [← hhp, ← hal, ← hnx] at HBU
      rw [← hmo, ← htx, ← hez] at HET
      rw [← htx] at HTO
      rw [← hxo] at HOS
      rw [← hez]
      obtain ⟨PB, hPB⟩ : ∃ Q, Q = pkV (bareP x.pk []) (.slice none 0 0) := ⟨_, rfl⟩
      have HPB := Lib.hid hPB
      rw [← hPB] at HPLB HPO HBU
      obtain ⟨PO, hPO⟩ : ∃ Q, Q = pkV (outH L k) (.slice none 0 0) := ⟨_, rfl⟩
      have HPOE := Lib.hid hPO
      rw [← hPO] at HPL HBX1
      have HXE : Hid (xo = 0 → outH L (k + 1) = bareP x.pk []) := Lib.hid fun h => by rw [HOS.out, if_pos h]
      have HXN : Hid (¬ xo = 0 → outH L (k + 1) = outH L k) := Lib.hid fun h => by rw [HOS.out, if_neg h]
      clear hx hg hxe hPx hW1 hb7 hmo htx hez hxo hhp hnx hal hSR hDR hPB hPO HXP HT HOS HOKN HOKB
      go_upto_region 7 with (first | (refine wpList_store_new rfl 43 (.tmp 7) (.tmp 22) ?ho _ _ P.toArray 43 ?hx ?hy ?hi ?hc ?h1 ?_; (case ho => with_reducible rfl); (case hx => rfl); (case hy => rfl); (case hi => rw [List.size_toArray, HLEN.out]; exact HSZ.out); (case hc => exact Eq.trans (b := 40) rfl (by rw [List.size_toArray, HLEN.out])); (case h1 => exact all_oneCell_toArray HONE.out)) | (refine wpList_load_mid rfl 43 (.tmp 21) ?ho g (k * 40) ?hx P _ ?hr Try.underlying43 rfl ?hi ?_; (case ho => with_reducible rfl); (case hx => rfl); (case hr => exact HR.out); (case hi => rw [HLEN.out]; exact HSZ.out)))
      rw [HW1E.out, HB7E.out]
      go_upto_if 26 with (fail)
      go_cut [5] (fun z wx => z = .int .i64 (endK L (k + 1)) ∧ RowKit.Below W1.heap.size W1 wx)
      case first =>
        cases mo with
        | true =>
          have HE2 : Hid (endK L (k + 1) = ez) := Lib.hid HET.out
          go_wp2_with fail
          go_meet
          exact ⟨by rw [HE2.out], Below.refl _ _⟩
        | false =>
          have HE2 : Hid (endK L (k + 1) = (tx : Int)) := Lib.hid HET.out
          go_wp2_with (first | (refine wpList_load_mid rfl 43 (.tmp 7) ?ho b7 0 ?hx P _ ?hr Try.underlying43 rfl ?hi ?_; (case ho => with_reducible rfl); (case hx => rfl); (case hr => exact HRB.out); (case hi => rw [HLEN.out]; exact HSZ.out)))
          refine (HTO.out _).mono ?_
          rintro e w2 ⟨rfl, hb2⟩
          have HB2 := Lib.hid hb2
          clear hb2
          go_wp2_with fail
          go_meet
          exact ⟨by rw [HE2.out], HB2.out⟩
      case rest =>
        obtain ⟨rfl, hbc⟩ := hcut
        obtain ⟨e32, e33, e36, e38⟩ := HDC.out wc hbc
        have HKC : Hid (Kept (· = b4) V wc) := Lib.hid (HK1.out.trans (G := fun i => i = b4) (Kept.of_below hbc (Nat.le_refl _)) (fun _ _ h => h))
        have HBXC : Hid (wc.heap[b4]? = some (.cells PO.toArray 43 (0, 0))) := Lib.hid ((hbc.block b4 (lt_of_blk HBX1.out)).trans HBX1.out)
        have HRSC : Hid (wc.rangeAt b7 0 SR) := Lib.hid (range_below HRS.out (lt_of_blk HB7.out) hbc)
        have HRDC : Hid (wc.rangeAt b7 16 DR) := Lib.hid (range_below HRD.out (lt_of_blk HB7.out) hbc)
        have HBC := Lib.hid hbc
        clear hbc
        by_cases h0 : xo = 0
        · have t1 : ((xo : Int) == 0) = true := by rw [beq_iff_eq]; omega
          have HE := Lib.hid (HXE.out h0)
          clear h0
          go_wp2_with (first | (refine wpList_build5 rfl 43 0 1 2 3 5 _ _ _ _ _ rfl (.agg SR.toArray) (.agg DR.toArray) (.int .u8 (hp : Int)) (.bool al) (.int .u8 (nx : Int)) rfl rfl rfl rfl rfl PB.toArray HBU.out ?_) | (refine wpList_load_mid rfl 36 (.tmp 33) ?ho b7 0 ?hx SR _ ?hr Try.underlying36 rfl ?hi ?_; (case ho => with_reducible rfl); (case hx => rfl); (case hr => exact HRSC.out); (case hi => rw [HSL.out]; exact H36.out)) | (refine wpList_load_mid rfl 36 (.tmp 35) ?ho b7 16 ?hx DR _ ?hr Try.underlying36 rfl ?hi ?_; (case ho => with_reducible rfl); (case hx => rfl); (case hr => exact HRDC.out); (case hi => rw [HDL.out]; exact H36.out)) | (refine wpList_store_row rfl 43 (.tmp 4) (.tmp 43) ?ho b4 PB.toArray ?hx ?hy 43 PO.toArray HBXC.out ?hi ?hc ?h1 ?_; (case ho => with_reducible rfl); (case hx => rfl); (case hy => rfl); (case hi => rw [List.size_toArray, HPLB.out]; exact HSZ.out); (case hc => simp only [List.size_toArray, HPLB.out, HPL.out]); (case h1 => exact all_oneCell_toArray HPO.out)))
          have t := Turned.setRow HBXC.out PB.toArray
          have HR1 : Hid ((wc.setRow b4 PB.toArray).heap[b4]? = some (.cells (pkV (outH L (k + 1)) (.slice none 0 0)).toArray 43 (0, 0)) ∧ Kept (· = b4) V (wc.setRow b4 PB.toArray)) := Lib.hid ⟨by rw [HE.out, ← HPB.out]; exact t.get (lt_of_blk HBXC.out), HKC.out.trans (G := fun i => i = b4) (Kept.of_turned t rfl) (fun _ _ h => h)⟩
          clear t
          go_roundw
          case rel => exact ⟨k + 1, by omega, by go_num, rfl, HR1.out.1, HR1.out.2⟩
          case measure => simp [intOf]; omega
        · have t1 : ((xo : Int) == 0) = false := by rw [beq_eq_false_iff_ne]; omega
          have HE := Lib.hid (HXN.out h0)
          clear h0
          go_wp2_with fail
          go_roundw
          case rel => exact ⟨k + 1, by omega, by go_num, rfl, by rw [HE.out, ← HPOE.out]; exact HBXC.out, HKC.out⟩
          case measure => simp [intOf]; omega
    · obtain rfl : k = n := by omega
      have HE0 : Hid (endK L k = endZ (L.map (·.pk))) := Lib.hid (by unfold endK; rw [← HN.out, List.take_length])
      have hbd : -1 ≤ endK L k ∧ endK L k ≤ 10000000 := by
        have := end_le (L := L) (fun e he => ⟨(HEACH.out e he).1, (HEACH.out e he).2.2⟩) k
        exact this
      have HZL := Lib.hid zeroP_length
      have HZ1 := Lib.hid zeroP_one
      have HB0 := Lib.hid built0
      obtain ⟨E, hE⟩ : ∃ z, z = endK L k := ⟨_, rfl⟩
      rw [← hE] at HE0 hbd
      rw [← hE]
      clear hlt hE
      by_cases hneg : E < 0
      · have HNE : Hid (¬ (hadN (L.map (·.pk)) : Int) = endZ (L.map (·.pk))) := Lib.hid (by rw [← HE0.out]; omega)
        have X2 := Lib.hid (HX2.out wr HW.out)
        go_wp2_with (first | (refine wpList_build0 rfl 43 rfl zeroP.toArray HB0.out ?_) | (refine wpList_store_row rfl 43 (.tmp 2) (.tmp 46) ?ho b2 zeroP.toArray ?hx ?hy 43 zeroP.toArray X2.out ?hi ?hc ?h1 ?_; (case ho => with_reducible rfl); (case hx => rfl); (case hy => rfl); (case hi => rw [List.size_toArray, HZL.out]; exact HSZ.out); (case hc => simp only [List.size_toArray, HZL.out, HZL.out]); (case h1 => exact all_oneCell_toArray HZ1.out)))
        have t := Turned.setRow X2.out zeroP.toArray
        refine bodyPost_ret (results_row_tmp Try.results49 _ _ b2 43 _ (0, 0) _ rfl (t.get (lt_of_blk X2.out)) Try.underlying43 rfl (by rw [List.size_toArray, HZL.out]; exact HSZ.out)) rfl ⟨(HFIN.out wr HW.out).trans (t.below HB.out.1), .inl ⟨HNE.out, rfl⟩⟩
      · obtain ⟨e, rfl⟩ : ∃ e : Nat, E = (e : Int) := ⟨E.toNat, by omega⟩
        have HEL : Hid (∀ x ∈ l, too x ≤ e) := Lib.hid fun x hx => by
          have := HEND.out (by rw [← HE0.out]; exact Int.natCast_nonneg _) x (HLP.out.mem_iff.1 hx)
          rw [← HE0.out] at this
          omega
        have HHAD : Hid (hadN (L.map (·.pk)) = hadN l) := Lib.hid (by unfold hadN; exact ((HLP.out.map _).sum_nat).symm)
        have HOH : Hid (PkOk (outH L k)) := Lib.hid (outH_ok (fun e he => (HEACH.out e he).1) k)
        have HH0 : Hid (outH L k = match head0 (L.map (·.pk)) with | none => nilPk | some x => bareP x []) := Lib.hid (by unfold outH; rw [← HN.out, List.take_length])
        obtain ⟨H, hH⟩ : ∃ h, h = outH L k := ⟨_, rfl⟩
        rw [← hH] at HOH HH0 HBX
        have he7 : e ≤ 10000000 := by omega
        clear hneg hbd hH
        go_wp2_with fail
        go_loopw [8] (fun _ wr => ∃ (m : Nat) (bs : List Nat) (v : Value), wr.heap[b4]? = some (.cells (pkV H v).toArray 43 (0, 0)) ∧ wr.ownsRow V.heap.size 5 1 v bs.length (row8 bs) ∧ Cov l m bs ∧ Kept (· = b4) V wr) (fun _ wr => e - lenAt wr b4)
        case atStart => exact ⟨0, [], .slice none 0 0, HBX.out, World.ownsRow_nil _ _ _ _, Cov.nil l, HW.out⟩
        case round =>
          obtain ⟨m, bs, v, hbx, hown, hcov, hkep⟩ := hrel
          obtain ⟨q, cq, rfl, hcq⟩ := own_slice2 hown
          have c39 := box_cell (k := 39) (v := .slice q bs.length cq) hbx (pkV_tail HOH.out 7)
          have HLA := Lib.hid (lenAt_of c39)
          have HBXR := Lib.hid hbx; have HOWN := Lib.hid hown; have HCOV := Lib.hid hcov; have HKEP := Lib.hid hkep
          obtain ⟨sn, hsn⟩ : ∃ n, n = bs.length := ⟨_, rfl⟩
          have HSN := Lib.hid hsn
          rw [← hsn] at c39 HLA
          clear hbx hown hcov hkep hsn c35
          by_cases hlt : sn < e
          · have hsi : (sn : Int) < (e : Int) := by omega
            have c35 := HC35.out _ HKEP.out
            have HSTEP := Lib.hid (cov_step HLU.out HEL.out HCOV.out (by rw [← HSN.out]; exact hlt))
            have HSEL : Hid (selB l bs.length = selK L k sn) := Lib.hid (by rw [← HSN.out, ← selB_perm HLP.out HLU.out]; unfold selK; rw [← HN.out, List.take_length])
            go_wp2_with fail
            go_loopw [9] (fun i wr => ∃ (j : Nat) (v : Value), j ≤ k ∧ i = .int .i64 j ∧ wr.heap[b4]? = some (.cells (pkV H v).toArray 43 (0, 0)) ∧ wr.ownsRow V.heap.size 5 1 v (bs ++ selK L j sn).length (row8 (bs ++ selK L j sn)) ∧ Kept (· = b4) V wr) (fun i _ => k - (intOf i).toNat)
            case atStart => exact ⟨0, _, Nat.zero_le _, rfl, HBXR.out, by have := HOWN.out; simpa [selK, selB] using this, HKEP.out⟩
            case round =>
              obtain ⟨j, v, hj, rfl, hbx, hown, hkep⟩ := hrel
              obtain ⟨q2, cq2, rfl, hcq2⟩ := own_slice2 hown
              have c35r := HC35.out _ hkep
              have HBXJ := Lib.hid hbx; have HOWJ := Lib.hid hown; have HKEJ := Lib.hid hkep
              by_cases hjk : j < k
              · obtain ⟨x, hx⟩ : ∃ x, L[j]? = some x := ⟨L[j]'(by rw [HN.out]; exact hjk), List.getElem?_eq_getElem _⟩
                obtain ⟨g, rfl, hg⟩ := HROW.out (by rintro rfl; simp at hx)
                have HXE : Hid (PkAt x.cells x.pk x.adr x.cap) := Lib.hid (El.at_ (HEACH.out x (List.mem_of_getElem? hx)).1)
                have HXL := Lib.hid (HEACH.out x (List.mem_of_getElem? hx)).2.2
                have HSK := Lib.hid (selK_succ (s := sn) hx)
                have HXM := Lib.hid (List.mem_of_getElem? hx)
                have HRW : Hid (∀ W, Kept (· = b4) V W → W.rangeAt g (j * 40) x.cells) := Lib.hid fun W hW => hg W hW j x hx
                have HR := Lib.hid (HRW.out _ hkep)
                obtain ⟨P, hPx⟩ : ∃ P, P = x.cells := ⟨_, rfl⟩
                rw [← hPx] at HR HXE HRW
                have HLEN := Lib.hid HXE.out.len
                have HHA : Hid (∀ W, Calls Try.prog 66 #[.agg P.toArray, .int .i64 (sn : Int)] W (BoolPost (decide (frm x.pk ≤ sn) && decide (sn < too x.pk)) W)) := Lib.hid (fun W => has66 W HXE.out (by have := HXL.out; omega))
                obtain ⟨xo, hxo⟩ : ∃ o, o = x.pk.off := ⟨_, rfl⟩
                have hxo8 : xo < 65536 := by rw [hxo]; exact HXE.out.ok.off
                have HFX : Hid (frm x.pk = xo * 8) := Lib.hid (by unfold frm; rw [hxo])
                have HTX : Hid (too x.pk = xo * 8 + x.pk.body.length) := Lib.hid (by unfold too; rw [HFX.out])
                have w1 : IntKind.i64.wrap (xo : Int) = (xo : Int) := i64_small (by omega)
                have w2 : IntKind.i64.wrap (8 * (xo : Int)) = 8 * (xo : Int) := by rw [show 8 * (xo : Int) = ((xo * 8 : Nat) : Int) by omega]; exact i64_small (by omega)
                obtain ⟨hh, hhh⟩ : ∃ h, h = (decide (frm x.pk ≤ sn) && decide (sn < too x.pk)) := ⟨_, rfl⟩
                rw [← hhh] at HHA
                have HHH := Lib.hid hhh
                have H36c : Hid (∀ W, Kept (· = b4) V W → W.cell? ⟨g, j * 40 + 36, none⟩ = some (.int .u16 (xo : Int))) := Lib.hid fun W hW => by
                  rw [hxo]; exact HRW.out W hW 36 _ (HXE.out.tail 4)
                have H39c : Hid (∀ W, Kept (· = b4) V W → W.cell? ⟨g, j * 40 + 39, none⟩ = some (.slice x.adr x.pk.body.length x.cap)) := Lib.hid fun W hW => HRW.out W hW 39 _ (HXE.out.tail 7)
                clear hx hg hPx hxo hhh hbx hown hkep
                go_wp2_with (first | (refine wpList_load_mid rfl 43 (.tmp 65) ?ho g (j * 40) ?hx P _ ?hr Try.underlying43 rfl ?hi ?_; (case ho => with_reducible rfl); (case hx => rfl); (case hr => exact HR.out); (case hi => rw [HLEN.out]; exact HSZ.out)))
                refine (HHA.out _).mono ?_
                rintro e2 w2 ⟨rfl, hb2⟩
                have hk2 : Kept (· = b4) V w2 := HKEJ.out.trans (G := fun i => i = b4) (Kept.of_below hb2 (Nat.le_refl _)) (fun _ _ h => h)
                have HK2 := Lib.hid hk2
                have HBX2 : Hid (w2.heap[b4]? = some (.cells (pkV H (.slice q2 (bs ++ selK L j sn).length cq2)).toArray 43 (0, 0))) := Lib.hid ((hb2.block b4 (lt_of_blk HBXJ.out)).trans HBXJ.out)
                have HOW2 := Lib.hid (own_below HOWJ.out hb2)
                have d35 := HC35.out _ hk2
                have d36 := H36c.out _ hk2
                have d39 := H39c.out _ hk2
                clear hk2 hb2 c35r
                by_cases hsel : frm x.pk = sn ∧ 0 < x.pk.body.length
                · have hht : hh = true := by rw [HHH.out, decide_eq_true (by omega : frm x.pk ≤ sn), decide_eq_true (by have := HTX.out; have := HFX.out; omega : sn < too x.pk)]; rfl
                  subst hht
                  have t1 : (8 * (xo : Int) == (sn : Int)) = true := by rw [beq_iff_eq]; have := HFX.out; omega
                  have HS2 : Hid (selK L (j + 1) sn = selK L j sn ++ x.pk.body) := Lib.hid (by rw [HSK.out, if_pos hsel])
                  have HBB := Lib.hid (HBODY.out w2 HK2.out x HXM.out).bs
                  have c394 := box_cell (k := 39) (v := .slice q2 (bs ++ selK L j sn).length cq2) HBX2.out (pkV_tail HOH.out 7)
                  have hl1 : (bs ++ selK L j sn).length ≤ 60000000 := by
                    rw [List.length_append]
                    have h1 := selK_le (fun e he => (HEACH.out e he).2.2) j sn
                    have h2 := HSN.out
                    omega
                  have hl2 := HXL.out
                  obtain ⟨bq, hbq⟩ : ∃ x, x = bs ++ selK L j sn := ⟨_, rfl⟩
                  have HS3 : Hid (bs ++ selK L (j + 1) sn = bq ++ x.pk.body) := Lib.hid (by rw [HS2.out, hbq, List.append_assoc])
                  rw [← hbq] at c394 hl1 HBX2 HOW2
                  obtain ⟨xb, hxb⟩ : ∃ b, b = x.pk.body := ⟨_, rfl⟩
                  rw [← hxb] at HBB hl2 d39 HS3
                  clear hsel hbq hxb
                  go_upto_region 19 with (fail)
                  go_still_tail 8, (by kernel_rfl)
                  change wpList _ _ _ _ _ w2.drew
                  obtain ⟨W3, hW3⟩ : ∃ W, W = w2.drew := ⟨_, rfl⟩
                  have h23 : RowKit.Below w2.heap.size w2 W3 := by rw [hW3]; exact (Below.refl _ _).drew
                  rw [← hW3]
                  have HOW3 := Lib.hid (own_below HOW2.out h23)
                  have HBS3 := Lib.hid ((HBB.out.below h23).mono h23.size)
                  have HBX3 : Hid (W3.heap[b4]? = some (.cells (pkV H (.slice q2 bq.length cq2)).toArray 43 (0, 0))) := Lib.hid ((h23.block b4 (lt_of_blk HBX2.out)).trans HBX2.out)
                  have HK3 : Hid (Kept (· = b4) V W3) := Lib.hid (HK2.out.trans (G := fun i => i = b4) (Kept.of_below h23 (Nat.le_refl _)) (fun _ _ h => h))
                  have hvs : V.heap.size ≤ W3.heap.size := HK3.out.size
                  clear hW3 h23 c394 d35 d36 d39
                  go_wp2_with (at_builtin; refine wpList_append_bs rfl _ _ rfl V.heap.size (.slice q2 bq.length cq2) bq.length (row8 bq) rfl HOW3.out x.adr x.cap xb rfl HBS3.out ?l1 ?l2 ?_)
                  case l1 => omega
                  case l2 => omega
                  intro v' w5 hown' hgrow hnil
                  have hpo : some b4 ≠ (Value.slice q2 bq.length cq2).ownBlock := fun e => by have := (HOW3.out.lt b4 e.symm).1; have := HB.out; omega
                  have HB5 : Hid (w5.heap[b4]? = some (.cells (pkV H (.slice q2 bq.length cq2)).toArray 43 (0, 0))) := Lib.hid ((hgrow.block b4 (by have := HB.out; omega) hpo).trans HBX3.out)
                  have fg39 := frozen_blk HB5.out 39
                  have g39 := box_cell (k := 39) (v := .slice q2 bq.length cq2) HB5.out (pkV_tail HOH.out 7)
                  obtain ⟨q5, cq5, hv5, -⟩ := own_slice2 hown'
                  have ht5 := Turned.setCell HB5.out 39 v'
                  rw [body_set HOH.out] at ht5
                  have hown2 : (w5.setCell ⟨b4, 39, none⟩ v').ownsRow V.heap.size 5 1 v' (bs ++ selK L (j + 1) sn).length (row8 (bs ++ selK L (j + 1) sn)) := by
                    rw [HS3.out, List.length_append, row8_append]
                    refine own_keep hown' (fun q hq => ht5.other (fun e => ?_))
                    subst e
                    have := (hown'.lt q hq).1; have := HB.out; omega
                  have hkp2 : Kept (· = b4) V (w5.setCell ⟨b4, 39, none⟩ v') := by
                    refine HK3.out.trans (G := fun i => i = b4 ∨ V.heap.size ≤ i) ?_ (fun i hi hg => hg.resolve_right (by omega))
                    exact (Kept.of_grown hgrow (fun q hq => .inr (HOW3.out.lt q hq).1)).trans (G := fun i => i = b4 ∨ V.heap.size ≤ i) (Kept.of_turned ht5 (.inl rfl)) (fun i _ h => h)
                  have HR1 : Hid ((w5.setCell ⟨b4, 39, none⟩ v').heap[b4]? = some (.cells (pkV H v').toArray 43 (0, 0)) ∧ (w5.setCell ⟨b4, 39, none⟩ v').ownsRow V.heap.size 5 1 v' (bs ++ selK L (j + 1) sn).length (row8 (bs ++ selK L (j + 1) sn)) ∧ Kept (· = b4) V (w5.setCell ⟨b4, 39, none⟩ v')) := Lib.hid ⟨ht5.get (lt_of_blk HB5.out), hown2, hkp2⟩
                  clear hown' hgrow hnil hpo ht5 hown2 hkp2
                  rw [hv5] at HR1 ⊢
                  clear hv5 t1
                  go_wp2_with fail
                  go_roundw
                  case rel => exact ⟨j + 1, _, by omega, by go_num, HR1.out.1, HR1.out.2.1, HR1.out.2.2⟩
                  case measure => simp [intOf]; omega
                · by_cases hfr : frm x.pk = sn
                  · have hl0 : x.pk.body.length = 0 := by omega
                    have hht : hh = false := by rw [HHH.out, decide_eq_false (by have := HTX.out; have := HFX.out; omega : ¬ sn < too x.pk)]; simp
                    subst hht
                    have HS2 : Hid (selK L (j + 1) sn = selK L j sn) := Lib.hid (by rw [HSK.out, if_neg hsel]; simp)
                    clear hsel hfr hl0
                    go_wp2_with fail
                    go_roundw
                    case rel => exact ⟨j + 1, _, by omega, by go_num, HBX2.out, by rw [HS2.out]; exact HOW2.out, HK2.out⟩
                    case measure => simp [intOf]; omega
                  · have t1 : (8 * (xo : Int) == (sn : Int)) = false := by rw [beq_eq_false_iff_ne]; have := HFX.out; omega
                    have HS2 : Hid (selK L (j + 1) sn = selK L j sn) := Lib.hid (by rw [HSK.out, if_neg hsel]; simp)
                    clear hsel hfr
                    cases hh with
                    | true =>
                      go_wp2_with fail
                      go_roundw
                      case rel => exact ⟨j + 1, _, by omega, by go_num, HBX2.out, by rw [HS2.out]; exact HOW2.out, HK2.out⟩
                      case measure => simp [intOf]; omega
                    | false =>
                      go_wp2_with fail
                      go_roundw
                      case rel => exact ⟨j + 1, _, by omega, by go_num, HBX2.out, by rw [HS2.out]; exact HOW2.out, HK2.out⟩
                      case measure => simp [intOf]; omega
              · obtain rfl : j = k := by omega
                clear hjk
                have c394 := box_cell (k := 39) (v := .slice q2 (bs ++ selK L j sn).length cq2) HBXJ.out (pkV_tail HOH.out 7)
                obtain ⟨nq, hnq⟩ : ∃ x, x = (bs ++ selK L j sn).length := ⟨_, rfl⟩
                have HNQ := Lib.hid hnq
                have HLB : Hid (nq = sn + (selK L j sn).length) := Lib.hid (by rw [hnq, List.length_append, HSN.out])
                rw [← hnq] at c394 HBXJ
                clear hnq
                have hst := HSTEP.out
                rw [HSEL.out] at hst
                by_cases hz : selK L j sn = []
                · have HNE : Hid (¬ (hadN (L.map (·.pk)) : Int) = endZ (L.map (·.pk))) := Lib.hid (by
                    rw [← HE0.out, HHAD.out]
                    rcases hst with h | h
                    · omega
                    · exact absurd hz h.1)
                  have t1 : ((nq : Int) == (sn : Int)) = true := by rw [beq_iff_eq]; have := HLB.out; rw [hz] at this; simp at this; omega
                  have X2 := Lib.hid (HX2.out _ HKEJ.out)
                  clear hst hz
                  go_wp2_with (first | (refine wpList_build0 rfl 43 rfl zeroP.toArray HB0.out ?_) | (refine wpList_store_row rfl 43 (.tmp 2) (.tmp 97) ?ho b2 zeroP.toArray ?hx ?hy 43 zeroP.toArray X2.out ?hi ?hc ?h1 ?_; (case ho => with_reducible rfl); (case hx => rfl); (case hy => rfl); (case hi => rw [List.size_toArray, HZL.out]; exact HSZ.out); (case hc => simp only [List.size_toArray, HZL.out, HZL.out]); (case h1 => exact all_oneCell_toArray HZ1.out)))
                  have t := Turned.setRow X2.out zeroP.toArray
                  refine bodyPost_ret (results_row_tmp Try.results49 _ _ b2 43 _ (0, 0) _ rfl (t.get (lt_of_blk X2.out)) Try.underlying43 rfl (by rw [List.size_toArray, HZL.out]; exact HSZ.out)) rfl ⟨(HFIN.out _ HKEJ.out).trans (t.below HB.out.1), .inl ⟨HNE.out, rfl⟩⟩
                · have HC2 : Hid (Cov l (m + 1) (bs ++ selK L j sn)) := Lib.hid (by
                    rcases hst with h | h
                    · exact absurd h.1 hz
                    · exact h.2)
                  have hpos : 0 < (selK L j sn).length := List.length_pos_iff.2 hz
                  have t1 : ((nq : Int) == (sn : Int)) = false := by rw [beq_eq_false_iff_ne]; have := HLB.out; omega
                  have HME : Hid (e - nq < e - sn) := Lib.hid (by have := HLB.out; omega)
                  have HLA2 := Lib.hid (lenAt_of c394)
                  clear hst hz hpos
                  go_wp2_with fail
                  go_roundw
                  case rel => exact ⟨m + 1, bs ++ selK L j sn, _, by rw [← HNQ.out]; exact HBXJ.out, HOWJ.out, HC2.out, HKEJ.out⟩
                  case measure => rw [HLA2.out, HLA.out]; exact HME.out
          · have HFINE := Lib.hid (cov_end HLU.out HEL.out HCOV.out (by rw [← HSN.out]; omega))
            have X2 := Lib.hid (HX2.out _ HKEP.out)
            have HPL : Hid ((pkV H (.slice q sn cq)).length = 40) := Lib.hid (pkV_length HOH.out)
            have HPO : Hid (∀ v ∈ pkV H (.slice q sn cq), v.oneCell' = true) := Lib.hid (pkV_one rfl)
            have hnl : ¬ (sn : Int) < (e : Int) := by omega
            rw [← HSN.out] at HBXR
            obtain ⟨PV, hPV⟩ : ∃ P, P = pkV H (.slice q sn cq) := ⟨_, rfl⟩
            have HPV := Lib.hid hPV
            rw [← hPV] at HBXR HPL HPO
            have HR4 := Lib.hid (row_of HBXR.out)
            clear hPV hlt
            go_wp2_with (first | (refine wpList_load_mid rfl 43 (.tmp 4) ?ho b4 0 ?hx PV _ ?hr Try.underlying43 rfl ?hi ?_; (case ho => with_reducible rfl); (case hx => rfl); (case hr => exact HR4.out); (case hi => rw [HPL.out]; exact HSZ.out)) | (refine wpList_store_row rfl 43 (.tmp 2) (.tmp 98) ?ho b2 PV.toArray ?hx ?hy 43 zeroP.toArray X2.out ?hi ?hc ?h1 ?_; (case ho => with_reducible rfl); (case hx => rfl); (case hy => rfl); (case hi => rw [List.size_toArray, HPL.out]; exact HSZ.out); (case hc => simp only [List.size_toArray, HPL.out, HZL.out]); (case h1 => exact all_oneCell_toArray HPO.out)))
            have t := Turned.setRow X2.out PV.toArray
            refine bodyPost_ret (results_row_tmp Try.results49 _ _ b2 43 _ (0, 0) _ rfl (t.get (lt_of_blk X2.out)) Try.underlying43 rfl (by rw [List.size_toArray, HPL.out]; exact HSZ.out)) rfl ?_
            have hWF := (HFIN.out _ HKEP.out).trans (t.below HB.out.1)
            have hx0 : ∃ x0, l[0]? = some x0 ∧ x0.off = 0 := by
              have hne : 0 < l.length := by
                rw [HLP.out.length_eq, List.length_map, HN.out]
                refine Nat.pos_of_ne_zero fun h0 => ?_
                have := HE0.out
                rw [List.length_eq_zero_iff.1 (HN.out.trans h0)] at this
                have h2 : endZ (([] : List El).map (·.pk)) = -1 := rfl
                omega
              obtain ⟨x0, h0⟩ : ∃ x0, l[0]? = some x0 := ⟨_, List.getElem?_eq_getElem hne⟩
              have := HFINE.out.2.2 hne x0 h0
              unfold frm at this
              exact ⟨x0, h0, by omega⟩
            obtain ⟨x0, h00, hoff⟩ := hx0
            have hHx : H = bareP x0 [] := by
              rw [HH0.out, head0_of HSTAND.out (HLP.out.mem_iff.1 (List.mem_of_getElem? h00)) hoff]
            have hsz : bs.length ≤ 60000000 := by
              have := HCOV.out.len
              have h2 : hadN l = e := HFINE.out.1
              have h3 : hadN (l.take m) ≤ hadN l := by
                conv => rhs; rw [← List.take_append_drop m l]
                rw [had_app]; omega
              omega
            have hown6 := own_keep HOWN.out (fun i hi => t.other (fun e => by have := (HOWN.out.lt i hi).1; have := HB.out; omega))
            refine ⟨hWF, .inr ⟨by rw [HHAD.out, HFINE.out.1, ← HE0.out], l, bareP x0 bs, q, cq, HLP.out, HLU.out.imp fun h => Nat.le_of_lt h.1, ?_, ?_, ?_, ?_, ?_, ?_⟩⟩
            · rw [join_bare h00, HFINE.out.2.1]
            · rw [HPV.out, hHx, HSN.out]; rfl
            · have hk := HOH.out
              rw [hHx] at hk
              refine ⟨hk.src, hk.dst, hk.src8, hk.dst8, hk.hops, hk.id, hk.off, hk.next, fun y hy => ?_⟩
              have hy' : y ∈ l.flatMap (·.body) := by rw [HFINE.out.2.1]; exact hy
              obtain ⟨z, hz, hyz⟩ := List.mem_flatMap.1 hy'
              obtain ⟨e2, he2, rfl⟩ := List.mem_map.1 (HLP.out.mem_iff.1 hz)
              exact (HEACH.out e2 he2).1.body8 y hyz
            · obtain ⟨A6, c6, e6, hb6, _⟩ := Bs.own hown6
              cases e6
              refine ⟨hb6, ?_⟩
              rcases hown6.2 with ⟨e, _⟩ | ⟨g6, cap6, cur6, e, hb6, hg6, hn6, hx6, hs6, ht6⟩
              · injection e with e1 e2 e3; exact .inl e1
              · injection e with e1 e2 e3
                exact .inr ⟨g6, cur6, e1, hg6, by show cq ≤ cur6.size; omega⟩
            · intro g6 e6
              have := (HOWN.out.lt g6 (by rw [e6]; rfl)).1
              have := HB.out
              omega
            · show bs.length ≤ _
              omega
end Go.Proofs.Ytjldcblklbikaaa
