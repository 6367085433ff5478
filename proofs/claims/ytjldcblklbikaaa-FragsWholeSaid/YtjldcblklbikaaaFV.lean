/- A datagram that is cut into parts is put together: the walk of the law. No condition on the arguments but that they read. (Written out by exp.py.) -/
import Derived.Test.YtjldcblklbikaaaFS
import Derived.Test.YtjldcblklbikaaaFT
import Derived.Test.YtjldcblklbikaaaFU
import Derived.Test.YtjldcblklbikaaaPlainX
import Derived.Test.YtjldcblklbikaaaLives
namespace Go.Proofs.Ytjldcblklbikaaa
open Go.RowKit
set_option linter.unusedVariables false
set_option linter.unusedSimpArgs false
theorem zero_set {x : Pk} (h : PkOk x) (v : Value) : (((((pkV x v).toArray.setIfInBounds 34 (.bool false)).setIfInBounds 35 (.int .u32 0)).setIfInBounds 36 (.int .u16 0)).setIfInBounds 37 (.bool false)) = (pkV { x with is := false, id := 0, off := 0, more := false } v).toArray := by
  unfold pkV
  rw [show (34 : Nat) = 32 + 2 from rfl, pkT_set h.src h.dst, show (35 : Nat) = 32 + 3 from rfl, pkT_set h.src h.dst, show (36 : Nat) = 32 + 4 from rfl, pkT_set h.src h.dst, show (37 : Nat) = 32 + 5 from rfl, pkT_set h.src h.dst]
  rfl
theorem info4 : (Try.prog.info? 4).map (fun i => (i.zero, i.size, i.bytes)) = some (some (.bool false), 1, 1) := by kernel_rfl
/-- which parts came -/
def cameRow (ks : List Nat) (n : Nat) : List Value := (List.range n).map fun j => .bool (decide (j ∈ ks))
theorem cameRow_get {ks : List Nat} {n j : Nat} (h : j < n) : (cameRow ks n)[j]? = some (.bool (decide (j ∈ ks))) := by
  unfold cameRow; rw [List.getElem?_map, List.getElem?_range h]; rfl
theorem cameRow_len (ks : List Nat) (n : Nat) : (cameRow ks n).length = n := by simp [cameRow]
theorem cameRow_set {ks : List Nat} {n j : Nat} (h : j < n) : (cameRow ks n).toArray.setIfInBounds j (.bool true) = (cameRow (ks ++ [j]) n).toArray := by
  rw [List.setIfInBounds_toArray]
  congr 1
  refine List.ext_getElem? fun i => ?_
  rw [List.getElem?_set]
  by_cases hi : i < n
  · rw [cameRow_get hi]
    by_cases e : j = i
    · subst e
      rw [if_pos rfl, if_pos (by rw [cameRow_len]; exact h), cameRow_get h, decide_eq_true (by simp)]
    · rw [if_neg e, cameRow_get hi]
      have : (i ∈ ks ++ [j]) ↔ i ∈ ks := by simp only [List.mem_append, List.mem_singleton]; exact ⟨fun h => h.resolve_right (fun x => e x.symm), .inl⟩
      rw [decide_eq_decide.2 this]
  · rw [List.getElem?_eq_none (l := cameRow (ks ++ [j]) n) (by rw [cameRow_len]; omega), List.getElem?_eq_none (l := cameRow ks n) (by rw [cameRow_len]; omega)]
    rw [if_neg (by omega)]
theorem full_len {n : Nat} {ks : List Nat} (nd : ks.Nodup) (h : ∀ k ∈ ks, k < n) (ha : ∀ j, j < n → j ∈ ks) : ks.length = n := by
  obtain ⟨T, hT⟩ := fill_range n ks nd h
  have hl := hT.length_eq
  rw [List.length_append, List.length_range] at hl
  cases T with
  | nil => simpa using hl
  | cons t T =>
    have hnd : (ks ++ t :: T).Nodup := hT.nodup_iff.2 List.nodup_range
    rw [List.nodup_append] at hnd
    have ht : t < n := by have := hT.mem_iff (a := t); simpa using this.1 (by simp)
    exact absurd rfl (hnd.2.2 t (ha t ht) t List.mem_cons_self)
/-- the state of the law's loop -/
structure WI (x : Pk) (L : List El) (Wc : World) (pb gc : Nat) (ks : List Nat) (W : World) (rv : Value) (D : List Dg) : Prop where
  nd : ks.Nodup
  lt : ∀ k ∈ ks, k < L.length
  pool : PoolAt W pb rv D
  far : ∀ i, foot pb rv D i ∨ bods D i → i = pb ∨ Wc.heap.size ≤ i
  old : Kept (fun i => i = pb ∨ i = gc) Wc W
  came : W.heap[gc]? = some (.cells (cameRow ks L.length).toArray 4 (0, 0))
  st : ks.length < L.length → StW x (L.map (·.pk)) ks (D.map Dg.abs)
  done : ks.length = L.length → D = []
def WHead (x : Pk) (L : List El) (Wc : World) (pb gc no : Nat) (W : World) (lv iv : Value) : Prop := ∃ (i : Nat) (ks : List Nat) (rv : Value) (D : List Dg), iv = .int .i64 i ∧ lv = .int .i64 ((L.length - ks.length : Nat) : Int) ∧ i ≤ no + L.length ∧ WI x L Wc pb gc ks W rv D ∧ ∀ j, no + j < i → j ∈ ks
theorem WI.start {x : Pk} {L : List El} {Wc : World} {pb gc : Nat} (hp : PoolAt Wc pb (.slice none 0 0) []) (hc : Wc.heap[gc]? = some (.cells (cameRow [] L.length).toArray 4 (0, 0))) (hn : 0 < L.length) : WI x L Wc pb gc [] Wc (.slice none 0 0) [] where
  nd := List.nodup_nil
  lt := fun k hk => by cases hk
  pool := hp
  far := fun i hi => by
    rcases hi with (rfl | hi | ⟨d, hd, _⟩) | ⟨d, hd, _⟩
    · exact .inl rfl
    · cases hi
    · cases hd
    · cases hd
  old := Kept.refl _ _
  came := hc
  st := fun _ => .inl ⟨rfl, rfl⟩
  done := fun e => by simp at e; omega
theorem made_came (n : Nat) : (madeCells #[Value.bool false] n).toList = cameRow [] n := by
  unfold madeCells cameRow
  refine List.ext_getElem? fun i => ?_
  simp [Nat.mod_one]
set_option maxRecDepth 100000 in
set_option maxHeartbeats 8000000 in
theorem fragsWhole_walk {P : List Value} {x : Pk} {A A2 A3 : Option Addr} {c c2 c3 : Nat} {sz od : List Nat} (w : World) (hx : PkAt P x A c) (hb : Bs w w.heap.size A c x.body) (hs : RdL w w.heap.size A2 sz) (hs8 : ∀ y ∈ sz, y < 256) (ho : RdL w w.heap.size A3 od) (ho8 : ∀ y ∈ od, y < 256) :
    Calls Try.prog 5 #[.agg P.toArray, .slice A2 sz.length c2, .slice A3 od.length c3] w (BoolPost true w) := by
  obtain ⟨V, hV⟩ : ∃ V, V = w.alloc (.cells P.toArray 43) := ⟨_, rfl⟩
  have hal : Below w.heap.size w V := by rw [hV]; exact (Below.refl _ _).alloc (Nat.le_refl _) _
  have hbox : V.heap[w.heap.size]? = some (.cells P.toArray 43 (0, 0)) := by rw [hV]; exact heap_alloc_new w _
  have hVs : V.heap.size = w.heap.size + 1 := by rw [hV]; simp
  obtain ⟨b3, hb3⟩ : ∃ b, b = w.heap.size := ⟨_, rfl⟩
  rw [← hb3] at hbox
  have c39 := box_cell hbox (hx.tail 7)
  have HB3 : Hid (b3 = w.heap.size ∧ V.heap.size = b3 + 1) := Lib.hid ⟨hb3, by omega⟩
  have HBX := Lib.hid hbox
  have HAL := Lib.hid hal
  have HX := Lib.hid hx
  have HBS := Lib.hid hb
  have HSZ := Lib.hid size43
  have HRS := Lib.hid hs
  have HS8 := Lib.hid hs8
  have HRO := Lib.hid ho
  have HO8 := Lib.hid ho8
  obtain ⟨ns, hns⟩ : ∃ n, n = sz.length := ⟨_, rfl⟩
  obtain ⟨no, hno⟩ : ∃ n, n = od.length := ⟨_, rfl⟩
  obtain ⟨m, hm⟩ : ∃ n, n = x.body.length := ⟨_, rfl⟩
  rw [← hns, ← hno]
  rw [← hm] at c39
  have HNS := Lib.hid hns
  have HNO := Lib.hid hno
  have HM := Lib.hid hm
  clear hal hbox hVs hx hb hs hs8 ho ho8 hns hno hm
  go_enter Try.func5, Try.ntmps5
  go_upto_region 1 with (fail)
  rw [← hV, ← hb3]
  clear hV hb3
  by_cases g1 : 4000 < m
  · have t1 : (m : Int) > 4000 := by omega
    clear g1
    go_wp2_with fail
    refine (lives_any _).mono ?_
    rintro e w1 ⟨rfl, hb1⟩
    have HB1 := Lib.hid (HAL.out.trans (hb1.mono HAL.out.size))
    clear hb1
    go_wp2_with fail
    go_ret
    exact ⟨rfl, HB1.out⟩
  · have t1 : ¬ (m : Int) > 4000 := by omega
    by_cases g2 : 200 < no
    · have t2 : (no : Int) > 200 := by omega
      clear g1 g2
      go_wp2_with fail
      refine (lives_any _).mono ?_
      rintro e w1 ⟨rfl, hb1⟩
      have HB1 := Lib.hid (HAL.out.trans (hb1.mono HAL.out.size))
      clear hb1
      go_wp2_with fail
      go_ret
      exact ⟨rfl, HB1.out⟩
    · have t2 : ¬ (no : Int) > 200 := by omega
      by_cases g3 : 100 < ns
      · have t3 : (ns : Int) > 100 := by omega
        clear g1 g2 g3
        go_wp2_with fail
        refine (lives_any _).mono ?_
        rintro e w1 ⟨rfl, hb1⟩
        have HB1 := Lib.hid (HAL.out.trans (hb1.mono HAL.out.size))
        clear hb1
        go_wp2_with fail
        go_ret
        exact ⟨rfl, HB1.out⟩
      · have t3 : ¬ (ns : Int) > 100 := by omega
        have HG : Hid (m ≤ 4000 ∧ no ≤ 200 ∧ ns ≤ 100) := Lib.hid (by omega)
        clear g1 g2 g3
        have d34 := box_cell HBX.out (HX.out.tail 2)
        have d35 := box_cell HBX.out (HX.out.tail 3)
        have d36 := box_cell HBX.out (HX.out.tail 4)
        have d37 := box_cell HBX.out (HX.out.tail 5)
        have f34 := frozen_blk HBX.out 34
        have f35 := frozen_blk HBX.out 35
        have f36 := frozen_blk HBX.out 36
        have f37 := frozen_blk HBX.out 37
        go_upto_region 4 with (fail)
        have hP : P = pkV x (.slice A x.body.length c) := HX.out.eq
        have t34 := Turned.setCell HBX.out 34 (.bool false)
        have t35 := t34.trans (Turned.setCell (t34.get (lt_of_blk HBX.out)) 35 (.int .u32 0))
        have t36 := t35.trans (Turned.setCell (t35.get (lt_of_blk HBX.out)) 36 (.int .u16 0))
        have t37 := t36.trans (Turned.setCell (t36.get (lt_of_blk HBX.out)) 37 (.bool false))
        obtain ⟨W0, hW0⟩ : ∃ W', W' = ((((V.setCell ⟨b3, 34, none⟩ (.bool false)).setCell ⟨b3, 35, none⟩ (.int .u32 0)).setCell ⟨b3, 36, none⟩ (.int .u16 0)).setCell ⟨b3, 37, none⟩ (.bool false)) := ⟨_, rfl⟩
        rw [← hW0] at t37 ⊢
        rw [hP, zero_set HX.out.ok] at t37
        obtain ⟨x0, hx0⟩ : ∃ y, y = { x with is := false, id := 0, off := 0, more := false } := ⟨_, rfl⟩
        rw [← hx0] at t37
        have hok0 : PkOk x0 := by rw [hx0]; exact ⟨HX.out.ok.src, HX.out.ok.dst, HX.out.ok.src8, HX.out.ok.dst8, HX.out.ok.hops, by show (0 : Nat) < _; omega, by show (0 : Nat) < _; omega, HX.out.ok.next, HX.out.ok.body8⟩
        have hbody0 : x0.body = x.body := by rw [hx0]
        have HFZ : Hid (x0.is = false ∧ x0.id = 0 ∧ x0.off = 0 ∧ x0.more = false) := Lib.hid (by rw [hx0]; exact ⟨rfl, rfl, rfl, rfl⟩)
        obtain ⟨P0, hP0⟩ : ∃ P, P = pkV x0 (.slice A x.body.length c) := ⟨_, rfl⟩
        rw [← hP0] at t37
        rw [← hbody0] at hP0
        have HX0 : Hid (PkAt P0 x0 A c) := Lib.hid ⟨hP0, hok0⟩
        have HBX0 := Lib.hid (t37.get (lt_of_blk HBX.out))
        have hw0 : Below w.heap.size w W0 := HAL.out.trans (t37.below (by have := HB3.out; omega))
        have HW0 := Lib.hid hw0
        have HBS0 : Hid (Bs W0 W0.heap.size A c x0.body) := Lib.hid (by rw [hbody0]; exact (HBS.out.below hw0).mono hw0.size)
        have HL0 : Hid (x0.body.length ≤ 4000) := Lib.hid (by rw [hbody0, ← HM.out]; exact HG.out.1)
        have H24 := Lib.hid (cut24 (c2 := c2) W0 HX0.out HBS0.out HL0.out ((HRS.out.below hw0).mono hw0.size) (by rw [← HNS.out]; exact HG.out.2.2) HS8.out)
        rw [← HNS.out] at H24
        have HLEN0 := Lib.hid HX0.out.len
        have R0 := Lib.hid (row_of HBX0.out)
        clear t34 t35 t36 t37 hW0 hP hx0 hok0 hbody0 hP0 hw0 d34 d35 d36 d37 f34 f35 f36 f37 c39 t1 t2 t3 HBX HX HBS HM
        go_wp2_with (first | (refine wpList_load_mid rfl 43 (.tmp 3) ?ho b3 0 ?hx P0 _ ?hr Try.underlying43 rfl ?hi ?_; (case ho => with_reducible rfl); (case hx => rfl); (case hr => exact R0.out); (case hi => rw [HLEN0.out]; exact HSZ.out)))
        refine (H24.out).mono ?_
        rintro e w1 ⟨L, AL, cL, at_, hcut, rfl, hparts⟩
        have HCUT := Lib.hid hcut
        have HPARTS := Lib.hid hparts
        have hn32 := hcut.most
        have hnpos := hcut.pos
        rw [List.length_map] at hn32 hnpos
        have H10 := Lib.hid (new10 w1)
        obtain ⟨n, hn⟩ : ∃ n, n = L.length := ⟨_, rfl⟩
        rw [← hn] at hn32 hnpos ⊢
        have HN := Lib.hid hn
        clear hcut hparts hn H24
        go_wp2_with fail
        refine (H10.out).mono ?_
        rintro e w2 ⟨rfl, hpool, hb2, hs2⟩
        have HPOOL := Lib.hid hpool; have HB2 := Lib.hid hb2; have HS2 := Lib.hid hs2
        obtain ⟨pb, hpb⟩ : ∃ b, b = w1.heap.size := ⟨_, rfl⟩
        rw [← hpb] at HPOOL HS2 ⊢
        have HPB := Lib.hid hpb
        obtain ⟨i4, hi, hz0, hz1, hz2⟩ := info_parts info4
        clear hpool hb2 hs2 hpb H10
        go_wp2_with (at_make; refine wpList_make_full _ rfl _ _ 62 rfl w2.heap.size 4 i4 (.bool false) 1 Try.underlying62 hi hz0 hz1 .i64 .i64 _ _ n rfl rfl rfl rfl (by rw [hz2]; omega) (by unfold maxLen; omega) (Nat.le_refl _) ?_)
        intro w3 hown3 hg3
        obtain ⟨gc, hgc⟩ : ∃ g, g = w2.heap.size := ⟨_, rfl⟩
        rw [← hgc] at hown3 ⊢
        have hcame : w3.heap[gc]? = some (.cells (cameRow [] L.length).toArray 4 (0, 0)) := by
          rcases hown3.2 with ⟨e, _⟩ | ⟨g', cap', cur, e, hb', hg', hn', hm', hs', ht'⟩
          · cases e
          · injection e with e1 e2 e3
            injection e1 with e1
            injection e1 with e1
            subst e1 e3
            rw [made_came] at ht'
            rw [hg']
            congr 2
            rw [List.take_of_length_le (by rw [Array.length_toList, hs']; exact Nat.le_refl _)] at ht'
            rw [← HN.out, ← ht']
        have h23 : Below w2.heap.size w2 w3 := (Below.refl _ _).grown hg3 (Nat.le_refl _) (fun k hk => by cases hk)
        have hpool3 : PoolAt w3 pb (.slice none 0 0) [] := HPOOL.out.below h23
        have HWI : Hid (WI x0 L w3 pb gc [] w3 (.slice none 0 0) []) := Lib.hid (WI.start hpool3 hcame (by rw [← HN.out]; exact hnpos))
        have HGC := Lib.hid hgc
        have H13 : Hid (Below w1.heap.size w1 w3) := Lib.hid (HB2.out.trans (h23.mono HB2.out.size))
        have HWC : Hid (Below w.heap.size w w3) := Lib.hid ((HW0.out.trans (HPARTS.out.old.mono HW0.out.size)).trans (H13.out.mono (by have := HW0.out.size; have := HPARTS.out.old.size; omega)))
        have HGS : Hid (gc < w3.heap.size ∧ pb < gc) := Lib.hid ⟨lt_of_blk hcame, by have := HS2.out; have := HPB.out; omega⟩
        clear hown3 hg3 hgc hcame h23 hpool3 hi hz0 hz1 hz2
        go_wp2_with fail
        go_loopw [10, 11] (fun l i wr => WHead x0 L w3 pb gc no wr l i) (fun _ i _ => no + n - (intOf i).toNat)
        case atStart => exact ⟨0, [], _, _, rfl, by rw [← HN.out]; rfl, Nat.zero_le _, HWI.out, fun j hj => by omega⟩
        case round =>
          obtain ⟨i, ks, rv, D, rfl, rfl, hi, hw, hcov⟩ := hrel
          rw [← HN.out] at hi ⊢
          by_cases h2 : ks.length < n
          · by_cases h1 : i < no + n
            · have t1 : (i : Int) < (no : Int) + n := by omega
              obtain ⟨lf, hlf⟩ : ∃ l, l = n - ks.length := ⟨_, rfl⟩
              rw [← hlf]
              have t2 : (lf : Int) > 0 := by omega
              have hno200 := HG.out.2.1
              have HLF := Lib.hid hlf
              have HW := Lib.hid hw; have HCOV := Lib.hid hcov
              have HKL := Lib.hid h2
              clear hw hcov hlf h2
              go_upto_if 62 with (fail)
              go_cut [12] (fun kv wx => ∃ kk : Nat, kv = .int .i64 kk ∧ kk < n ∧ (no ≤ i → no + kk = i) ∧ wx = wr)
              case first =>
                by_cases h3 : i < no
                · have t3 : (i : Int) < no := by omega
                  obtain ⟨o, ho⟩ : ∃ o, od[i]? = some o := ⟨od[i]'(by rw [← HNO.out]; exact h3), List.getElem?_eq_getElem _⟩
                  obtain ⟨bo, oo, rfl, hbo, hco⟩ := HRO.out (by rintro rfl; simp at ho)
                  have how : wr.cell? ⟨bo, oo + i, none⟩ = some (.int .u8 (o : Int)) := by
                    have e1 := hco i o ho
                    have e2 := (HWC.out.cell (p := ⟨bo, oo + i, none⟩) hbo).trans e1
                    refine (World.cell?_of_block (w := w3) (a := ⟨bo, oo + i, none⟩) (HW.out.old.block bo (by have := HWC.out.size; omega) (fun e => ?_))).trans e2
                    have h5 := HPB.out; have h6 := HPARTS.out.old.size; have h7 := HW0.out.size; have h8 := HGS.out
                    rcases e with e | e <;> omega
                  obtain ⟨kk, hkk⟩ : ∃ k, k = o % n := ⟨_, rfl⟩
                  have ek : (o : Int).tmod (n : Int) = (kk : Int) := by rw [hkk]; rfl
                  have hkn : kk < n := by rw [hkk]; exact Nat.mod_lt _ hnpos
                  have hn0 : ¬ (n : Int) = 0 := by omega
                  have hn1 : ¬ (n : Int) = -1 := by omega
                  have ho256 := HO8.out o (List.mem_of_getElem? ho)
                  clear hco hbo ho hkk
                  go_wp2_with fail
                  go_meet
                  exact ⟨kk, rfl, hkn, fun h => by omega, rfl⟩
                · have t3 : ¬ (i : Int) < no := by omega
                  go_wp2_with fail
                  go_meet
                  exact ⟨i - no, by congr 1; omega, by omega, fun _ => by omega, rfl⟩
              case rest =>
                obtain ⟨kk, rfl, hkn, hki, rfl⟩ := hcut
                have HKI := Lib.hid hki
                have hck : wc.cell? ⟨gc, kk, none⟩ = some (.bool (decide (kk ∈ ks))) := by
                  rw [cell_blk HW.out.came, List.getElem?_toArray]
                  exact cameRow_get (by rw [← HN.out]; exact hkn)
                have hfk := frozen_blk HW.out.came kk
                obtain ⟨bk, hbk⟩ : ∃ b, b = decide (kk ∈ ks) := ⟨_, rfl⟩
                rw [← hbk] at hck
                have HBK := Lib.hid hbk
                clear hki hbk
                go_upto_if 75 with (fail)
                go_cut [10] (fun lv wx => ∃ ks', ((kk ∈ ks ∧ ks' = ks) ∨ (kk ∉ ks ∧ ks' = ks ++ [kk])) ∧ lv = .int .i64 ((n - ks'.length : Nat) : Int) ∧ wx.heap[gc]? = some (.cells (cameRow ks' L.length).toArray 4 (0, 0)) ∧ Kept (fun j => j = gc) wc wx)
                case first =>
                  cases bk with
                  | true =>
                    have hin : kk ∈ ks := of_decide_eq_true HBK.out.symm
                    go_wp2_with fail
                    go_meet
                    exact ⟨ks, .inl ⟨hin, rfl⟩, by rw [HLF.out], HW.out.came, Kept.refl _ _⟩
                  | false =>
                    have hin : kk ∉ ks := of_decide_eq_false HBK.out.symm
                    have tg := Turned.setCell HW.out.came kk (.bool true)
                    rw [cameRow_set (by rw [← HN.out]; exact hkn)] at tg
                    have HTG := Lib.hid tg
                    have hlfn : lf ≤ n := by have := HLF.out; omega
                    have HIN := Lib.hid hin
                    clear tg hin
                    go_wp2_with fail
                    go_meet
                    refine ⟨ks ++ [kk], .inr ⟨HIN.out, rfl⟩, ?_, HTG.out.get (lt_of_blk HW.out.came), Kept.of_turned HTG.out rfl⟩
                    rw [List.length_append, List.length_singleton]
                    have := HLF.out; have := HKL.out
                    congr 1; omega
                case rest =>
                  obtain ⟨ks', hks, rfl, hcm, hkw⟩ := hcut
                  obtain ⟨wb, hwb⟩ : ∃ W, W = wc := ⟨_, rfl⟩
                  have HKW := Lib.hid hkw; have HCM := Lib.hid hcm; have HKS := Lib.hid hks
                  have hgcs := HGS.out
                  have hpoolw : PoolAt wb pb rv D := HW.out.pool.keep (fun j hj => by
                    rw [hwb]
                    exact hkw.block j (HW.out.pool.lt hj) (fun e => by have := HW.out.far j hj; omega)) (by rw [hwb]; exact hkw.size)
                  rw [← hwb] at HKW HCM ⊢
                  have hold : Kept (fun j => j = pb ∨ j = gc) w3 wb := HW.out.old.trans (G := fun j => j = pb ∨ j = gc) (HKW.out.mono (fun j _ e => .inr e)) (fun j _ h => h)
                  have hkkL : kk < L.length := by rw [← HN.out]; exact hkn
                  obtain ⟨y, hy⟩ : ∃ y, L[kk]? = some y := ⟨L[kk]'hkkL, List.getElem?_eq_getElem _⟩
                  obtain ⟨y1, y2, y3, y4⟩ := HPARTS.out.each y (List.mem_of_getElem? hy)
                  have hpbw := HPB.out
                  have hkeep1 : ∀ b, b < w1.heap.size → wb.heap[b]? = w1.heap[b]? := fun b hb => (hold.block b (by have := H13.out.size; omega) (fun e => by rcases e with e | e <;> omega)).trans (H13.out.block b hb)
                  have hwbs : w1.heap.size ≤ wb.heap.size := Nat.le_trans H13.out.size hold.size
                  obtain ⟨A9, c9, e9, hpk⟩ := own_pks (B := W0.heap.size) HPARTS.out.own (fun e he => ⟨(HPARTS.out.each e he).1, (HPARTS.out.each e he).2.1.bs, by have := (HPARTS.out.each e he).2.2.2; omega⟩) (by have := HN.out; omega)
                  injection e9 with e91 e92 e93
                  rw [← e91] at hpk
                  obtain ⟨bL, oL, rfl, hbL, hrL⟩ := hpk.at_ (by rintro rfl; simp at hy)
                  have HRY : Hid (wb.rangeAt bL (oL + kk * 40) y.cells) := Lib.hid (range_keep (hrL kk y hy) (hkeep1 bL hbL))
                  have hbody := y2.keep (fun g hg => hkeep1 g (y2.lt hg)) hwbs
                  have H16 := Lib.hid (add16 (now := i) wb hpoolw (El.at_ y1) hbody.bs (by omega) (by
                    rcases hbody.blk with h | ⟨g, cu, h, h2, _⟩
                    · exact .inl h
                    · exact .inr ⟨g, 0, cu, h, h2⟩) (by omega))
                  obtain ⟨PY, hPY⟩ : ∃ P, P = y.cells := ⟨_, rfl⟩
                  rw [← hPY] at HRY H16
                  have HLY : Hid (PY.length = 40) := Lib.hid (by rw [hPY]; exact (El.at_ y1).len)
                  have HYP : Hid ((L.map (·.pk))[kk]? = some y.pk) := Lib.hid (by rw [List.getElem?_map, hy]; rfl)
                  have HOLD := Lib.hid hold; have HPW := Lib.hid hpoolw
                  have HK1 := Lib.hid hkeep1
                  have HWBS := Lib.hid hwbs
                  clear hwb hks hcm hkw hgcs hpoolw hold hkkL hy y1 y2 y3 y4 hpbw hkeep1 hwbs e91 e92 e93 hpk hrL hbL hbody hPY hck hfk
                  obtain ⟨l2, hl2⟩ : ∃ l, l = n - ks'.length := ⟨_, rfl⟩
                  rw [← hl2]
                  have HL2 := Lib.hid hl2
                  have hl2n : l2 ≤ n := by omega
                  clear hl2
                  go_wp2_with (first | (refine wpList_load_mid rfl 43 (.tmp 87) ?ho bL (oL + kk * 40) ?hx PY _ ?hr Try.underlying43 rfl ?hi ?_; (case ho => with_reducible rfl); (case hx => rfl); (case hr => exact HRY.out); (case hi => rw [HLY.out]; exact HSZ.out)))

                  refine (H16.out).mono ?_
                  rintro e w5 ⟨rv', D', out, dr, WW, hmem, hadd, rfl, hW0', hWy⟩
                  obtain ⟨hdr, hcase⟩ := whole_step HCUT.out HL0.out HFZ.out HW.out.nd (fun k hk => by rw [List.length_map]; exact HW.out.lt k hk) (by rw [List.length_map, ← HN.out]; exact HKL.out) HYP.out (HW.out.st (by rw [← HN.out]; exact HKL.out)) hadd
                  rw [List.length_map] at hcase
                  have hWok : WW.length = 40 ∧ ∀ v ∈ WW, v.oneCell' = true := by
                    cases out with
                    | none => rw [hW0' rfl]; exact ⟨zeroP_length, zeroP_one⟩
                    | some z =>
                      obtain ⟨A6, c6, e6, e7, _⟩ := hWy z rfl
                      have hp : PkAt WW z A6 c6 := ⟨e6, e7⟩
                      exact ⟨hp.len, hp.one⟩
                  have HWL : Hid (WW.length = 40) := Lib.hid hWok.1
                  have HWO : Hid (∀ v ∈ WW, v.oneCell' = true) := Lib.hid hWok.2
                  subst hdr
                  have HMEM := Lib.hid hmem; have HWY := Lib.hid hWy; have HCASE := Lib.hid hcase
                  clear hmem hWy hcase hWok hW0' hadd H16
                  go_upto_region 18 with (first | (refine wpList_store_new rfl 43 (.tmp 13) (.tmp 90) ?ho w5 _ WW.toArray 43 ?hx ?hy ?hi ?hc ?h1 ?_; (case ho => with_reducible rfl); (case hx => rfl); (case hy => rfl); (case hi => rw [List.size_toArray, HWL.out]; exact HSZ.out); (case hc => exact Eq.trans (b := 40) rfl (by rw [List.size_toArray, HWL.out])); (case h1 => exact all_oneCell_toArray HWO.out)))
                  obtain ⟨w6, hw6⟩ : ∃ W, W = w5.alloc (.cells WW.toArray 43) := ⟨_, rfl⟩
                  have hb56 : Below w5.heap.size w5 w6 := by rw [hw6]; exact (Below.refl _ _).alloc (Nat.le_refl _) _
                  have hx13 : w6.heap[w5.heap.size]? = some (.cells WW.toArray 43 (0, 0)) := by rw [hw6]; exact heap_alloc_new w5 _
                  rw [← hw6]
                  have HB56 := Lib.hid hb56; have HX13 := Lib.hid hx13
                  have HPOOL6 := Lib.hid (HMEM.out.pool.below hb56)
                  obtain ⟨b13, hb13⟩ : ∃ b, b = w5.heap.size := ⟨_, rfl⟩
                  rw [← hb13] at HX13 ⊢
                  clear hw6 hb56 hx13 hb13
                  have hW0b : W0.heap.size ≤ pb ∧ W0.heap.size ≤ gc := by have h1 := HPB.out; have h2 := HPARTS.out.old.size; have h3 := HGS.out; omega
                  have hwbs := HWBS.out
                  have hfoot : ∀ j, foot pb rv D j ∨ bods D j → j = pb ∨ w3.heap.size ≤ j := HW.out.far
                  have hk35 : Kept (fun j => j = pb ∨ j = gc) w3 w5 := HOLD.out.trans HMEM.out.kept (fun j hj hf => by
                    rcases hfoot j (.inl hf) with e | e
                    · exact .inl e
                    · omega)
                  have hk36 : Kept (fun j => j = pb ∨ j = gc) w3 w6 := hk35.trans (G := fun j => j = pb ∨ j = gc) (Kept.of_below HB56.out (Nat.le_refl _)) (fun j _ h => h)
                  have hgc6 : w6.heap[gc]? = some (.cells (cameRow ks' L.length).toArray 4 (0, 0)) := by
                    have h3 := HGS.out
                    refine ((HB56.out.block gc (by have := HMEM.out.kept.size; have := lt_of_blk HCM.out; omega)).trans (HMEM.out.kept.block gc (lt_of_blk HCM.out) (fun hf => ?_))).trans HCM.out
                    rcases hfoot gc (.inl hf) with e | e <;> omega
                  have hW06 : Below W0.heap.size W0 w6 := (HPARTS.out.old.trans (H13.out.mono HPARTS.out.old.size)).trans (hk36.below (by have := H13.out.size; have := HPARTS.out.old.size; omega) (fun k hk => by rcases hk with rfl | rfl <;> omega))
                  have hfin : (out = none ∧ ks'.length < L.length ∧ StW x0 (L.map (·.pk)) ks' (D'.map Dg.abs)) ∨ (out = some x0 ∧ ks'.length = L.length ∧ D' = []) := by
                    rcases HCASE.out with ⟨h1, h2, h3⟩ | ⟨h1, h2, h3, h4⟩ | ⟨h1, h2, h3, h4⟩
                    · rcases HKS.out with ⟨_, e⟩ | ⟨e, _⟩
                      · rw [e, h2]
                        exact .inl ⟨h3, by rw [← HN.out]; exact HKL.out, HW.out.st (by rw [← HN.out]; exact HKL.out)⟩
                      · exact absurd h1 e
                    · rcases HKS.out with ⟨e, _⟩ | ⟨_, e⟩
                      · exact absurd e h1
                      · rw [e]
                        exact .inl ⟨h4, by rw [List.length_append, List.length_singleton]; exact h2, h3⟩
                    · rcases HKS.out with ⟨e, _⟩ | ⟨_, e⟩
                      · exact absurd e h1
                      · rw [e]
                        exact .inr ⟨h4, by rw [List.length_append, List.length_singleton]; exact h2, by simpa using h3⟩
                  have hkin : kk ∈ ks' := by
                    rcases HKS.out with ⟨h, e⟩ | ⟨_, e⟩
                    · rw [e]; exact h
                    · rw [e]; simp
                  have hsub : ∀ j ∈ ks, j ∈ ks' := by
                    intro j hj
                    rcases HKS.out with ⟨h, e⟩ | ⟨_, e⟩
                    · rw [e]; exact hj
                    · rw [e]; exact List.mem_append_left _ hj
                  have HWI2 : Hid (∀ W', Below w6.heap.size w6 W' → WI x0 L w3 pb gc ks' W' rv' D') := Lib.hid fun W' hW' => {
                    nd := by
                      rcases HKS.out with ⟨_, e⟩ | ⟨h, e⟩
                      · rw [e]; exact HW.out.nd
                      · rw [e]; exact nodup_snoc HW.out.nd h
                    lt := fun k hk => by
                      rcases HKS.out with ⟨_, e⟩ | ⟨h, e⟩
                      · rw [e] at hk; exact HW.out.lt k hk
                      · rw [e] at hk
                        rcases List.mem_append.1 hk with h1 | h1
                        · exact HW.out.lt k h1
                        · rw [List.mem_singleton] at h1; rw [h1, ← HN.out]; exact hkn
                    pool := HPOOL6.out.below hW'
                    far := fun j hj => by
                      have hs : w3.heap.size ≤ wb.heap.size := HOLD.out.size
                      have hj2 : (foot pb rv D j ∨ bods D j) ∨ wb.heap.size ≤ j := by
                        rcases hj with hj | hj
                        · exact (HMEM.out.foot j hj).imp .inl id
                        · exact (HMEM.out.bods j hj).imp .inr id
                      rcases hj2 with h | h
                      · exact hfoot j h
                      · exact .inr (by omega)
                    old := hk36.trans (G := fun j => j = pb ∨ j = gc) (Kept.of_below hW' (Nat.le_refl _)) (fun j _ h => h)
                    came := (hW'.block gc (lt_of_blk hgc6)).trans hgc6
                    st := fun hl => by
                      rcases hfin with ⟨_, _, h⟩ | ⟨_, h, _⟩
                      · exact h
                      · omega
                    done := fun hl => by
                      rcases hfin with ⟨_, h, _⟩ | ⟨_, _, h⟩
                      · omega
                      · exact h }
                  have HNX : Hid (∀ j, no + j < i + 1 → j ∈ ks') := Lib.hid fun j hj => by
                    by_cases e : no + j < i
                    · exact hsub j (HCOV.out j e)
                    · have := HKI.out (by omega)
                      have : j = kk := by omega
                      rw [this]; exact hkin
                  have HIN : Hid (i + 1 ≤ no + L.length) := Lib.hid (by rw [← HN.out]; omega)
                  have HL2' : Hid (∀ z : Nat, z = l2 → Value.int .i64 (z : Int) = .int .i64 ((L.length - ks'.length : Nat) : Int)) := Lib.hid fun z hz => by rw [hz, HL2.out, HN.out]
                  rcases hfin with ⟨rfl, hlt', hst'⟩ | ⟨rfl, hfull', rfl⟩
                  · have hl2 : ((l2 : Int) == 0) = false := by rw [beq_eq_false_iff_ne]; have := HL2.out; have := HN.out; omega
                    have hd1 : D'.length = 1 := by
                      rcases hst' with ⟨e, _⟩ | ⟨_, o, e⟩
                      · rw [e] at hkin; cases hkin
                      · have := congrArg List.length e
                        simpa using this
                    have H20 := Lib.hid (len20 w6 HPOOL6.out)
                    rw [hd1] at H20
                    clear hW0b hwbs hfoot hk35 hk36 hgc6 hW06 hkin hsub hlt' hst' hd1
                    go_wp2_with fail
                    refine (H20.out).mono ?_
                    rintro e w7 ⟨rfl, rfl⟩
                    go_wp2_with fail
                    go_roundw
                    case rel => exact ⟨i + 1, ks', rv', D', by go_num, HL2'.out l2 rfl, HIN.out, HWI2.out _ (Below.refl _ _), HNX.out⟩
                    case measure => simp [intOf]; omega
                  · have hl2 : l2 = 0 := by have := HL2.out; have := HN.out; omega
                    obtain ⟨A6, c6, hWe, hWk, hWb, _, _⟩ := HWY.out x0 rfl
                    have hb6 : BodyAt w6 ⟨x0, A6, c6⟩ := hWb.keep (fun g hg => HB56.out.block g (hWb.lt hg)) HB56.out.size
                    have H18 := Lib.hid (same18 w6 (⟨hWe, hWk⟩ : PkAt WW x0 A6 c6) HX0.out hb6.bs ((HBS0.out.below hW06).mono hW06.size) (by have := HL0.out; omega))
                    have RW := Lib.hid (row_of HX13.out)
                    have RX := Lib.hid (row_of ((hW06.block b3 (lt_of_blk HBX0.out)).trans HBX0.out))
                    rw [hl2] at HL2' ⊢
                    clear hW0b hwbs hfoot hk35 hk36 hgc6 hW06 hkin hsub hfull' hWe hWk hWb hb6 hl2
                    go_wp2_with (first | (refine wpList_load_mid_w ?hw 43 (.tmp 13) ?ho b13 0 ?hx WW _ ?hr Try.underlying43 rfl ?hi ?_; (case ho => with_reducible rfl); (case hx => rfl); (case hw => rfl); (case hr => exact RW.out); (case hi => rw [HWL.out]; exact HSZ.out)) | (refine wpList_load_mid_w ?hw 43 (.tmp 3) ?ho b3 0 ?hx P0 _ ?hr Try.underlying43 rfl ?hi ?_; (case ho => with_reducible rfl); (case hx => rfl); (case hw => rfl); (case hr => exact RX.out); (case hi => rw [HLEN0.out]; exact HSZ.out)))
                    refine (H18.out).mono ?_
                    rintro e w7 ⟨rfl, hb7⟩
                    have HB7 := Lib.hid hb7
                    clear hb7
                    go_wp2_with fail
                    go_roundw
                    case rel => exact ⟨i + 1, ks', rv', [], by go_num, HL2'.out 0 rfl, HIN.out, HWI2.out _ HB7.out, HNX.out⟩
                    case measure => simp [intOf]; omega

            · have hfull : ks.length = L.length := full_len hw.nd hw.lt (fun j hj => hcov j (by have := HN.out; omega))
              exact absurd hfull (by have := HN.out; omega)
          · have hfull : ks.length = L.length := by
              have := nodup_len hw.nd hw.lt
              have := HN.out; omega
            have e0 : ((n - ks.length : Nat) : Int) = 0 := by have := HN.out; omega
            rw [e0]
            clear h2 e0
            by_cases h1 : i < no + n
            · have t1 : (i : Int) < (no : Int) + n := by omega
              clear h1
              have hD0 : D = [] := hw.done hfull
              subst hD0
              have H20 := Lib.hid (len20 wr hw.pool)
              have H21 : Hid (Calls Try.prog 21 #[.pointer (some ⟨pb, 0, none⟩)] wr fun e w' => e = .returned (.int .u64 9223372036854775807) ∧ wr = w') := Lib.hid (next21 wr hw.pool)
              have hlow : w.heap.size ≤ pb := by have := HPB.out; have := HW0.out.size; have := HPARTS.out.old.size; omega
              have hgl : w.heap.size ≤ gc := by have := HGC.out; have := HB2.out.size; have := HPB.out; have := HW0.out.size; have := HPARTS.out.old.size; omega
              have hwk : Below w.heap.size w wr := HWC.out.trans (hw.old.below (by have := HWC.out.size; omega) (fun k hk => by rcases hk with rfl | rfl <;> assumption))
              have HWK := Lib.hid hwk
              clear hw hcov hfull hlow hgl hwk
              have hno200 := HG.out.2.1
              go_wp2_with fail
              refine (H20.out).mono ?_
              rintro e w5 ⟨rfl, rfl⟩
              go_wp2_with fail
              refine (H21.out).mono ?_
              rintro e w5 ⟨rfl, rfl⟩
              go_wp2_with fail
              refine (lives_any _).mono ?_
              rintro e w6 ⟨rfl, hb6⟩
              have HB6 := Lib.hid (HWK.out.trans (hb6.mono HWK.out.size))
              clear hb6
              go_wp2_with fail
              go_ret
              exact ⟨rfl, HB6.out⟩
            · have t1 : ¬ (i : Int) < (no : Int) + n := by omega
              clear h1
              have hD0 : D = [] := hw.done hfull
              subst hD0
              have H20 := Lib.hid (len20 wr hw.pool)
              have H21 : Hid (Calls Try.prog 21 #[.pointer (some ⟨pb, 0, none⟩)] wr fun e w' => e = .returned (.int .u64 9223372036854775807) ∧ wr = w') := Lib.hid (next21 wr hw.pool)
              have hlow : w.heap.size ≤ pb := by have := HPB.out; have := HW0.out.size; have := HPARTS.out.old.size; omega
              have hgl : w.heap.size ≤ gc := by have := HGC.out; have := HB2.out.size; have := HPB.out; have := HW0.out.size; have := HPARTS.out.old.size; omega
              have hwk : Below w.heap.size w wr := HWC.out.trans (hw.old.below (by have := HWC.out.size; omega) (fun k hk => by rcases hk with rfl | rfl <;> assumption))
              have HWK := Lib.hid hwk
              clear hw hcov hfull hlow hgl hwk
              have hno200 := HG.out.2.1
              go_wp2_with fail
              refine (H20.out).mono ?_
              rintro e w5 ⟨rfl, rfl⟩
              go_wp2_with fail
              refine (H21.out).mono ?_
              rintro e w5 ⟨rfl, rfl⟩
              go_wp2_with fail
              refine (lives_any _).mono ?_
              rintro e w6 ⟨rfl, hb6⟩
              have HB6 := Lib.hid (HWK.out.trans (hb6.mono HWK.out.size))
              clear hb6
              go_wp2_with fail
              go_ret
              exact ⟨rfl, HB6.out⟩
end Go.Proofs.Ytjldcblklbikaaa
