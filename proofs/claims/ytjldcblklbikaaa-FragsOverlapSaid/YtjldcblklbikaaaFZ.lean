/- Two parts that clash spoil their datagram: the walk of the law. No condition on the arguments but that they read. (Written out by exp.py.) -/
import Derived.Test.YtjldcblklbikaaaFY
import Derived.Test.YtjldcblklbikaaaFU
import Derived.Test.YtjldcblklbikaaaPlainY
import Derived.Test.YtjldcblklbikaaaLives
import Derived.StillTailTactics
namespace Go.Proofs.Ytjldcblklbikaaa
open Go.RowKit
set_option linter.unusedVariables false
set_option linter.unusedSimpArgs false
theorem zero_set2 {x : Pk} (h : PkOk x) (v : Value) : (((((pkV x v).toArray.setIfInBounds 34 (.bool false)).setIfInBounds 35 (.int .u32 0)).setIfInBounds 36 (.int .u16 0)).setIfInBounds 37 (.bool false)) = (pkV { x with is := false, id := 0, off := 0, more := false } v).toArray := by
  unfold pkV
  rw [show (34 : Nat) = 32 + 2 from rfl, pkT_set h.src h.dst, show (35 : Nat) = 32 + 3 from rfl, pkT_set h.src h.dst, show (36 : Nat) = 32 + 4 from rfl, pkT_set h.src h.dst, show (37 : Nat) = 32 + 5 from rfl, pkT_set h.src h.dst]
  rfl
theorem id_set {x : Pk} (h : PkOk x) (v : Value) : (pkV x v).toArray.setIfInBounds 35 (.int .u32 6) = (pkV (six x) v).toArray := by
  unfold pkV
  rw [show (35 : Nat) = 32 + 3 from rfl, pkT_set h.src h.dst]; rfl
theorem row8_set {l : List Nat} {j b : Nat} : (row8 l).set j (.int .u8 (b : Int)) = row8 (l.set j b) := by
  unfold row8; rw [List.map_set]
/-- one byte turned -/
def turn8 (l : List Nat) (j : Nat) : List Nat := l.set j ((l.getD j 0 + 1) % 256)
theorem turn8_len (l : List Nat) (j : Nat) : (turn8 l j).length = l.length := by simp [turn8]
theorem turn8_ne {l : List Nat} {j : Nat} (h : j < l.length) (h8 : ∀ y ∈ l, y < 256) : turn8 l j ≠ l := fun e => by
  have h1 : (turn8 l j)[j]? = l[j]? := by rw [e]
  have h2 : l[j]? = some l[j] := List.getElem?_eq_getElem h
  have h3 := h8 l[j] (List.getElem_mem h)
  unfold turn8 at h1
  rw [List.getElem?_set_self h, List.getD_eq_getElem?_getD, h2] at h1
  have : (l[j] + 1) % 256 = l[j] := by simpa using h1
  omega
theorem turn8_lt {l : List Nat} {j : Nat} (h8 : ∀ y ∈ l, y < 256) : ∀ y ∈ turn8 l j, y < 256 := fun y hy => by
  unfold turn8 at hy
  rcases List.mem_or_eq_of_mem_set hy with h | h
  · exact h8 y h
  · omega
theorem foot_nil {pb k : Nat} (h : foot pb (.slice none 0 0) [] k) : k = pb := by
  rcases h with h | h | ⟨d, hd, _⟩
  · exact h
  · cases h
  · cases hd
theorem ov_end {D : List Dg} {x : Pk} (h : D.map Dg.abs = [ovB x]) : D.length = 1 ∧ D.map (·.over) = [60010] ∧ outK D 60009 D.length = [] ∧ (D.filter fun d => !(decide (d.over ≤ 60009))) = D ∧ outK D 60010 D.length = [] ∧ (D.filter fun d => !(decide (d.over ≤ 60010))) = [] := by
  cases D with
  | nil => cases h
  | cons d D =>
    cases D with
    | cons e D => simp at h
    | nil =>
      simp only [List.map_cons, List.map_nil, List.cons.injEq, and_true] at h
      have ho : d.over = 60010 := congrArg Ds.over h
      have hL : d.L = [] := List.map_eq_nil_iff.1 (congrArg Ds.L h)
      have hf : first0 d.L = [] := by rw [hL]; rfl
      refine ⟨rfl, by rw [List.map_cons, ho]; rfl, ?_, ?_, ?_, ?_⟩
      · simp [outK, ho]
      · simp [ho]
      · simp [outK, ho, hf]
      · simp [ho]
theorem tick_as {pb now : Nat} {rv : Value} {D D' : List Dg} (w : World) (hP : PoolAt w pb rv D) (ho : outK D now D.length = []) (hf : (D.filter fun d => !(decide (d.over ≤ now))) = D') :
    Calls Try.prog 11 #[.pointer (some ⟨pb, 0, none⟩), .int .u64 (now : Int)] w fun e w' => ∃ rv' A, e = .returned (.slice A 0 0) ∧ AddMem pb rv D w w' rv' D' := by
  refine (tick11 (now := now) w hP).mono ?_
  rintro e w' ⟨rv', A, rfl, hm, -⟩
  rw [ho, hf] at *
  exact ⟨rv', A, rfl, hm⟩
set_option maxRecDepth 100000 in
set_option maxHeartbeats 8000000 in
theorem fragsOverlap_walk {P : List Value} {x : Pk} {A A2 : Option Addr} {c c2 z0 z1 : Nat} {sz : List Nat} (w : World) (hx : PkAt P x A c) (hb : Bs w w.heap.size A c x.body) (hs : RdL w w.heap.size A2 sz) (hs8 : ∀ y ∈ sz, y < 256) (hz0 : z0 < 65536) (hz1 : z1 < 65536) :
    Calls Try.prog 6 #[.agg P.toArray, .slice A2 sz.length c2, .agg #[.int .u16 (z0 : Int), .int .u16 (z1 : Int)]] w (BoolPost true w) := by
  obtain ⟨V1, hV1⟩ : ∃ V, V = w.alloc (.cells P.toArray 43) := ⟨_, rfl⟩
  obtain ⟨V, hV⟩ : ∃ V, V = V1.alloc (.cells #[.int .u16 (z0 : Int), .int .u16 (z1 : Int)] 64) := ⟨_, rfl⟩
  have h01 : Below w.heap.size w V1 := by rw [hV1]; exact (Below.refl _ _).alloc (Nat.le_refl _) _
  have h12 : Below V1.heap.size V1 V := by rw [hV]; exact (Below.refl _ _).alloc (Nat.le_refl _) _
  have hal : Below w.heap.size w V := h01.trans (h12.mono h01.size)
  have hs1 : V1.heap.size = w.heap.size + 1 := by rw [hV1]; simp
  have hbox : V.heap[w.heap.size]? = some (.cells P.toArray 43 (0, 0)) := (h12.block _ (by omega)).trans (by rw [hV1]; exact heap_alloc_new w _)
  have hbz : V.heap[V1.heap.size]? = some (.cells #[.int .u16 (z0 : Int), .int .u16 (z1 : Int)] 64 (0, 0)) := by rw [hV]; exact heap_alloc_new V1 _
  have hVs : V.heap.size = V1.heap.size + 1 := by rw [hV]; simp
  obtain ⟨b3, hb3⟩ : ∃ b, b = w.heap.size := ⟨_, rfl⟩
  obtain ⟨b5, hb5⟩ : ∃ b, b = V1.heap.size := ⟨_, rfl⟩
  rw [← hb3] at hbox
  rw [← hb5] at hbz
  have hb5' : b5 = w.heap.size + 1 := by omega
  have c39 := box_cell hbox (hx.tail 7)
  have HB3 : Hid (b3 = w.heap.size ∧ b5 = b3 + 1 ∧ V.heap.size = b5 + 1) := Lib.hid ⟨hb3, by omega, by omega⟩
  have HBX := Lib.hid hbox
  have HBZ := Lib.hid hbz
  have HAL := Lib.hid hal
  have HX := Lib.hid hx
  have HBS := Lib.hid hb
  have HSZ := Lib.hid size43
  have HRS := Lib.hid hs
  have HS8 := Lib.hid hs8
  obtain ⟨ns, hns⟩ : ∃ n, n = sz.length := ⟨_, rfl⟩
  obtain ⟨m, hm⟩ : ∃ n, n = x.body.length := ⟨_, rfl⟩
  rw [← hns]
  rw [← hm] at c39
  have HNS := Lib.hid hns
  have HM := Lib.hid hm
  clear hal hbox hbz hVs hx hb hs hs8 hns hm h01 h12 hs1
  go_enter Try.func6, Try.ntmps6
  go_upto_region 1 with (fail)
  rw [← hV1, ← hV, ← hb5', ← hb3]
  clear hV1 hV hb3 hb5 hb5'
  by_cases g1 : 4000 < m
  · have t1 : (m : Int) > 4000 := by omega
    clear g1
    go_wp2_with fail
    refine (lives_any _).mono ?_
    rintro e w9 ⟨rfl, hb9⟩
    have HB9 := Lib.hid (HAL.out.trans (hb9.mono HAL.out.size))
    clear hb9
    go_wp2_with fail
    go_ret
    exact ⟨rfl, HB9.out⟩
  · have t1 : ¬ (m : Int) > 4000 := by omega
    by_cases g2 : m < 20
    · have t2 : (m : Int) < 20 := by omega
      clear g1 g2
      go_wp2_with fail
      refine (lives_any _).mono ?_
      rintro e w9 ⟨rfl, hb9⟩
      have HB9 := Lib.hid (HAL.out.trans (hb9.mono HAL.out.size))
      clear hb9
      go_wp2_with fail
      go_ret
      exact ⟨rfl, HB9.out⟩
    · have t2 : ¬ (m : Int) < 20 := by omega
      by_cases g3 : 100 < ns
      · have t3 : (ns : Int) > 100 := by omega
        clear g1 g2 g3
        go_wp2_with fail
        refine (lives_any _).mono ?_
        rintro e w9 ⟨rfl, hb9⟩
        have HB9 := Lib.hid (HAL.out.trans (hb9.mono HAL.out.size))
        clear hb9
        go_wp2_with fail
        go_ret
        exact ⟨rfl, HB9.out⟩
      · have t3 : ¬ (ns : Int) > 100 := by omega
        have HG : Hid (m ≤ 4000 ∧ 20 ≤ m ∧ ns ≤ 100) := Lib.hid (by omega)
        clear g1 g2 g3
        have d34 := box_cell HBX.out (HX.out.tail 2)
        have d35 := box_cell HBX.out (HX.out.tail 3)
        have d36 := box_cell HBX.out (HX.out.tail 4)
        have d37 := box_cell HBX.out (HX.out.tail 5)
        have f34 := frozen_blk HBX.out 34
        have f35 := frozen_blk HBX.out 35
        have f36 := frozen_blk HBX.out 36
        have f37 := frozen_blk HBX.out 37
        go_upto_region 4 with (fail)
        have hP : P = pkV x (.slice A x.body.length c) := HX.out.eq
        have t34 := Turned.setCell HBX.out 34 (.bool false)
        have t35 := t34.trans (Turned.setCell (t34.get (lt_of_blk HBX.out)) 35 (.int .u32 0))
        have t36 := t35.trans (Turned.setCell (t35.get (lt_of_blk HBX.out)) 36 (.int .u16 0))
        have t37 := t36.trans (Turned.setCell (t36.get (lt_of_blk HBX.out)) 37 (.bool false))
        obtain ⟨W0, hW0⟩ : ∃ W', W' = ((((V.setCell ⟨b3, 34, none⟩ (.bool false)).setCell ⟨b3, 35, none⟩ (.int .u32 0)).setCell ⟨b3, 36, none⟩ (.int .u16 0)).setCell ⟨b3, 37, none⟩ (.bool false)) := ⟨_, rfl⟩
        rw [← hW0] at t37 ⊢
        rw [hP, zero_set2 HX.out.ok] at t37
        obtain ⟨x0, hx0⟩ : ∃ y, y = { x with is := false, id := 0, off := 0, more := false } := ⟨_, rfl⟩
        rw [← hx0] at t37
        have hok0 : PkOk x0 := by rw [hx0]; exact ⟨HX.out.ok.src, HX.out.ok.dst, HX.out.ok.src8, HX.out.ok.dst8, HX.out.ok.hops, by show (0 : Nat) < _; omega, by show (0 : Nat) < _; omega, HX.out.ok.next, HX.out.ok.body8⟩
        have hbody0 : x0.body = x.body := by rw [hx0]
        have HFZ : Hid (x0.is = false ∧ x0.id = 0 ∧ x0.off = 0 ∧ x0.more = false) := Lib.hid (by rw [hx0]; exact ⟨rfl, rfl, rfl, rfl⟩)
        obtain ⟨P0, hP0⟩ : ∃ P, P = pkV x0 (.slice A x.body.length c) := ⟨_, rfl⟩
        rw [← hP0] at t37
        rw [← hbody0] at hP0
        have HX0 : Hid (PkAt P0 x0 A c) := Lib.hid ⟨hP0, hok0⟩
        have HBX0 := Lib.hid (t37.get (lt_of_blk HBX.out))
        have HBZ0 := Lib.hid ((t37.other (by have := HB3.out; omega)).trans HBZ.out)
        have hw0 : Below w.heap.size w W0 := HAL.out.trans (t37.below (by have := HB3.out; omega))
        have HW0 := Lib.hid hw0
        have HBS0 : Hid (Bs W0 W0.heap.size A c x0.body) := Lib.hid (by rw [hbody0]; exact (HBS.out.below hw0).mono hw0.size)
        have HL0 : Hid (x0.body.length ≤ 4000) := Lib.hid (by rw [hbody0, ← HM.out]; exact HG.out.1)
        have H24 := Lib.hid (cut24 (c2 := c2) W0 HX0.out HBS0.out HL0.out ((HRS.out.below hw0).mono hw0.size) (by rw [← HNS.out]; exact HG.out.2.2) HS8.out)
        rw [← HNS.out] at H24
        have HLEN0 := Lib.hid HX0.out.len
        have R0 := Lib.hid (row_of HBX0.out)
        clear t34 t35 t36 t37 hW0 hP hx0 hok0 hbody0 hP0 hw0 d34 d35 d36 d37 f34 f35 f36 f37 c39 t1 t2 t3 HBX HX HBS HM HBZ
        go_wp2_with (first | (refine wpList_load_mid rfl 43 (.tmp 3) ?ho b3 0 ?hx P0 _ ?hr Try.underlying43 rfl ?hi ?_; (case ho => with_reducible rfl); (case hx => rfl); (case hr => exact R0.out); (case hi => rw [HLEN0.out]; exact HSZ.out)))
        refine (H24.out).mono ?_
        rintro e w1 ⟨L, AL, cL, at_, hcut, rfl, hparts⟩
        have HCUT := Lib.hid hcut
        have HPARTS := Lib.hid hparts
        have hn32 := hcut.most
        have hnpos := hcut.pos
        rw [List.length_map] at hn32 hnpos
        have HW1 : Hid (Below w.heap.size w w1) := Lib.hid (HW0.out.trans (hparts.old.mono HW0.out.size))
        obtain ⟨n, hn⟩ : ∃ n, n = L.length := ⟨_, rfl⟩
        rw [← hn] at hn32 hnpos ⊢
        have HN := Lib.hid hn
        clear hcut hparts hn H24
        by_cases g4 : n < 2
        · have t4 : (n : Int) < 2 := by omega
          clear g4
          go_wp2_with fail
          refine (lives_any _).mono ?_
          rintro e w9 ⟨rfl, hb9⟩
          have HB9 := Lib.hid (HW1.out.trans (hb9.mono HW1.out.size))
          clear hb9
          go_wp2_with fail
          go_ret
          exact ⟨rfl, HB9.out⟩
        · have t4 : ¬ (n : Int) < 2 := by omega
          have hn2 : 1 < n := by omega
          clear g4
          obtain ⟨k, hk⟩ : ∃ k, k = z0 % n := ⟨_, rfl⟩
          have ek : (z0 : Int).tmod (n : Int) = (k : Int) := by rw [hk]; rfl
          have hkn : k < n := by rw [hk]; exact Nat.mod_lt _ hnpos
          have hn0 : ¬ (n : Int) = 0 := by omega
          have hn1 : ¬ (n : Int) = -1 := by omega
          have hbz1 : w1.heap[b5]? = _ := (HPARTS.out.old.block b5 (lt_of_blk HBZ0.out)).trans HBZ0.out
          have c50 : w1.cell? ⟨b5, 0, none⟩ = some (.int .u16 (z0 : Int)) := by rw [cell_blk hbz1]; rfl
          have HBZ1 := Lib.hid hbz1
          have hkL : k < L.length := by rw [← HN.out]; exact hkn
          obtain ⟨y, hy⟩ : ∃ y, L[k]? = some y := ⟨L[k]'hkL, List.getElem?_eq_getElem _⟩
          obtain ⟨y1, y2, y3, y4⟩ := HPARTS.out.each y (List.mem_of_getElem? hy)
          obtain ⟨A9, c9, e9, hpk⟩ := own_pks (B := W0.heap.size) HPARTS.out.own (fun e he => ⟨(HPARTS.out.each e he).1, (HPARTS.out.each e he).2.1.bs, by have := (HPARTS.out.each e he).2.2.2; omega⟩) (by have := HN.out; omega)
          injection e9 with e91 e92 e93
          rw [← e91] at hpk
          have HPK := Lib.hid hpk
          obtain ⟨bL, oL, rfl, hbL, hrL⟩ := hpk.at_ (by rintro rfl; simp at hy)
          have HRL := Lib.hid hrL; have HBL := Lib.hid hbL
          have HY := Lib.hid hy; have HY1 := Lib.hid y1; have HY2 := Lib.hid y2; have HY4 := Lib.hid y4
          have HYP : Hid ((L.map (·.pk))[k]? = some y.pk) := Lib.hid (by rw [List.getElem?_map, hy]; rfl)
          have hy0 : 0 < y.pk.body.length := by
            obtain ⟨_, _, e, _⟩ := HCUT.out.at' HYP.out
            have := HCUT.out.lt (List.getElem?_eq_some_iff.1 HYP.out).1 (by rw [List.length_map, ← HN.out]; exact hn2)
            omega
          have HRY : Hid (w1.rangeAt bL (oL + k * 40) y.cells) := Lib.hid (hrL k y hy)
          obtain ⟨PY, hPY⟩ : ∃ P, P = y.cells := ⟨_, rfl⟩
          rw [← hPY] at HRY
          have HPYE := Lib.hid hPY
          have HYA : Hid (PkAt PY y.pk y.adr y.cap) := Lib.hid (by rw [hPY]; exact El.at_ y1)
          have HLY := Lib.hid HYA.out.len
          have HOY := Lib.hid HYA.out.one
          obtain ⟨A9, hA9⟩ : ∃ a, a = y.adr := ⟨_, rfl⟩
          obtain ⟨c9, hc9⟩ : ∃ a, a = y.cap := ⟨_, rfl⟩
          obtain ⟨yb, hyb⟩ : ∃ a, a = y.pk.body := ⟨_, rfl⟩
          obtain ⟨m9, hm9⟩ : ∃ a, a = yb.length := ⟨_, rfl⟩
          have hyp := y2.bs
          rw [← hA9, ← hc9, ← hyb] at hyp
          rw [← hyb, ← hm9] at hy0
          have HYB := Lib.hid hyp
          have HM9 := Lib.hid hm9; have HYBE := Lib.hid hyb; have HA9 := Lib.hid hA9; have HC9 := Lib.hid hc9
          have HYP0 := Lib.hid hy0
          clear hyp hy y1 y2 y3 y4 e91 e92 e93 hpk hrL hbL hPY hbz1 hkL hA9 hc9 hyb hm9 hy0 hk
          go_upto_region 9 with (first | (refine wpList_load_mid rfl 43 (.tmp 58) ?ho bL (oL + k * 40) ?hx PY _ ?hr Try.underlying43 rfl ?hi ?_; (case ho => with_reducible rfl); (case hx => rfl); (case hr => exact HRY.out); (case hi => rw [HLY.out]; exact HSZ.out)) | (refine wpList_store_new rfl 43 (.tmp 9) (.tmp 59) ?ho w1 _ PY.toArray 43 ?hx ?hy ?hi ?hc ?h1 ?_; (case ho => with_reducible rfl); (case hx => rfl); (case hy => rfl); (case hi => rw [List.size_toArray, HLY.out]; exact HSZ.out); (case hc => exact Eq.trans (b := 40) rfl (by rw [List.size_toArray, HLY.out])); (case h1 => exact all_oneCell_toArray HOY.out)))
          obtain ⟨w2, hw2⟩ : ∃ W, W = w1.alloc (.cells PY.toArray 43) := ⟨_, rfl⟩
          have hb12 : Below w1.heap.size w1 w2 := by rw [hw2]; exact (Below.refl _ _).alloc (Nat.le_refl _) _
          have hx9 : w2.heap[w1.heap.size]? = some (.cells PY.toArray 43 (0, 0)) := by rw [hw2]; exact heap_alloc_new w1 _
          have hw2s : w2.heap.size = w1.heap.size + 1 := by rw [hw2]; simp
          rw [← hw2]
          obtain ⟨b9, hb9⟩ : ∃ b, b = w1.heap.size := ⟨_, rfl⟩
          rw [← hb9] at hx9 ⊢
          have c939 := box_cell hx9 (HYA.out.tail 7)
          rw [← HA9.out, ← HC9.out, ← HYBE.out, ← HM9.out] at c939
          have HB12 := Lib.hid hb12; have HX9 := Lib.hid hx9
          have HB9S : Hid (b9 = w1.heap.size ∧ w2.heap.size = b9 + 1) := Lib.hid ⟨hb9, by omega⟩
          have f939 := frozen_blk hx9 39
          clear hb12 hx9 hw2s hb9 hw2 c50
          have hm0 : ((m9 : Int) == 0) = false := by rw [beq_eq_false_iff_ne]; have := HYP0.out; omega
          go_upto_region 11 with (fail)
          go_wp2_with (at_builtin; refine wpList_append_bs rfl _ _ rfl w2.heap.size (.slice none 0 0) 0 [] rfl (World.ownsRow_nil _ _ _ _) A9 c9 yb ?l0 ((HYB.out.below HB12.out).mono HB12.out.size) ?l1 ?l2 ?_)
          case l0 => rw [← HM9.out]; go_simp
          case l1 => have := HM9.out; have := HY4.out; rw [HYBE.out]; omega
          case l2 => exact Nat.le_refl _
          intro v3 w3 hown3 hg3 _
          rcases hown3.2 with ⟨_, hl⟩ | ⟨g9, cp, cur, hv3, hbg, hg9, hn9, hmx9, hs9, ht9⟩
          · exact absurd hl (by have := HYP0.out; have := HM9.out; omega)
          · have hx93 : w3.heap[b9]? = some (.cells PY.toArray 43 (0, 0)) := (hg3.block b9 (by have := HB9S.out; omega) (fun e => by cases e)).trans HX9.out
            have t9 := Turned.setCell hx93 39 v3
            have hPYe : PY = pkV y.pk (.slice y.adr y.pk.body.length y.cap) := HYA.out.eq
            rw [hPYe, body_set HYA.out.ok] at t9
            have f93 := frozen_blk hx93 39
            have g93 : w3.cell? ⟨b9, 39, none⟩ = some (.slice A9 m9 c9) := by
              have := box_cell hx93 (HYA.out.tail 7)
              rw [← HA9.out, ← HC9.out, ← HYBE.out, ← HM9.out] at this
              exact this
            obtain ⟨W4, hW4⟩ : ∃ W, W = w3.setCell ⟨b9, 39, none⟩ v3 := ⟨_, rfl⟩
            rw [← hW4] at t9
            have hx94 := t9.get (lt_of_blk hx93)
            have hg94 : W4.heap[g9]? = some (.cells cur 5 (0, 0)) := (t9.other (by have := HB9S.out; omega)).trans hg9
            have h24 : Below w2.heap.size w2 w3 := ⟨hg3.os, hg3.tape, hg3.output, hg3.size, fun i hi => hg3.block i hi (fun e => by cases e)⟩
            have h14 : Below w1.heap.size w1 W4 := (HB12.out.trans (h24.mono HB12.out.size)).trans (t9.below (by have := HB9S.out; omega))
            have hbz4 : W4.heap[b5]? = _ := (h14.block b5 (lt_of_blk HBZ1.out)).trans HBZ1.out
            have c51 : W4.cell? ⟨b5, 1, none⟩ = some (.int .u16 (z1 : Int)) := by rw [cell_blk hbz4]; rfl
            have c4 : W4.cell? ⟨b9, 39, none⟩ = some v3 := box_cell hx94 (pkV_tail HYA.out.ok 7)
            obtain ⟨j, hj⟩ : ∃ j, j = z1 % m9 := ⟨_, rfl⟩
            have hjm : j < m9 := by rw [hj]; exact Nat.mod_lt _ HYP0.out
            have ej : (z1 : Int).tmod (m9 : Int) = (j : Int) := by rw [hj]; rfl
            have hm1 : ¬ (m9 : Int) = 0 := by omega
            have hm2 : ¬ (m9 : Int) = -1 := by omega
            have hjl : j < yb.length := by rw [← HM9.out]; exact hjm
            obtain ⟨bt, hbt⟩ : ∃ b, yb[j]? = some b := ⟨yb[j]'hjl, List.getElem?_eq_getElem _⟩
            have hbt8 : bt < 256 := by
              have := HYA.out.ok.body8 bt (by rw [← HYBE.out]; exact List.mem_of_getElem? hbt)
              exact this
            have hcj : W4.cell? ⟨g9, j, none⟩ = some (.int .u8 (bt : Int)) := by
              have h1 := row8_get hbt
              rw [← ht9, List.getElem?_take_of_lt (by omega)] at h1
              rw [cell_blk hg94]
              simpa using h1
            have fj := frozen_blk hg94 j
            have hm9m : m9 ≤ cp := by rw [HM9.out]; simpa using hn9
            rw [← HM9.out] at hv3
            rw [hv3] at hW4 c4 ⊢
            have HV3 := Lib.hid hv3
            have HW4 := Lib.hid hW4
            have HX94 := Lib.hid hx94; have HG94 := Lib.hid hg94; have H14 := Lib.hid h14; have HT9 := Lib.hid ht9; have HS9 := Lib.hid hs9; have HMX := Lib.hid hmx9; have HBT := Lib.hid hbt; have HGG := Lib.hid hbg
            clear hown3 hg3 hv3 hbg hg9 hn9 hmx9 hs9 ht9 hx93 t9 hPYe hW4 hx94 hg94 h24 h14 hbz4 hj hbt c939 f939
            go_upto_region 12 with (fail)
            rw [← HW4.out]
            clear g93 f93
            have hm3 : ¬ m9 = 0 := by omega
            have ew : IntKind.i64.wrap (z1 : Int) = (z1 : Int) := IntWalk.i64_in _ (by omega)
            obtain ⟨bu, hbu⟩ : ∃ b, b = (bt + 1) % 256 := ⟨_, rfl⟩
            have eu : IntKind.u8.wrap ((bt : Int) + 1) = (bu : Int) := by rw [IntKind.wrap_u8]; omega
            have HBU := Lib.hid hbu
            clear hbu
            go_still_tail 12, (by kernel_rfl)
            go_upto_region 13 with (fail)
            have tj := Turned.setCell HG94.out j (.int .u8 (bu : Int))
            obtain ⟨W5, hW5⟩ : ∃ W, W = (W4.setCell ⟨g9, j, none⟩ (.int .u8 (bu : Int))).drew := ⟨_, rfl⟩
            rw [← hW5]
            have h45 : Below w1.heap.size W4 W5 := by rw [hW5]; exact (tj.below (by have := HGG.out; have := HB9S.out; omega)).drew
            have hx95 : W5.heap[b9]? = some (.cells (pkV y.pk v3).toArray 43 (0, 0)) := by rw [hW5]; exact (tj.other (by have := HGG.out; have := HB9S.out; omega)).trans HX94.out
            have hg95 : W5.heap[g9]? = some (.cells (cur.setIfInBounds j (.int .u8 (bu : Int))) 5 (0, 0)) := by rw [hW5]; exact tj.get (lt_of_blk HG94.out)
            obtain ⟨z, hz⟩ : ∃ z, z = { y.pk with body := turn8 yb j } := ⟨_, rfl⟩
            have hzb : z.body = turn8 yb j := by rw [hz]
            have hzl : z.body.length = m9 := by rw [hzb, turn8_len, HM9.out]
            have hyb8 : ∀ b ∈ yb, b < 256 := fun b hb => HYA.out.ok.body8 b (by rw [← HYBE.out]; exact hb)
            have hzok : PkOk z := by rw [hz]; exact ⟨HYA.out.ok.src, HYA.out.ok.dst, HYA.out.ok.src8, HYA.out.ok.dst8, HYA.out.ok.hops, HYA.out.ok.id, HYA.out.ok.off, HYA.out.ok.next, turn8_lt hyb8⟩
            have hpz : pkV y.pk (.slice (some ⟨g9, 0, none⟩) m9 cp) = pkL z (some ⟨g9, 0, none⟩) cp := by rw [← pkV_eq, hzl, hz]; rfl
            rw [HV3.out, hpz] at hx95
            have hbsz : Bs W5 W5.heap.size (some ⟨g9, 0, none⟩) cp z.body := ⟨fun _ => ⟨g9, 0, rfl, lt_of_blk hg95, fun i u hi => by
              rw [Nat.zero_add, cell_blk hg95]
              rw [hzb] at hi
              unfold turn8 at hi
              rw [List.getElem?_set] at hi
              rw [Array.getElem?_setIfInBounds]
              have him : i < m9 := by
                rw [HM9.out]
                by_cases e : j = i
                · subst e; exact hjl
                · rw [if_neg e] at hi; exact (List.getElem?_eq_some_iff.1 hi).1
              have hcs := HS9.out
              by_cases e : j = i
              · subst e
                rw [if_pos rfl, if_pos hjl] at hi
                rw [if_pos rfl, if_pos (by rw [hcs]; omega)]
                rw [List.getD_eq_getElem?_getD, HBT.out] at hi
                have hi' : (bt + 1) % 256 = u := by simpa using hi
                rw [← hi', HBU.out]
              · rw [if_neg e] at hi
                rw [if_neg e]
                have h1 := row8_get hi
                rw [← HT9.out, List.getElem?_take_of_lt (by have := HM9.out; omega)] at h1
                simpa using h1⟩, by rw [hzl]; exact hm9m, (fun e => by cases e), HMX.out⟩
            obtain ⟨PZ, hPZ⟩ : ∃ P, P = pkL z (some ⟨g9, 0, none⟩) cp := ⟨_, rfl⟩
            rw [← hPZ] at hx95
            have HPZ : Hid (PkAt PZ z (some ⟨g9, 0, none⟩) cp) := Lib.hid ⟨hPZ, hzok⟩
            have HX95 := Lib.hid hx95; have HG95 := Lib.hid hg95; have HBSZ := Lib.hid hbsz
            have HZN : Hid (z.body ≠ y.pk.body ∧ z.body.length = y.pk.body.length ∧ z = { y.pk with body := z.body }) := Lib.hid ⟨by rw [hzb, ← HYBE.out]; exact turn8_ne hjl hyb8, by rw [hzl, HM9.out, HYBE.out], by rw [hz]⟩
            have h15 : Below w1.heap.size w1 W5 := H14.out.trans h45
            have H15 := Lib.hid h15
            have H10 := Lib.hid (new10 W5)
            have HLZ := Lib.hid HPZ.out.len
            clear tj hW5 h45 hx95 hg95 hz hzb hzl hyb8 hzok hpz hbsz hPZ h15 c51 c4 hcj fj ej hm1 hm2 hm3 ew eu hbt8 hjl hjm hm9m hm0
            go_wp2_with fail
            refine (H10.out).mono ?_
            rintro e w6 ⟨rfl, hpool, hb6, hs6⟩
            obtain ⟨pb, hpb⟩ : ∃ b, b = W5.heap.size := ⟨_, rfl⟩
            rw [← hpb] at hpool hs6 ⊢
            have h16 : Below w1.heap.size w1 w6 := H15.out.trans (hb6.mono H15.out.size)
            have HADD : Hid (∀ (i : Nat) (u : El), L[i]? = some u → ∀ (W : World) (rv : Value) (D : List Dg) (now : Nat), AddMem pb (.slice none 0 0) [] w6 W rv D → now < 18446744073709551616 → W.rangeAt bL (oL + i * 40) u.cells ∧ Calls Try.prog 16 #[.pointer (some ⟨pb, 0, none⟩), .int .u64 (now : Int), .agg u.cells.toArray] W (AddRes pb rv D now u.pk W) ∧ (∀ (A9 : Option Addr) (c9 : Nat), BodyAt W u)) := Lib.hid fun i u hu W rv D now hm hnow => by
              have hkeep : ∀ b, b < w1.heap.size → W.heap[b]? = w1.heap[b]? := fun b hb => (hm.kept.block b (by have := h16.size; omega) (fun e => by have := foot_nil e; have := H15.out.size; omega)).trans (h16.block b hb)
              have hsz : w1.heap.size ≤ W.heap.size := Nat.le_trans h16.size hm.kept.size
              obtain ⟨u1, u2, u3, u4⟩ := HPARTS.out.each u (List.mem_of_getElem? hu)
              have hbody := u2.keep (fun g hg => hkeep g (u2.lt hg)) hsz
              refine ⟨range_keep (HRL.out i u hu) (hkeep bL HBL.out), add16 W hm.pool (El.at_ u1) hbody.bs (by omega) ?_ hnow, fun _ _ => hbody⟩
              rcases hbody.blk with h | ⟨g, cu, h, h2, _⟩
              · exact .inl h
              · exact .inr ⟨g, 0, cu, h, h2⟩
            have HP6 := Lib.hid hpool
            have H16 := Lib.hid h16
            have HPB : Hid (pb = W5.heap.size ∧ w6.heap.size = pb + 1) := Lib.hid ⟨hpb, by omega⟩
            have HX96 := Lib.hid ((hb6.block b9 (lt_of_blk HX95.out)).trans HX95.out)
            have HG96 := Lib.hid ((hb6.block g9 (lt_of_blk HG95.out)).trans HG95.out)
            have HBSZ6 := Lib.hid ((HBSZ.out.below hb6).mono hb6.size)
            have hadd := (HADD.out k y HY.out w6 _ _ 10 (AddMem.refl hpool) (by omega)).2.1
            have hr6 := (HADD.out k y HY.out w6 _ _ 10 (AddMem.refl hpool) (by omega)).1
            have hPYE : PY = y.cells := HPYE.out
            rw [← hPYE] at hadd hr6
            have HRY6 := Lib.hid hr6
            have HA10 := Lib.hid hadd
            clear hpool hb6 hs6 hpb h16 hadd hr6 hPYE H10
            go_wp2_with (first | (refine wpList_load_mid rfl 43 (.tmp 86) ?ho bL (oL + k * 40) ?hx PY _ ?hr Try.underlying43 rfl ?hi ?_; (case ho => with_reducible rfl); (case hx => rfl); (case hr => exact HRY6.out); (case hi => rw [HLY.out]; exact HSZ.out)))
            refine (HA10.out).mono ?_
            rintro e w7 ⟨rv1, D1, out1, dr1, WW1, hm1, ha1, rfl, hz1, -⟩
            obtain ⟨hout, hdr, hS1⟩ := first_part HCUT.out HL0.out (by rw [List.length_map, ← HN.out]; exact hn2) HYP.out ha1
            have hw1 := hz1 hout
            have HWL1 : Hid (WW1.length = 40) := Lib.hid (by rw [hw1]; exact zeroP_length)
            have HWO1 : Hid (∀ v ∈ WW1, v.oneCell' = true) := Lib.hid (by rw [hw1]; exact zeroP_one)
            subst hout hdr
            have HM1 := Lib.hid hm1; have HS1 := Lib.hid hS1
            clear hz1 hw1 hm1 hS1 ha1
            go_upto_region 15 with (first | (refine wpList_store_new rfl 43 (.tmp 11) (.tmp 89) ?ho w7 _ WW1.toArray 43 ?hx ?hy ?hi ?hc ?h1 ?_; (case ho => with_reducible rfl); (case hx => rfl); (case hy => rfl); (case hi => rw [List.size_toArray, HWL1.out]; exact HSZ.out); (case hc => exact Eq.trans (b := 40) rfl (by rw [List.size_toArray, HWL1.out])); (case h1 => exact all_oneCell_toArray HWO1.out)))
            obtain ⟨w8, hw8⟩ : ∃ W, W = w7.alloc (.cells WW1.toArray 43) := ⟨_, rfl⟩
            have h78 : Below w7.heap.size w7 w8 := by rw [hw8]; exact (Below.refl _ _).alloc (Nat.le_refl _) _
            rw [← hw8]
            obtain ⟨b11, hb11⟩ : ∃ b, b = w7.heap.size := ⟨_, rfl⟩
            rw [← hb11]
            have hm8 := HM1.out.trans (AddMem.below HM1.out.pool h78)
            have hpb9 : b9 ≠ pb ∧ g9 ≠ pb := ⟨by have := lt_of_blk HX95.out; have := HPB.out; omega, by have := lt_of_blk HG95.out; have := HPB.out; omega⟩
            have hx98 := (hm8.kept.block b9 (lt_of_blk HX96.out) (fun e => hpb9.1 (foot_nil e))).trans HX96.out
            have hg98 := (hm8.kept.block g9 (lt_of_blk HG96.out) (fun e => hpb9.2 (foot_nil e))).trans HG96.out
            have hbz8 : BodyAt w8 ⟨z, some ⟨g9, 0, none⟩, cp⟩ := (⟨HBSZ6.out, .inr ⟨g9, _, rfl, HG96.out, by show cp ≤ _; rw [Array.size_setIfInBounds]; have := HS9.out; omega⟩⟩ : BodyAt w6 ⟨z, some ⟨g9, 0, none⟩, cp⟩).keep (fun g hg => by
              have e : g9 = g := by simpa using hg
              rw [← e]; exact hg98.trans HG96.out.symm) hm8.kept.size
            have hadd := add16 (now := 20) w8 hm8.pool HPZ.out hbz8.bs (by have := HZN.out.2.1; have := HY4.out; omega) (.inr ⟨g9, 0, _, rfl, hg98⟩) (by omega)
            have HA20 := Lib.hid hadd
            have HM8 := Lib.hid hm8
            have RZ := Lib.hid (row_of hx98)
            clear hw8 h78 hb11 hm8 hx98 hg98 hbz8 hadd hpb9
            go_wp2_with (first | (refine wpList_load_mid rfl 43 (.tmp 9) ?ho b9 0 ?hx PZ _ ?hr Try.underlying43 rfl ?hi ?_; (case ho => with_reducible rfl); (case hx => rfl); (case hr => exact RZ.out); (case hi => rw [HLZ.out]; exact HSZ.out)))
            refine (HA20.out).mono ?_
            rintro e w9 ⟨rv2, D2, out2, dr2, WW2, hm2, ha2, rfl, hz2, -⟩
            rw [HS1.out] at ha2
            obtain ⟨hout, hdr, hS2⟩ := spoil_part HCUT.out HL0.out (by rw [List.length_map, ← HN.out]; exact hn2) HYP.out HZN.out.2.2 HZN.out.2.1 HZN.out.1 ha2
            have hw2 := hz2 hout
            have HWL2 : Hid (WW2.length = 40) := Lib.hid (by rw [hw2]; exact zeroP_length)
            have HWO2 : Hid (∀ v ∈ WW2, v.oneCell' = true) := Lib.hid (by rw [hw2]; exact zeroP_one)
            subst hout hdr
            have HM2 := Lib.hid (HM8.out.trans hm2); have HS2 := Lib.hid hS2
            clear hz2 hw2 hm2 hS2 ha2
            go_upto_region 16 with (first | (refine wpList_store_new rfl 43 (.tmp 14) (.tmp 96) ?ho w9 _ WW2.toArray 43 ?hx ?hy ?hi ?hc ?h1 ?_; (case ho => with_reducible rfl); (case hx => rfl); (case hy => rfl); (case hi => rw [List.size_toArray, HWL2.out]; exact HSZ.out); (case hc => exact Eq.trans (b := 40) rfl (by rw [List.size_toArray, HWL2.out])); (case h1 => exact all_oneCell_toArray HWO2.out)))
            obtain ⟨w10, hw10⟩ : ∃ W, W = w9.alloc (.cells WW2.toArray 43) := ⟨_, rfl⟩
            have h90 : Below w9.heap.size w9 w10 := by rw [hw10]; exact (Below.refl _ _).alloc (Nat.le_refl _) _
            rw [← hw10]
            obtain ⟨b14, hb14⟩ : ∃ b, b = w9.heap.size := ⟨_, rfl⟩
            rw [← hb14]
            have hm10 := HM2.out.trans (AddMem.below HM2.out.pool h90)
            obtain ⟨hl1, hov1, -⟩ := ov_end HS2.out
            have H20 := len20 w10 hm10.pool
            rw [hl1] at H20
            have H21 := next21 w10 hm10.pool
            rw [hov1] at H21
            have H20 := Lib.hid H20
            have H21' : Hid (Calls Try.prog 21 #[.pointer (some ⟨pb, 0, none⟩)] w10 fun e w' => e = .returned (.int .u64 60010) ∧ w10 = w') := Lib.hid H21
            have HM10 := Lib.hid hm10
            clear hw10 h90 hb14 hm10 hl1 hov1 H21
            go_wp2_with fail
            refine (H20.out).mono ?_
            rintro e w11 ⟨rfl, rfl⟩
            go_wp2_with fail
            refine (H21'.out).mono ?_
            rintro e w11 ⟨rfl, rfl⟩
            have HKW : Hid (∀ (W : World) (rv : Value) (D : List Dg), AddMem pb (.slice none 0 0) [] w6 W rv D → Below w.heap.size w W) := Lib.hid fun W rv D hm => by
              have h1 := HW1.out
              have h2 := H16.out
              have h3 := HPB.out
              have h4 := H15.out
              exact (h1.trans (h2.mono h1.size)).trans (hm.kept.below (by have := h1.size; have := h2.size; omega) (fun q hq => by have := foot_nil hq; have := h1.size; have := h4.size; omega))
            have HPB5 : Hid (w1.heap.size ≤ pb) := Lib.hid (by have := HPB.out; have := H15.out.size; omega)
            clear HX95 HG95 HBSZ H15 H14 HX94 HG94 HW4 HX9 HB12 HBZ0 HBZ1 HX96 HG96 HBSZ6 HT9 HBT HBU HV3 HA10 HA20 H20 H21' RZ HRY HRY6 HM1 HM8 HM2
            go_wp2_with fail
            go_loopw [17] (fun iv wr => ∃ (i : Nat) (rv : Value) (D : List Dg), iv = .int .i64 i ∧ i ≤ n ∧ AddMem pb (.slice none 0 0) [] w6 wr rv D ∧ OvSt x0 (L.map (·.pk)) i (D.map Dg.abs)) (fun iv _ => n - (intOf iv).toNat)
            case atStart => exact ⟨0, rv2, D2, rfl, Nat.zero_le _, HM10.out, .inl ⟨.inl rfl, HS2.out⟩⟩
            case round =>
              obtain ⟨i, rv, D, rfl, hi, hm, hS⟩ := hrel
              by_cases hlt : i < n
              · have t1 : (i : Int) < (n : Int) := by omega
                have hiL : i < L.length := by rw [← HN.out]; exact hlt
                obtain ⟨u, hu⟩ : ∃ u, L[i]? = some u := ⟨L[i]'hiL, List.getElem?_eq_getElem _⟩
                obtain ⟨hrow, hadd, -⟩ := HADD.out i u hu wr rv D 30 hm (by omega)
                have HU := Lib.hid hu
                have HUP : Hid ((L.map (·.pk))[i]? = some u.pk) := Lib.hid (by rw [List.getElem?_map, hu]; rfl)
                obtain ⟨PU, hPU⟩ : ∃ P, P = u.cells := ⟨_, rfl⟩
                rw [← hPU] at hrow hadd
                have HUE := Lib.hid hPU
                have HUA : Hid (PkAt PU u.pk u.adr u.cap) := Lib.hid (by rw [hPU]; exact El.at_ (HPARTS.out.each u (List.mem_of_getElem? hu)).1)
                have HU4 := Lib.hid (HPARTS.out.each u (List.mem_of_getElem? hu)).2.2.2
                have HLU := Lib.hid HUA.out.len
                have HOU := Lib.hid HUA.out.one
                have HRU := Lib.hid hrow; have HA30 := Lib.hid hadd
                have HM := Lib.hid hm; have HS := Lib.hid hS
                clear hiL hu hrow hadd hPU hm hS
                go_wp2_with (first | (refine wpList_load_mid rfl 43 (.tmp 124) ?ho bL (oL + i * 40) ?hx PU _ ?hr Try.underlying43 rfl ?hi ?_; (case ho => with_reducible rfl); (case hx => rfl); (case hr => exact HRU.out); (case hi => rw [HLU.out]; exact HSZ.out)))
                refine (HA30.out).mono ?_
                rintro e wA ⟨rv3, D3, out3, dr3, WW3, hm3, ha3, rfl, hz3, -⟩
                obtain ⟨hout, hdr, hS3⟩ := bad_part HCUT.out HL0.out HUP.out HS.out ha3
                have hw3 := hz3 hout
                have HWL3 : Hid (WW3.length = 40) := Lib.hid (by rw [hw3]; exact zeroP_length)
                have HWO3 : Hid (∀ v ∈ WW3, v.oneCell' = true) := Lib.hid (by rw [hw3]; exact zeroP_one)
                subst hout hdr
                have hS3' : OvSt x0 (L.map (·.pk)) i (D3.map Dg.abs) := by rw [hS3]; exact HS.out
                have HS3 := Lib.hid hS3'
                have HMA := Lib.hid (HM.out.trans hm3)
                obtain ⟨wB, hwB⟩ : ∃ W, W = wA.alloc (.cells WW3.toArray 43) := ⟨_, rfl⟩
                have hAB : Below wA.heap.size wA wB := by rw [hwB]; exact (Below.refl _ _).alloc (Nat.le_refl _) _
                have hmB := HMA.out.trans (AddMem.below HMA.out.pool hAB)
                have HRB : Hid (wB.rangeAt bL (oL + i * 40) PU) := Lib.hid (by rw [HUE.out]; exact (HADD.out i u HU.out wB _ _ 30 hmB (by omega)).1)
                have HMB := Lib.hid hmB
                have HWB := Lib.hid hwB
                clear hz3 hw3 hm3 hS3 hS3' ha3 hAB hmB hwB
                go_upto_region 22 with (first | (refine wpList_store_new rfl 43 (.tmp 18) (.tmp 127) ?ho wA _ WW3.toArray 43 ?hx ?hy ?hi ?hc ?h1 ?_; (case ho => with_reducible rfl); (case hx => rfl); (case hy => rfl); (case hi => rw [List.size_toArray, HWL3.out]; exact HSZ.out); (case hc => exact Eq.trans (b := 40) rfl (by rw [List.size_toArray, HWL3.out])); (case h1 => exact all_oneCell_toArray HWO3.out)))
                rw [← HWB.out]
                obtain ⟨b18, hb18⟩ : ∃ b, b = wA.heap.size := ⟨_, rfl⟩
                rw [← hb18]
                clear hb18
                go_upto_region 23 with (first | (refine wpList_load_mid rfl 43 (.tmp 132) ?ho bL (oL + i * 40) ?hx PU _ ?hr Try.underlying43 rfl ?hi ?_; (case ho => with_reducible rfl); (case hx => rfl); (case hr => exact HRB.out); (case hi => rw [HLU.out]; exact HSZ.out)) | (refine wpList_store_new rfl 43 (.tmp 21) (.tmp 133) ?ho wB _ PU.toArray 43 ?hx ?hy ?hi ?hc ?h1 ?_; (case ho => with_reducible rfl); (case hx => rfl); (case hy => rfl); (case hi => rw [List.size_toArray, HLU.out]; exact HSZ.out); (case hc => exact Eq.trans (b := 40) rfl (by rw [List.size_toArray, HLU.out])); (case h1 => exact all_oneCell_toArray HOU.out)))
                obtain ⟨wC, hwC⟩ : ∃ W, W = wB.alloc (.cells PU.toArray 43) := ⟨_, rfl⟩
                have hBC : Below wB.heap.size wB wC := by rw [hwC]; exact (Below.refl _ _).alloc (Nat.le_refl _) _
                have hx21 : wC.heap[wB.heap.size]? = some (.cells PU.toArray 43 (0, 0)) := by rw [hwC]; exact heap_alloc_new wB _
                rw [← hwC]
                obtain ⟨b21, hb21⟩ : ∃ b, b = wB.heap.size := ⟨_, rfl⟩
                rw [← hb21] at hx21 ⊢
                have d35 := box_cell hx21 (HUA.out.tail 3)
                have f35 := frozen_blk hx21 35
                have t35 := Turned.setCell hx21 35 (.int .u32 6)
                have hPUe : PU = pkV u.pk (.slice u.adr u.pk.body.length u.cap) := HUA.out.eq
                rw [hPUe, id_set HUA.out.ok] at t35
                obtain ⟨P6, hP6⟩ : ∃ P, P = pkV (six u.pk) (.slice u.adr u.pk.body.length u.cap) := ⟨_, rfl⟩
                rw [← hP6] at t35
                have hok6 : PkOk (six u.pk) := ⟨HUA.out.ok.src, HUA.out.ok.dst, HUA.out.ok.src8, HUA.out.ok.dst8, HUA.out.ok.hops, by show (6 : Nat) < _; omega, HUA.out.ok.off, HUA.out.ok.next, HUA.out.ok.body8⟩
                have HP6A : Hid (PkAt P6 (six u.pk) u.adr u.cap) := Lib.hid ⟨hP6, hok6⟩
                have HL6 := Lib.hid HP6A.out.len
                obtain ⟨wD, hwD⟩ : ∃ W, W = wC.setCell ⟨b21, 35, none⟩ (.int .u32 6) := ⟨_, rfl⟩
                rw [← hwD] at t35
                have hBD : Below wB.heap.size wB wD := hBC.trans (t35.below (by omega))
                have hmD := HMB.out.trans (AddMem.below HMB.out.pool hBD)
                have hbody := (HADD.out i u HU.out wD _ _ 40 hmD (by omega)).2.2 none 0
                have hadd := add16 (now := 40) wD hmD.pool HP6A.out hbody.bs (by show u.pk.body.length ≤ _; have := HU4.out; omega) (by
                  rcases hbody.blk with h | ⟨g, cu, h, h2, _⟩
                  · exact .inl h
                  · exact .inr ⟨g, 0, cu, h, h2⟩) (by omega)
                have HA40 := Lib.hid hadd
                have HMD := Lib.hid hmD
                have HWD := Lib.hid hwD
                have R21 := Lib.hid (row_of (t35.get (lt_of_blk hx21)))
                clear hBC hx21 t35 hPUe hP6 hok6 hwD hBD hmD hbody hadd hwC hb21
                go_upto_region 24 with (fail)
                rw [← HWD.out]
                clear d35 f35
                go_wp2_with (first | (refine wpList_load_mid rfl 43 (.tmp 21) ?ho b21 0 ?hx P6 _ ?hr Try.underlying43 rfl ?hi ?_; (case ho => with_reducible rfl); (case hx => rfl); (case hr => exact R21.out); (case hi => rw [HL6.out]; exact HSZ.out)))
                refine (HA40.out).mono ?_
                rintro e wE ⟨rv4, D4, out4, dr4, WW4, hm4, ha4, rfl, hz4, hy4⟩
                obtain ⟨hdr4, hS4, hcase⟩ := six_step HCUT.out HL0.out HFZ.out (by rw [List.length_map, ← HN.out]; exact hn2) HUP.out HS3.out ha4
                rw [List.length_map, ← HN.out] at hcase
                have hWok : WW4.length = 40 ∧ ∀ v ∈ WW4, v.oneCell' = true := by
                  cases out4 with
                  | none => rw [hz4 rfl]; exact ⟨zeroP_length, zeroP_one⟩
                  | some q =>
                    obtain ⟨A6, c6, e6, e7, _⟩ := hy4 q rfl
                    have hp : PkAt WW4 q A6 c6 := ⟨e6, e7⟩
                    exact ⟨hp.len, hp.one⟩
                have HWL4 : Hid (WW4.length = 40) := Lib.hid hWok.1
                have HWO4 : Hid (∀ v ∈ WW4, v.oneCell' = true) := Lib.hid hWok.2
                subst hdr4
                obtain ⟨wF, hwF⟩ : ∃ W, W = wE.alloc (.cells WW4.toArray 43) := ⟨_, rfl⟩
                have hEF : Below wE.heap.size wE wF := by rw [hwF]; exact (Below.refl _ _).alloc (Nat.le_refl _) _
                have hx22 : wF.heap[wE.heap.size]? = some (.cells WW4.toArray 43 (0, 0)) := by rw [hwF]; exact heap_alloc_new wE _
                have hmE := HMD.out.trans hm4
                have hmF := hmE.trans (AddMem.below hmE.pool hEF)
                have HMF := Lib.hid hmF; have HS4 := Lib.hid hS4; have HX22 := Lib.hid hx22; have HEF := Lib.hid hEF; have HY4' := Lib.hid hy4
                have HWF := Lib.hid hwF
                clear hz4 hy4 hm4 ha4 hS4 hWok hEF hx22 hmE hmF hwF
                go_upto_region 25 with (first | (refine wpList_store_new rfl 43 (.tmp 22) (.tmp 140) ?ho wE _ WW4.toArray 43 ?hx ?hy ?hi ?hc ?h1 ?_; (case ho => with_reducible rfl); (case hx => rfl); (case hy => rfl); (case hi => rw [List.size_toArray, HWL4.out]; exact HSZ.out); (case hc => exact Eq.trans (b := 40) rfl (by rw [List.size_toArray, HWL4.out])); (case h1 => exact all_oneCell_toArray HWO4.out)))
                rw [← HWF.out]
                obtain ⟨b22, hb22⟩ : ∃ b, b = wE.heap.size := ⟨_, rfl⟩
                rw [← hb22] at HX22 ⊢
                clear hb22
                rcases hcase with ⟨hlast, rfl⟩ | ⟨hlast, rfl⟩
                · have q1 : ((i : Int) == (n : Int) - 1) = false := by rw [beq_eq_false_iff_ne]; omega
                  go_wp2_with fail
                  go_roundw
                  case rel => exact ⟨i + 1, rv4, D4, by go_num, by omega, HMF.out, HS4.out⟩
                  case measure => simp [intOf]; omega
                · have q1 : ((i : Int) == (n : Int) - 1) = true := by rw [beq_iff_eq]; omega
                  obtain ⟨A6, c6, hWe, hWk, hWb, _, _⟩ := HY4'.out x0 rfl
                  have hb6 : BodyAt wF ⟨x0, A6, c6⟩ := hWb.keep (fun g hg => HEF.out.block g (hWb.lt hg)) HEF.out.size
                  have hW0F : Below W0.heap.size W0 wF := by
                    have h1 := HPARTS.out.old
                    have h2 := H16.out
                    have h3 := HPB.out
                    exact (h1.trans (h2.mono h1.size)).trans (HMF.out.kept.below (by have := h1.size; have := h2.size; omega) (fun q hq => by have := foot_nil hq; have := HPB5.out; have := h1.size; omega))
                  have H18 := Lib.hid (same18 wF (⟨hWe, hWk⟩ : PkAt WW4 x0 A6 c6) HX0.out hb6.bs ((HBS0.out.below hW0F).mono hW0F.size) (by have := HL0.out; omega))
                  have RW := Lib.hid (row_of HX22.out)
                  have RX := Lib.hid (row_of ((hW0F.block b3 (lt_of_blk HBX0.out)).trans HBX0.out))
                  clear hWe hWk hWb hb6 hW0F
                  go_wp2_with (first | (refine wpList_load_mid_w ?hw 43 (.tmp 22) ?ho b22 0 ?hx WW4 _ ?hr Try.underlying43 rfl ?hi ?_; (case ho => with_reducible rfl); (case hx => rfl); (case hw => rfl); (case hr => exact RW.out); (case hi => rw [HWL4.out]; exact HSZ.out)) | (refine wpList_load_mid_w ?hw 43 (.tmp 3) ?ho b3 0 ?hx P0 _ ?hr Try.underlying43 rfl ?hi ?_; (case ho => with_reducible rfl); (case hx => rfl); (case hw => rfl); (case hr => exact RX.out); (case hi => rw [HLEN0.out]; exact HSZ.out)))
                  refine (H18.out).mono ?_
                  rintro e wG ⟨rfl, hbG⟩
                  have HMG := Lib.hid (HMF.out.trans (AddMem.below HMF.out.pool hbG))
                  clear hbG
                  go_wp2_with fail
                  go_roundw
                  case rel => exact ⟨i + 1, rv4, D4, by go_num, by omega, HMG.out, HS4.out⟩
                  case measure => simp [intOf]; omega
              · have t1 : ¬ (i : Int) < (n : Int) := by omega
                have hin : i = n := by omega
                subst hin
                have hSe : D.map Dg.abs = [ovB x0] := by
                  rcases hS with ⟨_, h⟩ | ⟨_, h, _⟩
                  · exact h
                  · rw [List.length_map, ← HN.out] at h; omega
                obtain ⟨e1, -, e2, e3, e4, e5⟩ := ov_end hSe
                have H11 := Lib.hid (tick_as (now := 60009) wr hm.pool e2 e3)
                have HM := Lib.hid hm
                have HE := Lib.hid e1; have HE4 := Lib.hid e4; have HE5 := Lib.hid e5
                clear hm hS hSe e1 e2 e3 e4 e5 hlt
                go_wp2_with fail
                refine (H11.out).mono ?_
                rintro e w12 ⟨rv5, A5, rfl, hm5⟩
                have H20 := len20 w12 hm5.pool
                rw [HE.out] at H20
                have H20 := Lib.hid H20
                have H11b := Lib.hid (tick_as (now := 60010) w12 hm5.pool HE4.out HE5.out)
                have HM5 := Lib.hid (HM.out.trans hm5)
                clear hm5
                go_wp2_with fail
                refine (H20.out).mono ?_
                rintro e w13 ⟨rfl, rfl⟩
                go_wp2_with fail
                refine (H11b.out).mono ?_
                rintro e w14 ⟨rv6, A6, rfl, hm6⟩
                have H20b := Lib.hid (len20 w14 hm6.pool)
                have HM6 := Lib.hid (HM5.out.trans hm6)
                have HBE := Lib.hid (HKW.out _ _ _ (HM5.out.trans hm6))
                clear hm6
                go_wp2_with fail
                refine (H20b.out).mono ?_
                rintro e w15 ⟨rfl, rfl⟩
                go_wp2_with fail
                refine (lives_any _).mono ?_
                rintro e w9 ⟨rfl, hb9⟩
                have HB9 := Lib.hid (HBE.out.trans (hb9.mono HBE.out.size))
                clear hb9
                go_wp2_with fail
                go_ret
                exact ⟨rfl, HB9.out⟩
end Go.Proofs.Ytjldcblklbikaaa
