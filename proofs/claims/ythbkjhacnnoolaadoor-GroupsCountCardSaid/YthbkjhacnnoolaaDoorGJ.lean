/- A change is noted: the walk. No condition but that the maps are ones. (Written out by exp.py.) -/
import Derived.Test.YthbkjhacnnoolaaDoorGI
namespace Go.Proofs.YthbkjhacnnoolaaDoor
open Go.RowKit
set_option linter.unusedVariables false
set_option linter.unusedSimpArgs false
theorem some_ch {W : World} {mc m : Nat} {D : PD} {l : List Nat} (h : W.ownsMap Tryd.prog 26 chElem mc m D) (hl : Adr l) : ∃ a b c, D.atKey (kl l) (chD 0 0 0) = chD a b c := by
  obtain ⟨v, ps, h1, h2⟩ := h.lookup keyed Tryd.underlying65 (zero83 W) (chElem_mk 0 0 0) (keyOf_adr hl)
  obtain ⟨a, b, c, rfl, hz⟩ := chElem_inv h2
  exact ⟨a, b, c, congrArg Prod.fst hz⟩
theorem look_ok_ch {W : World} {mc m : Nat} {D : PD} {l : List Nat} (h : W.ownsMap Tryd.prog 26 chElem mc m D) (hl : Adr l) {a b c : Int} (hD : D.atKey (kl l) (chD 0 0 0) = chD a b c) :
    (Instr.lookup 65 (.map (some mc)) (.agg (row8 l).toArray) true).run Tryd.prog W = .ok (.tuple #[chV a b c, .bool (Maps.has D (kl l))]) W := by
  obtain ⟨v, ps, h1, h2⟩ := h.look_ok keyed Tryd.underlying65 (zero83 W) (chElem_mk 0 0 0) (keyOf_adr hl)
  rw [hD] at h2
  obtain ⟨a', b', c', rfl, hz⟩ := chElem_inv h2
  have e := congrArg Prod.fst hz
  simp only [chD, DataW.agg.injEq, List.cons.injEq, DataW.lit.injEq, Lit.int.injEq, and_true, true_and] at e
  obtain ⟨rfl, rfl, rfl⟩ := e
  exact h1
/-- a change was noted, and told of where it is to be -/
structure Chg (k : Nat) (l : List Nat) (v : Value) (mc : Nat) (n : Nat) (w w' : World) : Prop where
  yes : toldB l = true → ∃ g, v = .slice (some ⟨g, 0, none⟩) 1 1 ∧ w.heap.size ≤ g ∧ w'.heap[g]? = some (.cells (recL k l).toArray 42 (0, 0))
  no : toldB l = false → v = .slice none 0 0
  thr : Thr mc mc mc w w'
  c : MC w' mc n
theorem Kn.step {w w' : World} {mc : Nat} (h : Kn w) (k : Thr mc mc mc w w') (h0 : 0 ≠ mc) : Kn w' :=
  ⟨fun j v hj => (World.cell?_of_block (k.block 0 h.lt h0 h0 h0)).trans (h.at_ j v hj), Nat.lt_of_lt_of_le h.lt k.size⟩
theorem keep2 {W W' : World} {t mj ma mc b : Nat} {X : List Value} (h : W.heap[b]? = some (.cells X.toArray 26 (0, 0)) ∧ Tb W t mj ma mc) (k : W.mapTurned W' mc) : W'.heap[b]? = some (.cells X.toArray 26 (0, 0)) ∧ Tb W' t mj ma mc := by
  have ne : ∀ (i : Nat) (c : Array Value) (t : TypeId) (z : Nat × Nat), W.heap[i]? = some (Obj.cells c t z) → i ≠ mc := fun i c t z hi e => by
    obtain ⟨es, clock, _, _, hm, _⟩ := k
    rw [e, hm] at hi; cases hi
  have kp : ∀ (i : Nat) (c : Array Value) (t : TypeId) (z : Nat × Nat), W.heap[i]? = some (Obj.cells c t z) → W'.heap[i]? = some (Obj.cells c t z) := fun i c t z hi => (k.grown.block i (lt_of_blk hi) (fun e => ne i c t z hi (by injection e))).trans hi
  exact ⟨kp _ _ _ _ h.1, ⟨kp _ _ _ _ h.2.blk⟩⟩
set_option maxRecDepth 100000 in
theorem changed23 {l : List Nat} {t mj ma mc m k now : Nat} (w : World) (hkn : Kn w) (hl : Adr l) (h0 : l.headD 0 = 255) (htb : Tb w t mj ma mc) (hc : MC w mc m) (hm : m + 2 < maxLen)
    (hk : k < 256) (hnow : now < 18446744073709551615) :
    Calls Tryd.prog 23 #[.pointer (some ⟨t, 0, none⟩), .int .u64 (now : Int), .agg (row8 l).toArray, .int .u8 (k : Int), .pointer none] w fun e w' => ∃ v, e = .returned v ∧ Chg k l v mc (m + 2) w w' := by
  obtain ⟨D, hc⟩ := hc
  obtain ⟨va, vb, vc, hD⟩ := some_ch hc hl
  have hal : Below w.heap.size w (w.alloc (.cells (row8 l).toArray 26)) := (Below.refl _ _).alloc (Nat.le_refl _) _
  have hb := heap_alloc_new w (.cells (row8 l).toArray 26)
  obtain ⟨V, hV⟩ : ∃ V, V = w.alloc (.cells (row8 l).toArray 26) := ⟨_, rfl⟩
  obtain ⟨b, hbb⟩ : ∃ b, b = w.heap.size := ⟨_, rfl⟩
  rw [← hV] at hal hb; rw [← hbb] at hb
  have hS0 : Sees w V t mj ma mc m b D (row8 l) := ⟨.of_below hal, hb, ⟨(hal.block _ (lt_of_blk htb.blk)).trans htb.blk⟩, owns_below hc hal⟩
  have H28 := Lib.hid (told28 V (hkn.below hal hkn.lt) hl h0)
  have HLK : Hid (∀ W, W.ownsMap Tryd.prog 26 chElem mc m D → (Instr.lookup 65 (.map (some mc)) (.agg (row8 l).toArray) true).run Tryd.prog W = .ok (.tuple #[chV va vb vc, .bool (Maps.has D (kl l))]) W) := Lib.hid fun W hW => look_ok_ch hW hl hD
  obtain ⟨X, hX⟩ : ∃ X, X = row8 l := ⟨_, rfl⟩
  have HXL : Hid (X.length = 16) := Lib.hid (by rw [hX, row8_length, hl.len])
  have HSZ := Lib.hid size26
  rw [← hX] at hS0 hV HLK H28 ⊢
  have HL := Lib.hid hl; have HXE := Lib.hid hX
  have HS0 := Lib.hid hS0
  have HR := Lib.hid (row_at hS0.b)
  obtain ⟨hs, hhs⟩ : ∃ hs, hs = Maps.has D (kl l) := ⟨_, rfl⟩
  obtain ⟨tl, htl⟩ : ∃ tl, tl = toldB l := ⟨_, rfl⟩
  rw [← hhs] at HLK; rw [← htl] at H28
  have HTL := Lib.hid htl
  clear hal hb htb hc hX hD hkn h0 hS0 hhs htl hl
  go_enter Tryd.func23, Tryd.ntmps23
  go_upto_region 1 with (fail)
  rw [← hV, ← hbb]
  have HLE : Hid (w.heap.size ≤ b) := Lib.hid (by omega)
  clear hV hbb
  go_wp2_with (first | (refine wpList_load_mid rfl 26 (.tmp 7) ?ho b 0 ?hx X _ ?hr Tryd.underlying26 rfl ?hi ?_; (case ho => with_reducible rfl); (case hx => rfl); (case hr => exact HR.out); (case hi => rw [HXL.out]; exact HSZ.out); (try simp only [Act.put, List.setIfInBounds_toArray, List.set_cons_zero, List.set_cons_succ])))
  refine (H28.out).mono ?_
  clear H28
  rintro e w1 ⟨rfl, hb1⟩
  have HS1 := Lib.hid (HS0.out.step hb1)
  clear hb1 HS0 HR
  cases tl with
  | false =>
    go_wp2_with fail
    go_ret
    exact ⟨_, rfl, fun h => (by rw [← HTL.out] at h; cases h), fun _ => rfl, HS1.out.thr, ⟨_, HS1.out.c.mono (by omega)⟩⟩
  | true =>
    go_wp2_with fail
    have hS1 : Sees w w1.drew t mj ma mc m b D X := ⟨HS1.out.thr.drew, HS1.out.b, ⟨HS1.out.tb.blk⟩, HS1.out.c.drew⟩
    refine wp_region_held_drew (S := fun W => Sees w W t mj ma mc m b D X) (by kernel_rfl) hS1 ?_
    clear hS1
    intro HS
    refine wpAnyH_take (i := 0) (v := ?_) rfl (by kernel_rfl) (by kernel_rfl) (by kernel_rfl) (fun _ _ _ h => h) (Or.inl ⟨by go_simp, ?hy⟩) HS ?_
    case hy => intro W hW; go_simp; (try with_reducible rfl)
    try simp only [List.getElem_toArray, List.getElem_cons_zero, List.getElem_cons_succ, Act.put, List.setIfInBounds_toArray, List.set_cons_zero, List.set_cons_succ]
    refine wpAnyH_take (i := 1) (v := ?_) rfl (by kernel_rfl) (by kernel_rfl) (by kernel_rfl) (fun _ _ _ h => h) (Or.inl ⟨by go_simp, ?hy⟩) HS ?_
    case hy => intro W hW; go_simp; (try with_reducible rfl)
    try simp only [List.getElem_toArray, List.getElem_cons_zero, List.getElem_cons_succ, Act.put, List.setIfInBounds_toArray, List.set_cons_zero, List.set_cons_succ]
    refine wpAnyH_take (i := 2) (v := ?_) rfl (by kernel_rfl) (by kernel_rfl) (by kernel_rfl) (fun _ _ _ h => h) (Or.inl ⟨by go_simp, ?hy⟩) HS ?_
    case hy => intro W hW; go_simp; (try with_reducible rfl)
    try simp only [List.getElem_toArray, List.getElem_cons_zero, List.getElem_cons_succ, Act.put, List.setIfInBounds_toArray, List.set_cons_zero, List.set_cons_succ]
    refine wpAnyH_take (i := 3) (v := ?_) rfl (by kernel_rfl) (by kernel_rfl) (by kernel_rfl) (fun _ _ _ h => h) (Or.inl ⟨by go_simp, ?hy⟩) HS ?_
    case hy => intro W hW; have c2 := Tb.c2 (Sees.tb hW); go_simp; (try with_reducible rfl)
    try simp only [List.getElem_toArray, List.getElem_cons_zero, List.getElem_cons_succ, Act.put, List.setIfInBounds_toArray, List.set_cons_zero, List.set_cons_succ]
    refine wpAnyH_take (i := 4) (v := .agg X.toArray) rfl (by kernel_rfl) (by kernel_rfl) (by kernel_rfl) (fun _ _ _ h => h) (by refine yieldsIf_load_mid ?hw 26 (.tmp 7) ?ho b 0 ?hx X _ (fun W hW => row_at (Sees.b hW)) Tryd.underlying26 rfl (by rw [HXL.out]; exact HSZ.out); (case ho => rfl); (case hw => go_simp); (case hx => go_simp)) HS ?_
    try simp only [List.getElem_toArray, List.getElem_cons_zero, List.getElem_cons_succ, Act.put, List.setIfInBounds_toArray, List.set_cons_zero, List.set_cons_succ]
    refine wpAnyH_take (i := 5) (v := ?_) rfl (by kernel_rfl) (by kernel_rfl) (by kernel_rfl) (fun _ _ _ h => h) (Or.inl ⟨by go_simp, ?hy⟩) HS ?_
    case hy => intro W hW; have hlk := HLK.out W (Sees.c hW); go_simp; (try with_reducible rfl)
    try simp only [List.getElem_toArray, List.getElem_cons_zero, List.getElem_cons_succ, Act.put, List.setIfInBounds_toArray, List.set_cons_zero, List.set_cons_succ]
    refine wpAnyH_take (i := 6) (v := ?_) rfl (by kernel_rfl) (by kernel_rfl) (by kernel_rfl) (fun _ _ _ h => h) (Or.inl ⟨by go_simp, ?hy⟩) HS ?_
    case hy => intro W hW; go_simp; (try with_reducible rfl)
    try simp only [List.getElem_toArray, List.getElem_cons_zero, List.getElem_cons_succ, Act.put, List.setIfInBounds_toArray, List.set_cons_zero, List.set_cons_succ]
    refine wpAnyH_take (i := 7) (v := ?_) rfl (by kernel_rfl) (by kernel_rfl) (by kernel_rfl) (fun _ _ _ h => h) (Or.inl ⟨by go_simp, ?hy⟩) HS ?_
    case hy => intro W hW; go_simp; (try with_reducible rfl)
    try simp only [List.getElem_toArray, List.getElem_cons_zero, List.getElem_cons_succ, Act.put, List.setIfInBounds_toArray, List.set_cons_zero, List.set_cons_succ]
    refine wpAnyH_take (i := 8) (v := ?_) rfl (by kernel_rfl) (by kernel_rfl) (by kernel_rfl) (fun _ _ _ h => h) (Or.inl ⟨by go_simp, ?hy⟩) HS ?_
    case hy => intro W hW; go_simp; (try with_reducible rfl)
    try simp only [List.getElem_toArray, List.getElem_cons_zero, List.getElem_cons_succ, Act.put, List.setIfInBounds_toArray, List.set_cons_zero, List.set_cons_succ]
    simp only [chV]
    refine wpAnyH_ready (rs := [9]) (by kernel_rfl) (by simp) ?_
    refine AllReadyH.cons rfl (fun K hK => ?_) AllReadyH.nil
    rw [if_pos (by kernel_rfl)]
    simp only [List.getElem_toArray, List.getElem_cons_zero, List.getElem_cons_succ]
    go_simp
    refine hK.out _ _ (Sees.alloc HS _) (fun HS => ?_)
    clear hK
    try simp only [List.getElem_toArray, List.getElem_cons_zero, List.getElem_cons_succ, Act.put, List.setIfInBounds_toArray, List.set_cons_zero, List.set_cons_succ]
    refine wpAnyH_ready (rs := [10]) (by kernel_rfl) (by simp) ?_
    refine AllReadyH.cons rfl (fun K hK => ?_) AllReadyH.nil
    rw [if_pos (by kernel_rfl)]
    simp only [List.getElem_toArray, List.getElem_cons_zero, List.getElem_cons_succ]
    go_simp
    have hS2 : Sees w (w1.alloc (.cells #[.int .u8 va, .int .i64 vb, .int .u64 vc] 83)).drew t mj ma mc m b D X := ⟨(HS1.out.alloc _).thr.drew, (HS1.out.alloc _).b, ⟨(HS1.out.alloc _).tb.blk⟩, (HS1.out.alloc _).c.drew⟩
    refine hK.out _ _ hS2 (fun HS => ?_)
    clear hK
    try simp only [List.getElem_toArray, List.getElem_cons_zero, List.getElem_cons_succ, Act.put, List.setIfInBounds_toArray, List.set_cons_zero, List.set_cons_succ]
    refine wpAnyH_ready (rs := [11]) (by kernel_rfl) (by simp) ?_
    refine AllReadyH.cons rfl (fun K hK => ?_) AllReadyH.nil
    rw [if_pos (by kernel_rfl)]
    simp only [List.getElem_toArray, List.getElem_cons_zero, List.getElem_cons_succ]
    go_simp
    refine hK.out _ _ hS2 (fun HS => ?_)
    clear hK
    try simp only [List.getElem_toArray, List.getElem_cons_zero, List.getElem_cons_succ, Act.put, List.setIfInBounds_toArray, List.set_cons_zero, List.set_cons_succ]
    refine wpAnyH_done (by kernel_rfl) ?_ _
    generalize hW2 : (w1.alloc (.cells #[.int .u8 va, .int .i64 vb, .int .u64 vc] 83)).drew = W2 at *
    have HS2 := Lib.hid hS2
    clear hS2 hW2 HS HS1
    have c2 := HS2.out.tb.c2
    have HR2 := Lib.hid (row_at HS2.out.b)
    have hlen := HS2.out.c.len Tryd.underlying65 3
    cases hs with
    | true =>
      clear hlen
      have hlen : True := trivial
      go_wp2_with fail
      clear c2 hlen
      have hS5 : W2.drew.heap[b]? = some (.cells X.toArray 26 (0, 0)) ∧ Tb W2.drew t mj ma mc := ⟨HS2.out.b, ⟨HS2.out.tb.blk⟩⟩
      refine wp_region_held_drew (S := fun W => W.heap[b]? = some (.cells X.toArray 26 (0, 0)) ∧ Tb W t mj ma mc) (by kernel_rfl) hS5 ?_
      clear hS5
      intro HS
      refine wpAnyH_take (i := 0) (v := ?_) rfl (by kernel_rfl) (by kernel_rfl) (by kernel_rfl) (fun _ _ _ h => h) (Or.inl ⟨by go_simp, ?hy⟩) HS ?_
      case hy => intro W hW; go_simp; (try with_reducible rfl)
      try simp only [List.getElem_toArray, List.getElem_cons_zero, List.getElem_cons_succ, Act.put, List.setIfInBounds_toArray, List.set_cons_zero, List.set_cons_succ]
      refine wpAnyH_take (i := 1) (v := ?_) rfl (by kernel_rfl) (by kernel_rfl) (by kernel_rfl) (fun _ _ _ h => h) (Or.inl ⟨by go_simp, ?hy⟩) HS ?_
      case hy => intro W hW; go_simp; (try with_reducible rfl)
      try simp only [List.getElem_toArray, List.getElem_cons_zero, List.getElem_cons_succ, Act.put, List.setIfInBounds_toArray, List.set_cons_zero, List.set_cons_succ]
      refine wpAnyH_take (i := 2) (v := ?_) rfl (by kernel_rfl) (by kernel_rfl) (by kernel_rfl) (fun _ _ _ h => h) (Or.inl ⟨by go_simp, ?hy⟩) HS ?_
      case hy => intro W hW; go_simp; (try with_reducible rfl)
      try simp only [List.getElem_toArray, List.getElem_cons_zero, List.getElem_cons_succ, Act.put, List.setIfInBounds_toArray, List.set_cons_zero, List.set_cons_succ]
      refine wpAnyH_take (i := 3) (v := ?_) rfl (by kernel_rfl) (by kernel_rfl) (by kernel_rfl) (fun _ _ _ h => h) (Or.inl ⟨by go_simp, ?hy⟩) HS ?_
      case hy => intro W hW; have c2 := Tb.c2 (And.right hW); go_simp; (try with_reducible rfl)
      try simp only [List.getElem_toArray, List.getElem_cons_zero, List.getElem_cons_succ, Act.put, List.setIfInBounds_toArray, List.set_cons_zero, List.set_cons_succ]
      refine wpAnyH_take (i := 4) (v := .agg X.toArray) rfl (by kernel_rfl) (by kernel_rfl) (by kernel_rfl) (fun _ _ _ h => h) (by refine yieldsIf_load_mid ?hw 26 (.tmp 7) ?ho b 0 ?hx X _ (fun W hW => row_at hW.1) Tryd.underlying26 rfl (by rw [HXL.out]; exact HSZ.out); (case ho => rfl); (case hw => go_simp); (case hx => go_simp)) HS ?_
      try simp only [List.getElem_toArray, List.getElem_cons_zero, List.getElem_cons_succ, Act.put, List.setIfInBounds_toArray, List.set_cons_zero, List.set_cons_succ]
      refine wpAnyH_take (i := 5) (v := ?_) rfl (by kernel_rfl) (by kernel_rfl) (by kernel_rfl) (fun _ _ _ h => h) (Or.inl ⟨by go_simp, ?hy⟩) HS ?_
      case hy => intro W hW; go_simp; (try with_reducible rfl)
      try simp only [List.getElem_toArray, List.getElem_cons_zero, List.getElem_cons_succ, Act.put, List.setIfInBounds_toArray, List.set_cons_zero, List.set_cons_succ]
      refine wpAnyH_take (i := 6) (v := ?_) rfl (by kernel_rfl) (by kernel_rfl) (by kernel_rfl) (fun _ _ _ h => h) (Or.inl ⟨by go_simp, ?hy⟩) HS ?_
      case hy => intro W hW; go_simp; (try with_reducible rfl)
      try simp only [List.getElem_toArray, List.getElem_cons_zero, List.getElem_cons_succ, Act.put, List.setIfInBounds_toArray, List.set_cons_zero, List.set_cons_succ]
      refine wpAnyH_take (i := 7) (v := ?_) rfl (by kernel_rfl) (by kernel_rfl) (by kernel_rfl) (fun _ _ _ h => h) (Or.inl ⟨by go_simp, ?hy⟩) HS ?_
      case hy => intro W hW; go_simp; (try with_reducible rfl)
      try simp only [List.getElem_toArray, List.getElem_cons_zero, List.getElem_cons_succ, Act.put, List.setIfInBounds_toArray, List.set_cons_zero, List.set_cons_succ]
      refine wpAnyH_ready (rs := [8]) (by kernel_rfl) (by simp) ?_
      refine AllReadyH.cons rfl (fun K hK => ?_) AllReadyH.nil
      obtain ⟨w6, hrun, hown, hturn⟩ := (show W2.drew.ownsMap Tryd.prog 26 chElem mc m D from HS2.out.c.drew).store keyed Tryd.underlying65 (by omega) (keyOf_adr HL.out) (chElem_mk (k : Int) 2 (now : Int))
      have hrun' : (Instr.mapUpdate 65 (.map (some mc)) (.agg X.toArray) (.agg #[.int .u8 (k : Int), .int .i64 2, .int .u64 (now : Int)])).run Tryd.prog W2.drew = .ok () w6 := by rw [HXE.out]; exact hrun
      clear hrun
      have HT := Lib.hid hturn; have HO := Lib.hid hown; clear hturn hown
      rw [if_pos (by kernel_rfl)]
      simp only [List.getElem_toArray, List.getElem_cons_zero, List.getElem_cons_succ]
      go_simp
      have hS6 := keep2 HS HT.out
      refine hK.out _ _ hS6 (fun HS6 => ?_)
      clear hK hrun' hS6
      try simp only [List.getElem_toArray, List.getElem_cons_zero, List.getElem_cons_succ, Act.put, List.setIfInBounds_toArray, List.set_cons_zero, List.set_cons_succ]
      refine wpAnyH_done (by kernel_rfl) ?_ _
      have HR6 := Lib.hid (row_at HS6.1)
      have HTB := Lib.hid HS6.2
      clear HS6 HS
      go_wp2_with (first | (refine wpList_load_mid rfl 26 (.tmp 7) ?ho b 0 ?hx X _ ?hr Tryd.underlying26 rfl ?hi ?_; (case ho => with_reducible rfl); (case hx => rfl); (case hr => exact HR6.out); (case hi => rw [HXL.out]; exact HSZ.out); (try simp only [Act.put, List.setIfInBounds_toArray, List.set_cons_zero, List.set_cons_succ])))
      have htell := tell33 (k := k) (now := now) w6 HL.out HTB.out HO.out (by omega) (Maps.atKey_put_same HS2.out.c.isMap (isKeyLit_kl l) _ _) hk hnow
      rw [← HXE.out] at htell
      refine htell.mono ?_
      clear htell
      rintro e w7 ⟨v, rfl, hr⟩
      have HRE := Lib.hid hr
      clear hr
      go_wp2_with fail
      go_ret
      have hth : Thr mc mc mc w w6 := HS2.out.thr.drew.map HT.out (.inl rfl)
      obtain ⟨g, hg1, hg2, hg3⟩ := HRE.out.rec_
      exact ⟨v, rfl, fun _ => ⟨g, hg1, Nat.le_trans hth.size hg2, hg3⟩, fun h => (by rw [← HTL.out] at h; cases h), hth.trans HRE.out.thr, HRE.out.c⟩
    | false =>
      by_cases h48 : (48 : Int) ≤ (Maps.size D : Int)
      · skip
        go_wp2_with (first | (refine wpList_load_mid rfl 26 (.tmp 7) ?ho b 0 ?hx X _ ?hr Tryd.underlying26 rfl ?hi ?_; (case ho => with_reducible rfl); (case hx => rfl); (case hr => exact HR2.out); (case hi => rw [HXL.out]; exact HSZ.out); (try simp only [Act.put, List.setIfInBounds_toArray, List.set_cons_zero, List.set_cons_succ])))
        have hrec := record32 (k := k) W2 HL.out
        rw [← HXE.out] at hrec
        refine hrec.mono ?_
        clear hrec
        rintro e w7 ⟨v, rfl, hr⟩
        have HRE := Lib.hid hr
        clear hr
        go_wp2_with fail
        go_ret
        obtain ⟨g, hg1, hg2, hg3⟩ := HRE.out.at_
        exact ⟨v, rfl, fun _ => ⟨g, hg1, Nat.le_trans HS2.out.thr.size hg2, hg3⟩, fun h => (by rw [← HTL.out] at h; cases h), HS2.out.thr.step HRE.out.below, ⟨_, (owns_below HS2.out.c HRE.out.below).mono (by omega)⟩⟩
      · skip
        go_wp2_with fail
        clear c2 hlen
        have hS5 : W2.drew.heap[b]? = some (.cells X.toArray 26 (0, 0)) ∧ Tb W2.drew t mj ma mc := ⟨HS2.out.b, ⟨HS2.out.tb.blk⟩⟩
        refine wp_region_held_drew (S := fun W => W.heap[b]? = some (.cells X.toArray 26 (0, 0)) ∧ Tb W t mj ma mc) (by kernel_rfl) hS5 ?_
        clear hS5
        intro HS
        refine wpAnyH_take (i := 0) (v := ?_) rfl (by kernel_rfl) (by kernel_rfl) (by kernel_rfl) (fun _ _ _ h => h) (Or.inl ⟨by go_simp, ?hy⟩) HS ?_
        case hy => intro W hW; go_simp; (try with_reducible rfl)
        try simp only [List.getElem_toArray, List.getElem_cons_zero, List.getElem_cons_succ, Act.put, List.setIfInBounds_toArray, List.set_cons_zero, List.set_cons_succ]
        refine wpAnyH_take (i := 1) (v := ?_) rfl (by kernel_rfl) (by kernel_rfl) (by kernel_rfl) (fun _ _ _ h => h) (Or.inl ⟨by go_simp, ?hy⟩) HS ?_
        case hy => intro W hW; go_simp; (try with_reducible rfl)
        try simp only [List.getElem_toArray, List.getElem_cons_zero, List.getElem_cons_succ, Act.put, List.setIfInBounds_toArray, List.set_cons_zero, List.set_cons_succ]
        refine wpAnyH_take (i := 2) (v := ?_) rfl (by kernel_rfl) (by kernel_rfl) (by kernel_rfl) (fun _ _ _ h => h) (Or.inl ⟨by go_simp, ?hy⟩) HS ?_
        case hy => intro W hW; go_simp; (try with_reducible rfl)
        try simp only [List.getElem_toArray, List.getElem_cons_zero, List.getElem_cons_succ, Act.put, List.setIfInBounds_toArray, List.set_cons_zero, List.set_cons_succ]
        refine wpAnyH_take (i := 3) (v := ?_) rfl (by kernel_rfl) (by kernel_rfl) (by kernel_rfl) (fun _ _ _ h => h) (Or.inl ⟨by go_simp, ?hy⟩) HS ?_
        case hy => intro W hW; have c2 := Tb.c2 (And.right hW); go_simp; (try with_reducible rfl)
        try simp only [List.getElem_toArray, List.getElem_cons_zero, List.getElem_cons_succ, Act.put, List.setIfInBounds_toArray, List.set_cons_zero, List.set_cons_succ]
        refine wpAnyH_take (i := 4) (v := .agg X.toArray) rfl (by kernel_rfl) (by kernel_rfl) (by kernel_rfl) (fun _ _ _ h => h) (by refine yieldsIf_load_mid ?hw 26 (.tmp 7) ?ho b 0 ?hx X _ (fun W hW => row_at hW.1) Tryd.underlying26 rfl (by rw [HXL.out]; exact HSZ.out); (case ho => rfl); (case hw => go_simp); (case hx => go_simp)) HS ?_
        try simp only [List.getElem_toArray, List.getElem_cons_zero, List.getElem_cons_succ, Act.put, List.setIfInBounds_toArray, List.set_cons_zero, List.set_cons_succ]
        refine wpAnyH_take (i := 5) (v := ?_) rfl (by kernel_rfl) (by kernel_rfl) (by kernel_rfl) (fun _ _ _ h => h) (Or.inl ⟨by go_simp, ?hy⟩) HS ?_
        case hy => intro W hW; go_simp; (try with_reducible rfl)
        try simp only [List.getElem_toArray, List.getElem_cons_zero, List.getElem_cons_succ, Act.put, List.setIfInBounds_toArray, List.set_cons_zero, List.set_cons_succ]
        refine wpAnyH_take (i := 6) (v := ?_) rfl (by kernel_rfl) (by kernel_rfl) (by kernel_rfl) (fun _ _ _ h => h) (Or.inl ⟨by go_simp, ?hy⟩) HS ?_
        case hy => intro W hW; go_simp; (try with_reducible rfl)
        try simp only [List.getElem_toArray, List.getElem_cons_zero, List.getElem_cons_succ, Act.put, List.setIfInBounds_toArray, List.set_cons_zero, List.set_cons_succ]
        refine wpAnyH_take (i := 7) (v := ?_) rfl (by kernel_rfl) (by kernel_rfl) (by kernel_rfl) (fun _ _ _ h => h) (Or.inl ⟨by go_simp, ?hy⟩) HS ?_
        case hy => intro W hW; go_simp; (try with_reducible rfl)
        try simp only [List.getElem_toArray, List.getElem_cons_zero, List.getElem_cons_succ, Act.put, List.setIfInBounds_toArray, List.set_cons_zero, List.set_cons_succ]
        refine wpAnyH_ready (rs := [8]) (by kernel_rfl) (by simp) ?_
        refine AllReadyH.cons rfl (fun K hK => ?_) AllReadyH.nil
        obtain ⟨w6, hrun, hown, hturn⟩ := (show W2.drew.ownsMap Tryd.prog 26 chElem mc m D from HS2.out.c.drew).store keyed Tryd.underlying65 (by omega) (keyOf_adr HL.out) (chElem_mk (k : Int) 2 (now : Int))
        have hrun' : (Instr.mapUpdate 65 (.map (some mc)) (.agg X.toArray) (.agg #[.int .u8 (k : Int), .int .i64 2, .int .u64 (now : Int)])).run Tryd.prog W2.drew = .ok () w6 := by rw [HXE.out]; exact hrun
        clear hrun
        have HT := Lib.hid hturn; have HO := Lib.hid hown; clear hturn hown
        rw [if_pos (by kernel_rfl)]
        simp only [List.getElem_toArray, List.getElem_cons_zero, List.getElem_cons_succ]
        go_simp
        have hS6 := keep2 HS HT.out
        refine hK.out _ _ hS6 (fun HS6 => ?_)
        clear hK hrun' hS6
        try simp only [List.getElem_toArray, List.getElem_cons_zero, List.getElem_cons_succ, Act.put, List.setIfInBounds_toArray, List.set_cons_zero, List.set_cons_succ]
        refine wpAnyH_done (by kernel_rfl) ?_ _
        have HR6 := Lib.hid (row_at HS6.1)
        have HTB := Lib.hid HS6.2
        clear HS6 HS
        go_wp2_with (first | (refine wpList_load_mid rfl 26 (.tmp 7) ?ho b 0 ?hx X _ ?hr Tryd.underlying26 rfl ?hi ?_; (case ho => with_reducible rfl); (case hx => rfl); (case hr => exact HR6.out); (case hi => rw [HXL.out]; exact HSZ.out); (try simp only [Act.put, List.setIfInBounds_toArray, List.set_cons_zero, List.set_cons_succ])))
        have htell := tell33 (k := k) (now := now) w6 HL.out HTB.out HO.out (by omega) (Maps.atKey_put_same HS2.out.c.isMap (isKeyLit_kl l) _ _) hk hnow
        rw [← HXE.out] at htell
        refine htell.mono ?_
        clear htell
        rintro e w7 ⟨v, rfl, hr⟩
        have HRE := Lib.hid hr
        clear hr
        go_wp2_with fail
        go_ret
        have hth : Thr mc mc mc w w6 := HS2.out.thr.drew.map HT.out (.inl rfl)
        obtain ⟨g, hg1, hg2, hg3⟩ := HRE.out.rec_
        exact ⟨v, rfl, fun _ => ⟨g, hg1, Nat.le_trans hth.size hg2, hg3⟩, fun h => (by rw [← HTL.out] at h; cases h), hth.trans HRE.out.thr, HRE.out.c⟩
end Go.Proofs.YthbkjhacnnoolaaDoor
