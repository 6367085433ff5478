/- The datagrams whose time is over are told of and dropped: the walk of Tick. No condition but that the pool is one. (Written out by exp.py.) -/
import Derived.Test.YtjldcblklbikaaaFX
namespace Go.Proofs.Ytjldcblklbikaaa
open Go.RowKit
set_option linter.unusedVariables false
set_option linter.unusedSimpArgs false
theorem results_cell_one {fn : Func} {p : Tmp} {ty : TypeId} (h : fn.results = #[.cell p ty]) (tmps : Array Value) (P : Program) (w : World) :
    (results fn tmps).run P w = ((asAddr (tmps.getD p undef)).run P w).andThen fun a w₁ => (loadVar ty a).run P w₁ := by
  simp only [results, h]
  simp [Sem.run_bind, Result.andThen]
  try rfl
theorem first0_mem {L : List El} {e : El} (h : e ∈ first0 L) : e ∈ L := by
  unfold first0 at h
  cases hf : L.find? fun e => e.pk.off == 0 with
  | none => rw [hf] at h; cases h
  | some x =>
    rw [hf] at h
    have : e = x := by simpa using h
    rw [this]
    exact List.mem_of_find?_eq_some hf
theorem outK_mem {D : List Dg} {now k : Nat} {e : El} (h : e ∈ outK D now k) : ∃ d ∈ D, e ∈ d.L := by
  unfold outK at h
  rw [List.mem_flatMap] at h
  obtain ⟨d, hd, he⟩ := h
  refine ⟨d, List.mem_of_mem_take hd, ?_⟩
  split at he
  · exact first0_mem he
  · cases he
theorem outK_len (D : List Dg) (now k : Nat) : (outK D now k).length ≤ D.length := by
  have h1 : ∀ (M : List Dg), (M.flatMap fun d => if decide (d.over ≤ now) then first0 d.L else []).length ≤ M.length := by
    intro M
    induction M with
    | nil => exact Nat.le_refl _
    | cons m M ih =>
      rw [List.flatMap_cons, List.length_append, List.length_cons]
      have : (if decide (m.over ≤ now) then first0 m.L else []).length ≤ 1 := by
        split
        · unfold first0
          cases m.L.find? fun e => e.pk.off == 0 <;> simp
        · simp
      omega
  have h2 := h1 (D.take k)
  have h3 : (D.take k).length ≤ D.length := by rw [List.length_take]; omega
  unfold outK; omega
/-- what is left when those told of are taken out of the row -/
structure TickM (w0 : World) (D : List Dg) (now : Nat) (rv : Value) (q : Nat) (v' : Value) (w' : World) : Prop where
  kept : Kept (fun i => i = q ∨ rv.ownBlock = some i) w0 w'
  box : ∃ vo, w'.heap[q]? = some (.cells #[vo] 46 (0, 0)) ∧ w'.ownsRow w0.heap.size 43 40 vo (outK D now D.length).length ((outK D now D.length).flatMap El.cells)
  row : w'.ownsRow 0 71 1 v' (D.filter fun d => !(decide (d.over ≤ now))).length ((D.filter fun d => !(decide (d.over ≤ now))).map ptrTo)
  own : ∀ g, v'.ownBlock = some g → rv.ownBlock = some g
theorem del_tick {pb : Nat} {rv : Value} {D : List Dg} {now p q : Nat} (w0 : World) (hP : PoolAt w0 pb rv D) (hp : w0.heap[p]? = some (.cells #[.int .u64 (now : Int)] 34 (0, 0))) (hq : w0.heap[q]? = some (.cells #[.slice none 0 0] 46 (0, 0))) :
    Calls Try.prog 27 #[rv, .func (.func 28) #[] #[.pointer (some ⟨p, 0, none⟩), .pointer (some ⟨q, 0, none⟩)]] w0 fun e w' => ∃ v', e = .returned v' ∧ TickM w0 D now rv q v' w' := by
  have hql := lt_of_blk hq
  rcases hP.row.2 with ⟨rfl, hl⟩ | ⟨g, cap, cur, hrv, _, hg, hn, hmx, hsz, htk⟩
  · have hD : D = [] := List.length_eq_zero_iff.1 hl
    subst hD
    refine (del27_28 (A := none) (g := w0.heap.size) (cap := 0) (D := []) (t := fun _ => false) (fun _ W => Kept (fun i => i = w0.heap.size) w0 W) w0 (fun h => absurd rfl h) (Kept.refl _ _) (by simp) (by simp) (by unfold maxLen; omega) (fun _ W W' cs hk ht => hk.trans (G := fun i => i = w0.heap.size) (Kept.of_turned ht rfl) (fun i _ h => h)) (fun k d W hk => by simp at hk)).mono ?_
    rintro e w' ⟨v', rfl, hk, h⟩
    have hv : v' = .slice none 0 0 := by
      rcases h with ⟨h1, _⟩ | ⟨h1, _⟩
      · exact h1
      · cases h1
    subst hv
    exact ⟨_, rfl, hk.mono (fun i hi e => by omega), ⟨_, (hk.block q hql (by omega)).trans hq, World.ownsRow_nil _ _ _ _⟩, World.ownsRow_nil _ _ _ _, fun g hg => hg⟩
  · have hgk : Kd w0 g 71 := ⟨_, _, hg⟩
    have hqg : q ≠ g := fun e => by have := (e ▸ (⟨_, _, hq⟩ : Kd w0 q 46)).one hgk; omega
    have hgl := lt_of_blk hg
    have hcut0 : RowCut g cap D (fun d => decide (d.over ≤ now)) 0 w0 := ⟨cur, hg, by rw [hsz, Nat.mul_one], fun i d' hi => by simp at hi, fun i d' _ hi => by
      have h1 : (D.map ptrTo)[i]? = some (ptrTo d') := by rw [List.getElem?_map, hi]; rfl
      rw [← htk, Nat.mul_one, List.getElem?_take] at h1
      split at h1
      · simpa using h1
      · cases h1⟩
    rw [hrv]
    refine (del27_28 (A := some ⟨g, 0, none⟩) (g := g) (cap := cap) (D := D) (t := fun d => decide (d.over ≤ now)) (fun k W => TS w0 D now p q g k W) w0 (fun _ => ⟨rfl, hcut0⟩) ⟨Kept.refl _ _, _, hq, World.ownsRow_nil _ _ _ _⟩ (by have := hP.four; omega) hn hmx
      (fun k W W' cs hS ht => ?_) (fun k d W hk hS _ => clos28 hP.each hP.four hp hq hgk hk W hS)).mono ?_
    · obtain ⟨vo, h1, h2⟩ := hS.box
      exact ⟨hS.old.trans (G := fun i => i = q ∨ i = g) (Kept.of_turned ht (.inr rfl)) (fun _ _ h => h), vo, (ht.other hqg).trans h1, own_keep h2 (fun i hi => ht.other (fun e => by have := (h2.lt i hi).1; omega))⟩
    · rintro e w' ⟨v', rfl, hS, h⟩
      have hk : Kept (fun i => i = q ∨ rv.ownBlock = some i) w0 w' := hS.old.mono (fun i _ e => e.imp id (fun e => by rw [hrv, e]; rfl))
      rcases h with ⟨rfl, hno, hgs⟩ | ⟨_, hv, ho⟩
      · have hf : (D.filter fun d => !(decide (d.over ≤ now))) = D := by
          rw [List.filter_eq_self]
          intro d hd
          rw [hno d hd]; rfl
        refine ⟨_, rfl, by rw [← hrv]; exact hk, hS.box, ?_, fun g' hg' => hg'⟩
        rw [hf]
        have := hP.row
        rw [hrv] at this
        exact own_keep this (fun i hi => by
          have e : g = i := Option.some.inj hi
          rw [← e]; exact hgs)
      · exact ⟨v', rfl, by rw [← hrv]; exact hk, hS.box, own_mono ho (Nat.zero_le _), fun g' hg' => by rw [hv] at hg'; exact hg'⟩
set_option maxRecDepth 100000 in
set_option maxHeartbeats 1000000 in
theorem clip31 (A : Option Addr) (n c : Nat) (hn : n ≤ c) (w : World) : Calls Try.prog 31 #[.slice A n c] w fun e w' => e = .returned (.slice A n n) ∧ w = w' := by
  go_enter Try.func31, Try.ntmps31
  go_wp2_with fail
  go_ret
  exact ⟨rfl, rfl⟩
/-- what Tick leaves -/
def TickRes (pb : Nat) (rv : Value) (D : List Dg) (now : Nat) (w : World) (e : Ending) (w' : World) : Prop := ∃ rv' A, e = .returned (.slice A (outK D now D.length).length (outK D now D.length).length) ∧ AddMem pb rv D w w' rv' (D.filter fun d => !(decide (d.over ≤ now))) ∧ PksRd w' w'.heap.size A (outK D now D.length)
set_option maxRecDepth 100000 in
set_option maxHeartbeats 4000000 in
theorem tick11 {pb : Nat} {rv : Value} {D : List Dg} {now : Nat} (w : World) (hP : PoolAt w pb rv D) :
    Calls Try.prog 11 #[.pointer (some ⟨pb, 0, none⟩), .int .u64 (now : Int)] w (TickRes pb rv D now w) := by
  obtain ⟨V1, hV1⟩ : ∃ V, V = w.alloc (.cells #[.int .u64 (now : Int)] 34) := ⟨_, rfl⟩
  obtain ⟨V, hV⟩ : ∃ V, V = V1.alloc (.cells #[.slice none 0 0] 46) := ⟨_, rfl⟩
  have h01 : Below w.heap.size w V1 := by rw [hV1]; exact (Below.refl _ _).alloc (Nat.le_refl _) _
  have h12 : Below V1.heap.size V1 V := by rw [hV]; exact (Below.refl _ _).alloc (Nat.le_refl _) _
  have hs1 : V1.heap.size = w.heap.size + 1 := by rw [hV1]; simp
  have hbp : V.heap[w.heap.size]? = some (.cells #[.int .u64 (now : Int)] 34 (0, 0)) := (h12.block _ (by omega)).trans (by rw [hV1]; exact heap_alloc_new w _)
  have hbq : V.heap[V1.heap.size]? = some (.cells #[.slice none 0 0] 46 (0, 0)) := by rw [hV]; exact heap_alloc_new V1 _
  have h02 : Below w.heap.size w V := h01.trans (h12.mono h01.size)
  obtain ⟨p, hp⟩ : ∃ b, b = w.heap.size := ⟨_, rfl⟩
  obtain ⟨q, hq⟩ : ∃ b, b = V1.heap.size := ⟨_, rfl⟩
  have hqq : q = w.heap.size + 1 := by omega
  have hPV := hP.below h02
  have c0 : V.cell? ⟨pb, 0, none⟩ = some rv := by rw [cell_blk hPV.blk]; rfl
  rw [← hq] at hbq
  rw [← hp] at hbp
  have H27 := Lib.hid (del_tick V hPV hbp hbq)
  have HP := Lib.hid hP; have H02 := Lib.hid h02
  have HBQ := Lib.hid hbq
  have HQ : Hid (w.heap.size ≤ q) := Lib.hid (by omega)
  have HPB := Lib.hid (hP.lt (.inl (.inl rfl)))
  clear h01 h12 hs1 hbp hPV h02 hP hbq
  go_enter Try.func11, Try.ntmps11
  go_upto_region 3 with (fail)
  rw [← hV1, ← hV, ← hqq, ← hp]
  clear hV1 hV hp hq hqq
  go_wp2_with fail
  refine (H27.out).mono ?_
  rintro e W1 ⟨v', rfl, hm⟩
  have hpb1 : W1.heap[pb]? = some (.cells #[rv, .bool true] 58 (0, 0)) := (hm.kept.block pb (by have := H02.out.size; have := HPB.out; omega) (fun e => by
    rcases e with e | e
    · have := HPB.out; have := HQ.out; omega
    · have := ((HP.out.below H02.out).kdp).one ((HP.out.below H02.out).kdr e); omega)).trans (HP.out.below H02.out).blk
  have c1 : W1.cell? ⟨pb, 0, none⟩ = some rv := by rw [cell_blk hpb1]; rfl
  have f1 := frozen_blk hpb1 0
  have t1 := Turned.setCell hpb1 0 v'
  have hset : (#[rv, Value.bool true] : Array Value).setIfInBounds 0 v' = #[v', .bool true] := rfl
  rw [hset] at t1
  obtain ⟨W2, hW2⟩ : ∃ W, W = W1.setCell ⟨pb, 0, none⟩ v' := ⟨_, rfl⟩
  rw [← hW2] at t1
  obtain ⟨vo, hb1, hb2⟩ := hm.box
  obtain ⟨A, co, rfl, hco⟩ := own_slice2 hb2
  have hpq : pb ≠ q := fun e => by have := HPB.out; have := HQ.out; omega
  have hq2 : W2.heap[q]? = _ := (t1.other hpq.symm).trans hb1
  have hk12 : Kept (fun i => i = pb ∨ rv.ownBlock = some i) w W2 := ((Kept.of_below H02.out (Nat.le_refl _)).trans (G := fun i => i = q ∨ rv.ownBlock = some i) hm.kept (fun i hi e => e.elim (fun e => by have := HQ.out; omega) .inr)).trans (G := fun i => i = pb ∨ rv.ownBlock = some i) (Kept.of_turned t1 (.inl rfl)) (fun i _ h => h)
  have hrow2 := own_keep hm.row (fun i hi => t1.other (fun e => by
    have := ((HP.out.below H02.out).kdp).one (e ▸ (HP.out.below H02.out).kdr (hm.own i hi)); omega))
  have hdel := HP.out.del (t := fun d => !(decide (d.over ≤ now))) hk12 (t1.get (lt_of_blk hpb1)) hrow2 hm.own
  have hb22 := own_keep hb2 (fun i hi => t1.other (fun e => by have := (hb2.lt i hi).1; have := H02.out.size; have := HPB.out; omega))
  obtain ⟨no, hno⟩ : ∃ n, n = (outK D now D.length).length := ⟨_, rfl⟩
  rw [← hno] at hq2 hco hb22
  have c2 : W2.cell? ⟨q, 0, none⟩ = some (.slice A no co) := by rw [cell_blk hq2]; rfl
  have f2 := frozen_blk hq2 0
  have t2 := Turned.setCell hq2 0 (.slice A no no)
  obtain ⟨W3, hW3⟩ : ∃ W, W = W2.setCell ⟨q, 0, none⟩ (.slice A no no) := ⟨_, rfl⟩
  rw [← hW3] at t2
  have hq3 := t2.get (lt_of_blk hq2)
  have c3 : W3.cell? ⟨q, 0, none⟩ = some (.slice A no no) := by rw [cell_blk hq3]; rfl
  have hb23 := own_keep hb22 (fun i hi => t2.other (fun e => by have := (hb22.lt i hi).1; have := lt_of_blk HBQ.out; omega))
  have hfar : ¬ (foot pb v' (D.filter fun d => !(decide (d.over ≤ now))) q ∨ bods (D.filter fun d => !(decide (d.over ≤ now))) q) := fun h => by
    have hlt : q < w.heap.size := by
      rcases h with (h1 | h1 | ⟨d, hd, h1⟩) | ⟨d, hd, h1⟩
      · exact absurd h1.symm hpq
      · exact HP.out.lt (.inl (.inr (.inl (hm.own q h1))))
      · exact HP.out.lt (.inl (.inr (.inr ⟨d, (List.mem_filter.1 hd).1, h1⟩)))
      · exact HP.out.lt (.inr ⟨d, (List.mem_filter.1 hd).1, h1⟩)
    have := HQ.out; omega
  have hmem : AddMem pb rv D w W3 v' (D.filter fun d => !(decide (d.over ≤ now))) := ⟨AddMem.aside hdel.pool t2 hfar, hdel.kept.trans (G := fun i => i = q) (Kept.of_turned t2 rfl) (fun i hi e => by have := HQ.out; omega), hdel.foot, hdel.bods⟩
  have hk13 : Kept (fun i => i = pb ∨ rv.ownBlock = some i) w W3 := hk12.trans (G := fun i => i = q) (Kept.of_turned t2 rfl) (fun i hi e => by have := HQ.out; omega)
  have hrd : PksRd W3 W3.heap.size A (outK D now D.length) := by
    rw [hno] at hb23
    obtain ⟨A', c', e1, h1⟩ := own_pks hb23 (fun e he => by
      obtain ⟨d, hd, hel⟩ := outK_mem he
      have hdd := HP.out.each d hd
      obtain ⟨h1, h2, h3⟩ := hdd.each e hel
      refine ⟨h1, (h2.keep (fun g hg => hk13.block g (h2.lt hg) (fun e => ?_)) hk13.size).bs, h3⟩
      have hk5 := hdd.kdo ⟨_, hel, hg⟩
      rcases e with e | e
      · have := hk5.one (e ▸ HP.out.kdp); omega
      · have := hk5.one (HP.out.kdr e); omega) (by have := outK_len D now D.length; have := HP.out.four; omega)
    injection e1 with e1 e2 e3
    rw [e1]; exact h1
  have HMEM := Lib.hid hmem; have HRD := Lib.hid hrd
  have HW2 := Lib.hid hW2; have HW3 := Lib.hid hW3; have HNO := Lib.hid hno
  have H31 := Lib.hid (clip31 A no co hco W2)
  obtain ⟨RA, rc, hvv, -⟩ := own_slice2 hm.row
  obtain ⟨n', hn'⟩ : ∃ n, n = (D.filter fun d => !(decide (d.over ≤ now))).length := ⟨_, rfl⟩
  rw [← hn'] at hvv
  rw [hvv] at HW2 ⊢
  have HVV := Lib.hid hvv
  clear hm hpb1 t1 hset hW2 hb1 hb2 hq2 hk12 hrow2 hdel hb22 hno t2 hW3 hq3 hb23 hfar hmem hk13 hrd hpq hvv hn'
  go_upto_region 4 with (fail)
  rw [← HW2.out]
  go_wp2_with fail
  refine (H31.out).mono ?_
  rintro e w3 ⟨rfl, rfl⟩
  go_wp2_with fail
  rw [← HW3.out]
  go_wp2_with fail
  refine bodyPost_ret (v := .slice A no no) ?_ ?_ ?_
  · rw [results_cell_one rfl]; go_simp
  · rfl
  · exact ⟨v', A, by rw [← HNO.out], HMEM.out, HRD.out⟩
end Go.Proofs.Ytjldcblklbikaaa
