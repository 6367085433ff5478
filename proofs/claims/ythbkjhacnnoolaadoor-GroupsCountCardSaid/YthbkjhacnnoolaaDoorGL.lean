/- A group is left: the walk. No condition but that the maps are ones. (Written out by exp.py.) -/
import Derived.Test.YthbkjhacnnoolaaDoorGK
namespace Go.Proofs.YthbkjhacnnoolaaDoor
open Go.RowKit
set_option linter.unusedVariables false
set_option linter.unusedSimpArgs false
/-- what the walk of Leave sees -/
structure SeeL (w W : World) (t mj ma mc n m b : Nat) (D : PD) (X : List Value) : Prop where
  thr : Thr mj ma mc w W
  b : W.heap[b]? = some (.cells X.toArray 26 (0, 0))
  tb : Tb W t mj ma mc
  j : MJ W mj n D
  a : MA W ma
  c : MC W mc m
section
variable {w W W' : World} {t mj ma mc n m b : Nat} {D : PD} {X : List Value}
theorem SeeL.step (h : SeeL w W t mj ma mc n m b D X) (hb : Below W.heap.size W W') : SeeL w W' t mj ma mc n m b D X :=
  ⟨h.thr.step hb, (hb.block _ (lt_of_blk h.b)).trans h.b, ⟨(hb.block _ (lt_of_blk h.tb.blk)).trans h.tb.blk⟩, owns_below h.j hb, owns_below h.a hb, h.c.imp fun D h => owns_below h hb⟩
theorem SeeL.drew (h : SeeL w W t mj ma mc n m b D X) : SeeL w W.drew t mj ma mc n m b D X := h.step ((Below.refl _ _).drew)
theorem SeeL.turn (h : SeeL w W t mj ma mc n m b D X) (k : W.mapTurned W' mj) (hne : mj ≠ mc) (hna : mj ≠ ma) {n' : Nat} {D' : PD} (ho : MJ W' mj n' D') : SeeL w W' t mj ma mc n' m b D' X :=
  ⟨h.thr.map k (.inl rfl), keepM k h.b, ⟨keepM k h.tb.blk⟩, ho, owns_map h.a k hna, h.c.imp fun D h => owns_map h k hne⟩
theorem SeeL.turnA (h : SeeL w W t mj ma mc n m b D X) (k : W.mapTurned W' ma) (hne : ma ≠ mc) (hna : ma ≠ mj) (ho : MA W' ma) : SeeL w W' t mj ma mc n m b D X :=
  ⟨h.thr.map k (.inr (.inl rfl)), keepM k h.b, ⟨keepM k h.tb.blk⟩, owns_map h.j k hna, ho, h.c.imp fun D h => owns_map h k hne⟩
theorem SeeL.sb (h : SeeL w W t mj ma mc n m b D X) : SB W t mj ma mc b X := ⟨h.b, h.tb⟩
end
theorem Kn.stepL {w w' : World} {mj ma mc : Nat} (h : Kn w) (k : Thr mj ma mc w w') (h0 : 0 ≠ mj) (h1 : 0 ≠ ma) (h2 : 0 ≠ mc) : Kn w' :=
  ⟨fun j v hj => (World.cell?_of_block (k.block 0 h.lt h0 h1 h2)).trans (h.at_ j v hj), Nat.lt_of_lt_of_le h.lt k.size⟩
theorem Thr.wideL {w w' : World} {mj ma mc : Nat} (k : Thr mc mc mc w w') : Thr mj ma mc w w' := ⟨k.os, k.tape, k.output, k.size, fun i hi _ _ c => k.block i hi c c c⟩
theorem del_nil (x : Lit) : (DataW.map [] : PD).del x = .map [] := by rfl
structure OutL (k : Nat) (l : List Nat) (tell : Bool) (v : Value) (mj ma mc n m : Nat) (D : PD) (w w' : World) : Prop where
  yes : tell = true → ∃ g, v = .slice (some ⟨g, 0, none⟩) 1 1 ∧ w.heap.size ≤ g ∧ w'.heap[g]? = some (.cells (recL k l).toArray 42 (0, 0))
  no : tell = false → v = .slice none 0 0
  thr : Thr mj ma mc w w'
  j : MJ w' mj n D
  a : MA w' ma
  c : MC w' mc m
def LeaveRes (l : List Nat) (c : Nat) (v : Value) (r : Int) (mj ma mc n m : Nat) (D : PD) (w w' : World) : Prop :=
  if c = 0 then r = 9 ∧ OutL 3 l false v mj ma mc (n + 1) (m + 2) D w w'
  else if c = 1 then r = 0 ∧ OutL 3 l (toldB l) v mj ma mc (n + 1) (m + 2) ((D.put (kl l) (jd 0)).del (kl l)) w w'
  else r = 0 ∧ OutL 3 l false v mj ma mc (n + 1) (m + 2) (D.put (kl l) (jd (c - 1))) w w'
set_option maxRecDepth 100000 in
theorem leave18 {l : List Nat} {t mj ma mc n m now c : Nat} {D : PD} (w : World) (hkn : Kn w) (hl : Adr l) (h0 : l.headD 0 = 255) (htb : Tb w t mj ma mc) (hj : MJ w mj n D) (ha : MA w ma) (hc : MC w mc m) (hm : m + 2 < maxLen) (hn : n < maxLen)
    (hne : mj ≠ mc) (hna : mj ≠ ma) (hac : ma ≠ mc) (z1 : 0 ≠ mj) (z2 : 0 ≠ mc) (z3 : 0 ≠ ma) (hD : D.atKey (kl l) (jd 0) = jd c) (hcb : c < 4611686018427387904) (hnow : now < 18446744073709551615) :
    Calls Tryd.prog 18 #[.pointer (some ⟨t, 0, none⟩), .int .u64 (now : Int), .agg (row8 l).toArray, .pointer none] w fun e w' => ∃ v r, e = .returned (.tuple #[v, .int .i64 r]) ∧
      LeaveRes l c v r mj ma mc n m D w w' := by
  have hal : Below w.heap.size w (w.alloc (.cells (row8 l).toArray 26)) := (Below.refl _ _).alloc (Nat.le_refl _) _
  have hb := heap_alloc_new w (.cells (row8 l).toArray 26)
  obtain ⟨V, hV⟩ : ∃ V, V = w.alloc (.cells (row8 l).toArray 26) := ⟨_, rfl⟩
  obtain ⟨b, hbb⟩ : ∃ b, b = w.heap.size := ⟨_, rfl⟩
  rw [← hV] at hal hb; rw [← hbb] at hb
  have hS0 : SeeL w V t mj ma mc n m b D (row8 l) := ⟨.of_below hal, hb, ⟨(hal.block _ (lt_of_blk htb.blk)).trans htb.blk⟩, owns_below hj hal, owns_below ha hal, hc.imp fun D h => owns_below h hal⟩
  have HLK : Hid (∀ W, MJ W mj n D → (Instr.lookup 53 (.map (some mj)) (.agg (row8 l).toArray) false).run Tryd.prog W = .ok (.int .i64 (c : Int)) W) := Lib.hid fun W hW => look_j hW hl hD
  obtain ⟨X, hX⟩ : ∃ X, X = row8 l := ⟨_, rfl⟩
  have HXL : Hid (X.length = 16) := Lib.hid (by rw [hX, row8_length, hl.len])
  have HSZ := Lib.hid size26
  rw [← hX] at hS0 hV HLK ⊢
  have HL := Lib.hid hl; have HXE := Lib.hid hX
  have HS1 := Lib.hid hS0
  have HKN := Lib.hid hkn; have H0 := Lib.hid h0; have HD := Lib.hid hD
  clear hal hb htb hc hX hD hkn h0 hS0 hl hj ha
  go_enter Tryd.func18, Tryd.ntmps18
  go_upto_region 1 with (fail)
  rw [← hV, ← hbb]
  have HLE : Hid (w.heap.size ≤ b) := Lib.hid (by omega)
  clear hV hbb
  go_wp2_with fail
  refine (there21 _ HS1.out.tb).mono ?_
  rintro e w1 ⟨rfl, rfl⟩
  go_wp2_with fail
  have hS1 := HS1.out.drew
  refine wp_region_held_drew (S := fun W => SeeL w W t mj ma mc n m b D X) (by kernel_rfl) hS1 ?_
  clear hS1
  intro HS
  refine wpAnyH_take (i := 0) (v := ?_) rfl (by kernel_rfl) (by kernel_rfl) (by kernel_rfl) (fun _ _ _ h => h) (Or.inl ⟨by go_simp, ?hy⟩) HS ?_
  case hy => intro W hW; go_simp; (try with_reducible rfl)
  try simp only [List.getElem_toArray, List.getElem_cons_zero, List.getElem_cons_succ, Act.put, List.setIfInBounds_toArray, List.set_cons_zero, List.set_cons_succ]
  refine wpAnyH_take (i := 1) (v := ?_) rfl (by kernel_rfl) (by kernel_rfl) (by kernel_rfl) (fun _ _ _ h => h) (Or.inl ⟨by go_simp, ?hy⟩) HS ?_
  case hy => intro W hW; go_simp; (try with_reducible rfl)
  try simp only [List.getElem_toArray, List.getElem_cons_zero, List.getElem_cons_succ, Act.put, List.setIfInBounds_toArray, List.set_cons_zero, List.set_cons_succ]
  refine wpAnyH_take (i := 2) (v := ?_) rfl (by kernel_rfl) (by kernel_rfl) (by kernel_rfl) (fun _ _ _ h => h) (Or.inl ⟨by go_simp, ?hy⟩) HS ?_
  case hy => intro W hW; go_simp; (try with_reducible rfl)
  try simp only [List.getElem_toArray, List.getElem_cons_zero, List.getElem_cons_succ, Act.put, List.setIfInBounds_toArray, List.set_cons_zero, List.set_cons_succ]
  refine wpAnyH_take (i := 3) (v := ?_) rfl (by kernel_rfl) (by kernel_rfl) (by kernel_rfl) (fun _ _ _ h => h) (Or.inl ⟨by go_simp, ?hy⟩) HS ?_
  case hy => intro W hW; have c0 := Tb.c0 (SeeL.tb hW); go_simp; (try with_reducible rfl)
  try simp only [List.getElem_toArray, List.getElem_cons_zero, List.getElem_cons_succ, Act.put, List.setIfInBounds_toArray, List.set_cons_zero, List.set_cons_succ]
  refine wpAnyH_take (i := 4) (v := .agg X.toArray) rfl (by kernel_rfl) (by kernel_rfl) (by kernel_rfl) (fun _ _ _ h => h) (by refine yieldsIf_load_mid ?hw 26 (.tmp 6) ?ho b 0 ?hx X _ (fun W hW => row_at (SeeL.b hW)) Tryd.underlying26 rfl (by rw [HXL.out]; exact HSZ.out); (case ho => rfl); (case hw => go_simp); (case hx => go_simp)) HS ?_
  try simp only [List.getElem_toArray, List.getElem_cons_zero, List.getElem_cons_succ, Act.put, List.setIfInBounds_toArray, List.set_cons_zero, List.set_cons_succ]
  refine wpAnyH_take (i := 5) (v := ?_) rfl (by kernel_rfl) (by kernel_rfl) (by kernel_rfl) (fun _ _ _ h => h) (Or.inl ⟨by go_simp, ?hy⟩) HS ?_
  case hy => intro W hW; have hlk := HLK.out W (SeeL.j hW); go_simp; (try with_reducible rfl)
  try simp only [List.getElem_toArray, List.getElem_cons_zero, List.getElem_cons_succ, Act.put, List.setIfInBounds_toArray, List.set_cons_zero, List.set_cons_succ]
  by_cases hc0 : c = 0
  · have t0 : ((c : Int) == 0) = true := by rw [hc0]; rfl
    have HC0 := Lib.hid hc0
    clear hc0
    refine wpAnyH_take (i := 6) (v := ?_) rfl (by kernel_rfl) (by kernel_rfl) (by kernel_rfl) (fun _ _ _ h => h) (Or.inl ⟨by go_simp, ?hy⟩) HS ?_
    case hy => intro W hW; go_simp; (try with_reducible rfl)
    try simp only [List.getElem_toArray, List.getElem_cons_zero, List.getElem_cons_succ, Act.put, List.setIfInBounds_toArray, List.set_cons_zero, List.set_cons_succ]
    refine wpAnyH_ready (rs := [7]) (by kernel_rfl) (by simp) ?_
    refine AllReadyH.cons rfl (fun K hK => ?_) AllReadyH.nil
    rw [if_pos (by kernel_rfl)]
    simp only [List.getElem_toArray, List.getElem_cons_zero, List.getElem_cons_succ]
    go_simp
    refine hK.out _ _ HS1.out.drew (fun HS => ?_)
    clear hK
    try simp only [List.getElem_toArray, List.getElem_cons_zero, List.getElem_cons_succ, Act.put, List.setIfInBounds_toArray, List.set_cons_zero, List.set_cons_succ]
    refine wpAnyH_done (by kernel_rfl) ?_ _
    clear HS
    go_wp2_with fail
    go_ret2
    refine ⟨_, 9, rfl, ?_⟩
    unfold LeaveRes
    rw [if_pos HC0.out]
    exact ⟨rfl, fun h => (by cases h), fun _ => rfl, HS1.out.thr.drew, HS1.out.drew.j.mono (by omega), HS1.out.drew.a, HS1.out.drew.c.imp fun D h => h.mono (by omega)⟩
  · have t0 : ((c : Int) == 0) = false := by rw [beq_eq_false_iff_ne]; omega
    have HC0 := Lib.hid hc0
    clear hc0
    refine wpAnyH_take (i := 6) (v := ?_) rfl (by kernel_rfl) (by kernel_rfl) (by kernel_rfl) (fun _ _ _ h => h) (Or.inl ⟨by go_simp, ?hy⟩) HS ?_
    case hy => intro W hW; go_simp; (try with_reducible rfl)
    try simp only [List.getElem_toArray, List.getElem_cons_zero, List.getElem_cons_succ, Act.put, List.setIfInBounds_toArray, List.set_cons_zero, List.set_cons_succ]
    refine wpAnyH_ready (rs := [7]) (by kernel_rfl) (by simp) ?_
    refine AllReadyH.cons rfl (fun K hK => ?_) AllReadyH.nil
    rw [if_pos (by kernel_rfl)]
    simp only [List.getElem_toArray, List.getElem_cons_zero, List.getElem_cons_succ]
    go_simp
    refine hK.out _ _ HS1.out.drew (fun HS => ?_)
    clear hK
    try simp only [List.getElem_toArray, List.getElem_cons_zero, List.getElem_cons_succ, Act.put, List.setIfInBounds_toArray, List.set_cons_zero, List.set_cons_succ]
    refine wpAnyH_done (by kernel_rfl) ?_ _
    clear HS
    by_cases hc1 : c = 1
    · have HC1 := Lib.hid hc1
      clear hc1
      go_wp2_with fail
      have hS5 := HS1.out.drew.drew
      obtain ⟨v0, st, w3, hE, tE, oE, hE2⟩ := entry_own law26 Tryd.underlying53 zero3 (show plainElem Tryd.prog 3 (.int .i64 0) = some (jd 0, []) from plain3 (c := 0) (by omega)) hS5.j hn (keyOf_adr HL.out)
      have hlk2 := HLK.out _ hS5.j
      rw [HD.out] at oE
      have hlk3 := look_j oE HL.out (Maps.atKey_put_same hS5.j.isMap (isKeyLit_kl l) _ _)
      rw [← HXE.out] at hlk3 hE
      have e1 : (((c - 1 : Nat)) : Int) = (c : Int) - 1 := by have := HC0.out; omega
      obtain ⟨w4, hS, oS, tS⟩ := hE2 w3 (.int .i64 ((c - 1 : Nat) : Int)) (jd (c - 1)) [] rfl (plain3 (by omega))
      have HS3 := Lib.hid (hS5.turn tE hne hna oE)
      have HS4 := Lib.hid (HS3.out.turn tS hne hna oS)
      have HLK4 : Hid (∀ W, MJ W mj (n + 1) (D.put (kl l) (jd (c - 1))) → (Instr.lookup 53 (.map (some mj)) (.agg X.toArray) false).run Tryd.prog W = .ok (.int .i64 ((c : Int) - 1)) W) := Lib.hid fun W hW => by
        have := look_j hW HL.out (Maps.atKey_put_same hS5.j.isMap (isKeyLit_kl l) _ _)
        rw [← HXE.out, e1] at this
        exact this
      rw [e1] at hS
      have hwr : IntKind.i64.wrap ((c : Int) - 1) = (c : Int) - 1 := by rw [← e1]; exact i64_small (by omega)
      have hE' : (Instr.mapEntry 53 (.map (some mj)) (.agg X.toArray)).run Tryd.prog V.drew.drew = .ok (.tuple #[v0, .int .i64 (st : Int)]) w3 := hE
      have hS' : (Instr.entryStore 53 (.map (some mj)) (.int .i64 (st : Int)) (.int .i64 ((c : Int) - 1))).run Tryd.prog w3 = .ok () w4 := hS
      clear hE hS hE2 oE tE oS tS e1
      have hSB := hS5.sb
      clear hS5
      refine wp_region_held_drew (S := fun W => SB W t mj ma mc b X) (by kernel_rfl) hSB ?_
      clear hSB
      intro HS
      refine wpAnyH_take (i := 0) (v := ?_) rfl (by kernel_rfl) (by kernel_rfl) (by kernel_rfl) (fun _ _ _ h => h) (Or.inl ⟨by go_simp, ?hy⟩) HS ?_
      case hy => intro W hW; go_simp; (try with_reducible rfl)
      try simp only [List.getElem_toArray, List.getElem_cons_zero, List.getElem_cons_succ, Act.put, List.setIfInBounds_toArray, List.set_cons_zero, List.set_cons_succ]
      refine wpAnyH_take (i := 1) (v := ?_) rfl (by kernel_rfl) (by kernel_rfl) (by kernel_rfl) (fun _ _ _ h => h) (Or.inl ⟨by go_simp, ?hy⟩) HS ?_
      case hy => intro W hW; go_simp; (try with_reducible rfl)
      try simp only [List.getElem_toArray, List.getElem_cons_zero, List.getElem_cons_succ, Act.put, List.setIfInBounds_toArray, List.set_cons_zero, List.set_cons_succ]
      refine wpAnyH_take (i := 2) (v := ?_) rfl (by kernel_rfl) (by kernel_rfl) (by kernel_rfl) (fun _ _ _ h => h) (Or.inl ⟨by go_simp, ?hy⟩) HS ?_
      case hy => intro W hW; go_simp; (try with_reducible rfl)
      try simp only [List.getElem_toArray, List.getElem_cons_zero, List.getElem_cons_succ, Act.put, List.setIfInBounds_toArray, List.set_cons_zero, List.set_cons_succ]
      refine wpAnyH_take (i := 3) (v := ?_) rfl (by kernel_rfl) (by kernel_rfl) (by kernel_rfl) (fun _ _ _ h => h) (Or.inl ⟨by go_simp, ?hy⟩) HS ?_
      case hy => intro W hW; have c0 := Tb.c0 (And.right hW); go_simp; (try with_reducible rfl)
      try simp only [List.getElem_toArray, List.getElem_cons_zero, List.getElem_cons_succ, Act.put, List.setIfInBounds_toArray, List.set_cons_zero, List.set_cons_succ]
      refine wpAnyH_take (i := 4) (v := .agg X.toArray) rfl (by kernel_rfl) (by kernel_rfl) (by kernel_rfl) (fun _ _ _ h => h) (by refine yieldsIf_load_mid ?hw 26 (.tmp 6) ?ho b 0 ?hx X _ (fun W hW => row_at hW.1) Tryd.underlying26 rfl (by rw [HXL.out]; exact HSZ.out); (case ho => rfl); (case hw => go_simp); (case hx => go_simp)) HS ?_
      try simp only [List.getElem_toArray, List.getElem_cons_zero, List.getElem_cons_succ, Act.put, List.setIfInBounds_toArray, List.set_cons_zero, List.set_cons_succ]
      refine wpAnyH_ready (rs := [5, 7]) (by kernel_rfl) (by simp) ?_
      refine AllReadyH.cons rfl (fun K hK => ?_) (AllReadyH.cons rfl (fun K hK => ?_) AllReadyH.nil)
      · skip
        rw [if_pos (by kernel_rfl)]
        simp only [List.getElem_toArray, List.getElem_cons_zero, List.getElem_cons_succ]
        go_simp
        refine hK.out _ _ HS (fun HS => ?_)
        clear hK
        try simp only [List.getElem_toArray, List.getElem_cons_zero, List.getElem_cons_succ, Act.put, List.setIfInBounds_toArray, List.set_cons_zero, List.set_cons_succ]
        refine wpAnyH_take (i := 6) (v := ?_) rfl (by kernel_rfl) (by kernel_rfl) (by kernel_rfl) (fun _ _ _ h => h) (Or.inl ⟨by go_simp, ?hy⟩) HS ?_
        case hy => intro W hW; go_simp; (try with_reducible rfl)
        try simp only [List.getElem_toArray, List.getElem_cons_zero, List.getElem_cons_succ, Act.put, List.setIfInBounds_toArray, List.set_cons_zero, List.set_cons_succ]
        refine wpAnyH_ready (rs := [7]) (by kernel_rfl) (by simp) ?_
        refine AllReadyH.cons rfl (fun K hK => ?_) AllReadyH.nil
        rw [if_pos (by kernel_rfl)]
        simp only [List.getElem_toArray, List.getElem_cons_zero, List.getElem_cons_succ]
        go_simp
        refine hK.out _ _ HS3.out.sb (fun HS => ?_)
        clear hK
        try simp only [List.getElem_toArray, List.getElem_cons_zero, List.getElem_cons_succ, Act.put, List.setIfInBounds_toArray, List.set_cons_zero, List.set_cons_succ]
        refine wpAnyH_take (i := 8) (v := ?_) rfl (by kernel_rfl) (by kernel_rfl) (by kernel_rfl) (fun _ _ _ h => h) (Or.inl ⟨by go_simp, ?hy⟩) HS ?_
        case hy => intro W hW; go_simp; (try with_reducible rfl)
        try simp only [List.getElem_toArray, List.getElem_cons_zero, List.getElem_cons_succ, Act.put, List.setIfInBounds_toArray, List.set_cons_zero, List.set_cons_succ]
        refine wpAnyH_ready (rs := [9]) (by kernel_rfl) (by simp) ?_
        refine AllReadyH.cons rfl (fun K hK => ?_) AllReadyH.nil
        rw [if_pos (by kernel_rfl)]
        simp only [List.getElem_toArray, List.getElem_cons_zero, List.getElem_cons_succ]
        go_simp
        refine hK.out _ _ HS4.out.sb (fun HS => ?_)
        clear hK
        try simp only [List.getElem_toArray, List.getElem_cons_zero, List.getElem_cons_succ, Act.put, List.setIfInBounds_toArray, List.set_cons_zero, List.set_cons_succ]
        refine wpAnyH_done (by kernel_rfl) ?_ _
        have t1 : ¬ (0 : Int) < (c : Int) - 1 := by have := HC1.out; omega
        clear hE' hS' hlk2 hlk3 hwr HS
        go_wp2_with fail
        have hS6 := HS4.out.drew
        refine wp_region_held_drew (S := fun W => SeeL w W t mj ma mc (n + 1) m b (D.put (kl l) (jd (c - 1))) X) (by kernel_rfl) hS6 ?_
        clear hS6
        intro HS
        refine wpAnyH_take (i := 0) (v := ?_) rfl (by kernel_rfl) (by kernel_rfl) (by kernel_rfl) (fun _ _ _ h => h) (Or.inl ⟨by go_simp, ?hy⟩) HS ?_
        case hy => intro W hW; go_simp; (try with_reducible rfl)
        try simp only [List.getElem_toArray, List.getElem_cons_zero, List.getElem_cons_succ, Act.put, List.setIfInBounds_toArray, List.set_cons_zero, List.set_cons_succ]
        refine wpAnyH_take (i := 1) (v := ?_) rfl (by kernel_rfl) (by kernel_rfl) (by kernel_rfl) (fun _ _ _ h => h) (Or.inl ⟨by go_simp, ?hy⟩) HS ?_
        case hy => intro W hW; go_simp; (try with_reducible rfl)
        try simp only [List.getElem_toArray, List.getElem_cons_zero, List.getElem_cons_succ, Act.put, List.setIfInBounds_toArray, List.set_cons_zero, List.set_cons_succ]
        refine wpAnyH_take (i := 2) (v := ?_) rfl (by kernel_rfl) (by kernel_rfl) (by kernel_rfl) (fun _ _ _ h => h) (Or.inl ⟨by go_simp, ?hy⟩) HS ?_
        case hy => intro W hW; go_simp; (try with_reducible rfl)
        try simp only [List.getElem_toArray, List.getElem_cons_zero, List.getElem_cons_succ, Act.put, List.setIfInBounds_toArray, List.set_cons_zero, List.set_cons_succ]
        refine wpAnyH_take (i := 3) (v := ?_) rfl (by kernel_rfl) (by kernel_rfl) (by kernel_rfl) (fun _ _ _ h => h) (Or.inl ⟨by go_simp, ?hy⟩) HS ?_
        case hy => intro W hW; have c0 := Tb.c0 (SeeL.tb hW); go_simp; (try with_reducible rfl)
        try simp only [List.getElem_toArray, List.getElem_cons_zero, List.getElem_cons_succ, Act.put, List.setIfInBounds_toArray, List.set_cons_zero, List.set_cons_succ]
        refine wpAnyH_take (i := 4) (v := .agg X.toArray) rfl (by kernel_rfl) (by kernel_rfl) (by kernel_rfl) (fun _ _ _ h => h) (by refine yieldsIf_load_mid ?hw 26 (.tmp 6) ?ho b 0 ?hx X _ (fun W hW => row_at (SeeL.b hW)) Tryd.underlying26 rfl (by rw [HXL.out]; exact HSZ.out); (case ho => rfl); (case hw => go_simp); (case hx => go_simp)) HS ?_
        try simp only [List.getElem_toArray, List.getElem_cons_zero, List.getElem_cons_succ, Act.put, List.setIfInBounds_toArray, List.set_cons_zero, List.set_cons_succ]
        refine wpAnyH_take (i := 5) (v := ?_) rfl (by kernel_rfl) (by kernel_rfl) (by kernel_rfl) (fun _ _ _ h => h) (Or.inl ⟨by go_simp, ?hy⟩) HS ?_
        case hy => intro W hW; have hlk := HLK4.out W (SeeL.j hW); go_simp; (try with_reducible rfl)
        try simp only [List.getElem_toArray, List.getElem_cons_zero, List.getElem_cons_succ, Act.put, List.setIfInBounds_toArray, List.set_cons_zero, List.set_cons_succ]
        refine wpAnyH_take (i := 6) (v := ?_) rfl (by kernel_rfl) (by kernel_rfl) (by kernel_rfl) (fun _ _ _ h => h) (Or.inl ⟨by go_simp, ?hy⟩) HS ?_
        case hy => intro W hW; go_simp; (try with_reducible rfl)
        try simp only [List.getElem_toArray, List.getElem_cons_zero, List.getElem_cons_succ, Act.put, List.setIfInBounds_toArray, List.set_cons_zero, List.set_cons_succ]
        refine wpAnyH_done (by kernel_rfl) ?_ _
        clear HS
        go_wp2_with fail
        obtain ⟨w5, hd5, o5, t5⟩ := HS4.out.drew.drew.j.drop keyed Tryd.underlying53 (keyOf_adr HL.out) 0
        rw [← HXE.out] at hd5
        have HS5 := Lib.hid (HS4.out.drew.drew.turn t5 hne hna o5)
        clear o5 t5
        have hSB := HS4.out.drew.drew.sb
        refine wp_region_held_drew (S := fun W => SB W t mj ma mc b X) (by kernel_rfl) hSB ?_
        clear hSB
        intro HS
        refine wpAnyH_take (i := 0) (v := ?_) rfl (by kernel_rfl) (by kernel_rfl) (by kernel_rfl) (fun _ _ _ h => h) (Or.inl ⟨by go_simp, ?hy⟩) HS ?_
        case hy => intro W hW; go_simp; (try with_reducible rfl)
        try simp only [List.getElem_toArray, List.getElem_cons_zero, List.getElem_cons_succ, Act.put, List.setIfInBounds_toArray, List.set_cons_zero, List.set_cons_succ]
        refine wpAnyH_take (i := 1) (v := ?_) rfl (by kernel_rfl) (by kernel_rfl) (by kernel_rfl) (fun _ _ _ h => h) (Or.inl ⟨by go_simp, ?hy⟩) HS ?_
        case hy => intro W hW; go_simp; (try with_reducible rfl)
        try simp only [List.getElem_toArray, List.getElem_cons_zero, List.getElem_cons_succ, Act.put, List.setIfInBounds_toArray, List.set_cons_zero, List.set_cons_succ]
        refine wpAnyH_take (i := 2) (v := ?_) rfl (by kernel_rfl) (by kernel_rfl) (by kernel_rfl) (fun _ _ _ h => h) (Or.inl ⟨by go_simp, ?hy⟩) HS ?_
        case hy => intro W hW; go_simp; (try with_reducible rfl)
        try simp only [List.getElem_toArray, List.getElem_cons_zero, List.getElem_cons_succ, Act.put, List.setIfInBounds_toArray, List.set_cons_zero, List.set_cons_succ]
        refine wpAnyH_take (i := 3) (v := ?_) rfl (by kernel_rfl) (by kernel_rfl) (by kernel_rfl) (fun _ _ _ h => h) (Or.inl ⟨by go_simp, ?hy⟩) HS ?_
        case hy => intro W hW; have c0 := Tb.c0 (And.right hW); go_simp; (try with_reducible rfl)
        try simp only [List.getElem_toArray, List.getElem_cons_zero, List.getElem_cons_succ, Act.put, List.setIfInBounds_toArray, List.set_cons_zero, List.set_cons_succ]
        refine wpAnyH_take (i := 4) (v := .agg X.toArray) rfl (by kernel_rfl) (by kernel_rfl) (by kernel_rfl) (fun _ _ _ h => h) (by refine yieldsIf_load_mid ?hw 26 (.tmp 6) ?ho b 0 ?hx X _ (fun W hW => row_at hW.1) Tryd.underlying26 rfl (by rw [HXL.out]; exact HSZ.out); (case ho => rfl); (case hw => go_simp); (case hx => go_simp)) HS ?_
        try simp only [List.getElem_toArray, List.getElem_cons_zero, List.getElem_cons_succ, Act.put, List.setIfInBounds_toArray, List.set_cons_zero, List.set_cons_succ]
        refine wpAnyH_ready (rs := [5]) (by kernel_rfl) (by simp) ?_
        refine AllReadyH.cons rfl (fun K hK => ?_) AllReadyH.nil
        rw [if_pos (by kernel_rfl)]
        simp only [List.getElem_toArray, List.getElem_cons_zero, List.getElem_cons_succ]
        go_simp
        refine hK.out _ _ HS5.out.sb (fun HS => ?_)
        clear hK
        try simp only [List.getElem_toArray, List.getElem_cons_zero, List.getElem_cons_succ, Act.put, List.setIfInBounds_toArray, List.set_cons_zero, List.set_cons_succ]
        refine wpAnyH_done (by kernel_rfl) ?_ _
        clear hd5
        go_wp2_with fail
        obtain ⟨w6, hd6, o6, t6⟩ := HS5.out.drew.a.drop keyed Tryd.underlying64 (keyOf_adr HL.out) 0
        rw [← HXE.out] at hd6
        rw [del_nil] at o6
        have HS6 := Lib.hid (HS5.out.drew.turnA t6 hac (Ne.symm hna) o6)
        clear o6 t6
        have hSB := HS5.out.drew.sb
        refine wp_region_held_drew (S := fun W => SB W t mj ma mc b X) (by kernel_rfl) hSB ?_
        clear hSB HS
        intro HS
        refine wpAnyH_take (i := 0) (v := ?_) rfl (by kernel_rfl) (by kernel_rfl) (by kernel_rfl) (fun _ _ _ h => h) (Or.inl ⟨by go_simp, ?hy⟩) HS ?_
        case hy => intro W hW; go_simp; (try with_reducible rfl)
        try simp only [List.getElem_toArray, List.getElem_cons_zero, List.getElem_cons_succ, Act.put, List.setIfInBounds_toArray, List.set_cons_zero, List.set_cons_succ]
        refine wpAnyH_take (i := 1) (v := ?_) rfl (by kernel_rfl) (by kernel_rfl) (by kernel_rfl) (fun _ _ _ h => h) (Or.inl ⟨by go_simp, ?hy⟩) HS ?_
        case hy => intro W hW; go_simp; (try with_reducible rfl)
        try simp only [List.getElem_toArray, List.getElem_cons_zero, List.getElem_cons_succ, Act.put, List.setIfInBounds_toArray, List.set_cons_zero, List.set_cons_succ]
        refine wpAnyH_take (i := 2) (v := ?_) rfl (by kernel_rfl) (by kernel_rfl) (by kernel_rfl) (fun _ _ _ h => h) (Or.inl ⟨by go_simp, ?hy⟩) HS ?_
        case hy => intro W hW; go_simp; (try with_reducible rfl)
        try simp only [List.getElem_toArray, List.getElem_cons_zero, List.getElem_cons_succ, Act.put, List.setIfInBounds_toArray, List.set_cons_zero, List.set_cons_succ]
        refine wpAnyH_take (i := 3) (v := ?_) rfl (by kernel_rfl) (by kernel_rfl) (by kernel_rfl) (fun _ _ _ h => h) (Or.inl ⟨by go_simp, ?hy⟩) HS ?_
        case hy => intro W hW; have c1 := Tb.c1 (And.right hW); go_simp; (try with_reducible rfl)
        try simp only [List.getElem_toArray, List.getElem_cons_zero, List.getElem_cons_succ, Act.put, List.setIfInBounds_toArray, List.set_cons_zero, List.set_cons_succ]
        refine wpAnyH_take (i := 4) (v := .agg X.toArray) rfl (by kernel_rfl) (by kernel_rfl) (by kernel_rfl) (fun _ _ _ h => h) (by refine yieldsIf_load_mid ?hw 26 (.tmp 6) ?ho b 0 ?hx X _ (fun W hW => row_at hW.1) Tryd.underlying26 rfl (by rw [HXL.out]; exact HSZ.out); (case ho => rfl); (case hw => go_simp); (case hx => go_simp)) HS ?_
        try simp only [List.getElem_toArray, List.getElem_cons_zero, List.getElem_cons_succ, Act.put, List.setIfInBounds_toArray, List.set_cons_zero, List.set_cons_succ]
        refine wpAnyH_ready (rs := [5]) (by kernel_rfl) (by simp) ?_
        refine AllReadyH.cons rfl (fun K hK => ?_) AllReadyH.nil
        rw [if_pos (by kernel_rfl)]
        simp only [List.getElem_toArray, List.getElem_cons_zero, List.getElem_cons_succ]
        go_simp
        refine hK.out _ _ HS6.out.sb (fun HS => ?_)
        clear hK
        try simp only [List.getElem_toArray, List.getElem_cons_zero, List.getElem_cons_succ, Act.put, List.setIfInBounds_toArray, List.set_cons_zero, List.set_cons_succ]
        refine wpAnyH_done (by kernel_rfl) ?_ _
        clear hd6 HS
        have HR6 := Lib.hid (row_at HS6.out.b)
        go_wp2_with (first | (refine wpList_load_mid rfl 26 (.tmp 6) ?ho b 0 ?hx X _ ?hr Tryd.underlying26 rfl ?hi ?_; (case ho => with_reducible rfl); (case hx => rfl); (case hr => exact HR6.out); (case hi => rw [HXL.out]; exact HSZ.out); (try simp only [Act.put, List.setIfInBounds_toArray, List.set_cons_zero, List.set_cons_succ])))
        have hch := changed23 (k := 3) (now := now) (m := m) w6 (HKN.out.stepL HS6.out.thr z1 z3 z2) HL.out H0.out HS6.out.tb HS6.out.c hm (by decide) hnow
        rw [← HXE.out, show ((3 : Nat) : Int) = 3 from rfl] at hch
        refine hch.mono ?_
        clear hch
        rintro e w7 ⟨v, rfl, hr⟩
        have HRE := Lib.hid hr
        clear hr
        go_wp2_with fail
        go_ret2
        refine ⟨_, 0, rfl, ?_⟩
        unfold LeaveRes
        have hc0 := HC0.out
        have hc1 := HC1.out
        rw [if_neg hc0, if_pos hc1, show jd 0 = jd (c - 1) by rw [hc1]]
        refine ⟨rfl, fun h => ?_, fun h => HRE.out.no h, HS6.out.thr.trans HRE.out.thr.wideL, owns_thr HS6.out.j HRE.out.thr hne, owns_thr HS6.out.a HRE.out.thr hac, HRE.out.c⟩
        obtain ⟨g, hg1, hg2, hg3⟩ := HRE.out.yes h
        exact ⟨g, hg1, Nat.le_trans HS6.out.thr.size hg2, hg3⟩
      · skip
        rw [if_pos (by kernel_rfl)]
        simp only [List.getElem_toArray, List.getElem_cons_zero, List.getElem_cons_succ]
        go_simp
        refine hK.out _ _ HS3.out.sb (fun HS => ?_)
        clear hK
        try simp only [List.getElem_toArray, List.getElem_cons_zero, List.getElem_cons_succ, Act.put, List.setIfInBounds_toArray, List.set_cons_zero, List.set_cons_succ]
        refine wpAnyH_take (i := 8) (v := ?_) rfl (by kernel_rfl) (by kernel_rfl) (by kernel_rfl) (fun _ _ _ h => h) (Or.inl ⟨by go_simp, ?hy⟩) HS ?_
        case hy => intro W hW; go_simp; (try with_reducible rfl)
        try simp only [List.getElem_toArray, List.getElem_cons_zero, List.getElem_cons_succ, Act.put, List.setIfInBounds_toArray, List.set_cons_zero, List.set_cons_succ]
        refine wpAnyH_ready (rs := [5]) (by kernel_rfl) (by simp) ?_
        refine AllReadyH.cons rfl (fun K hK => ?_) AllReadyH.nil
        rw [if_pos (by kernel_rfl)]
        simp only [List.getElem_toArray, List.getElem_cons_zero, List.getElem_cons_succ]
        go_simp
        refine hK.out _ _ HS3.out.sb (fun HS => ?_)
        clear hK
        try simp only [List.getElem_toArray, List.getElem_cons_zero, List.getElem_cons_succ, Act.put, List.setIfInBounds_toArray, List.set_cons_zero, List.set_cons_succ]
        refine wpAnyH_take (i := 6) (v := ?_) rfl (by kernel_rfl) (by kernel_rfl) (by kernel_rfl) (fun _ _ _ h => h) (Or.inl ⟨by go_simp, ?hy⟩) HS ?_
        case hy => intro W hW; go_simp; (try with_reducible rfl)
        try simp only [List.getElem_toArray, List.getElem_cons_zero, List.getElem_cons_succ, Act.put, List.setIfInBounds_toArray, List.set_cons_zero, List.set_cons_succ]
        refine wpAnyH_ready (rs := [9]) (by kernel_rfl) (by simp) ?_
        refine AllReadyH.cons rfl (fun K hK => ?_) AllReadyH.nil
        rw [if_pos (by kernel_rfl)]
        simp only [List.getElem_toArray, List.getElem_cons_zero, List.getElem_cons_succ]
        go_simp
        refine hK.out _ _ HS4.out.sb (fun HS => ?_)
        clear hK
        try simp only [List.getElem_toArray, List.getElem_cons_zero, List.getElem_cons_succ, Act.put, List.setIfInBounds_toArray, List.set_cons_zero, List.set_cons_succ]
        refine wpAnyH_done (by kernel_rfl) ?_ _
        have t1 : ¬ (0 : Int) < (c : Int) - 1 := by have := HC1.out; omega
        clear hE' hS' hlk2 hlk3 hwr HS
        go_wp2_with fail
        have hS6 := HS4.out.drew
        refine wp_region_held_drew (S := fun W => SeeL w W t mj ma mc (n + 1) m b (D.put (kl l) (jd (c - 1))) X) (by kernel_rfl) hS6 ?_
        clear hS6
        intro HS
        refine wpAnyH_take (i := 0) (v := ?_) rfl (by kernel_rfl) (by kernel_rfl) (by kernel_rfl) (fun _ _ _ h => h) (Or.inl ⟨by go_simp, ?hy⟩) HS ?_
        case hy => intro W hW; go_simp; (try with_reducible rfl)
        try simp only [List.getElem_toArray, List.getElem_cons_zero, List.getElem_cons_succ, Act.put, List.setIfInBounds_toArray, List.set_cons_zero, List.set_cons_succ]
        refine wpAnyH_take (i := 1) (v := ?_) rfl (by kernel_rfl) (by kernel_rfl) (by kernel_rfl) (fun _ _ _ h => h) (Or.inl ⟨by go_simp, ?hy⟩) HS ?_
        case hy => intro W hW; go_simp; (try with_reducible rfl)
        try simp only [List.getElem_toArray, List.getElem_cons_zero, List.getElem_cons_succ, Act.put, List.setIfInBounds_toArray, List.set_cons_zero, List.set_cons_succ]
        refine wpAnyH_take (i := 2) (v := ?_) rfl (by kernel_rfl) (by kernel_rfl) (by kernel_rfl) (fun _ _ _ h => h) (Or.inl ⟨by go_simp, ?hy⟩) HS ?_
        case hy => intro W hW; go_simp; (try with_reducible rfl)
        try simp only [List.getElem_toArray, List.getElem_cons_zero, List.getElem_cons_succ, Act.put, List.setIfInBounds_toArray, List.set_cons_zero, List.set_cons_succ]
        refine wpAnyH_take (i := 3) (v := ?_) rfl (by kernel_rfl) (by kernel_rfl) (by kernel_rfl) (fun _ _ _ h => h) (Or.inl ⟨by go_simp, ?hy⟩) HS ?_
        case hy => intro W hW; have c0 := Tb.c0 (SeeL.tb hW); go_simp; (try with_reducible rfl)
        try simp only [List.getElem_toArray, List.getElem_cons_zero, List.getElem_cons_succ, Act.put, List.setIfInBounds_toArray, List.set_cons_zero, List.set_cons_succ]
        refine wpAnyH_take (i := 4) (v := .agg X.toArray) rfl (by kernel_rfl) (by kernel_rfl) (by kernel_rfl) (fun _ _ _ h => h) (by refine yieldsIf_load_mid ?hw 26 (.tmp 6) ?ho b 0 ?hx X _ (fun W hW => row_at (SeeL.b hW)) Tryd.underlying26 rfl (by rw [HXL.out]; exact HSZ.out); (case ho => rfl); (case hw => go_simp); (case hx => go_simp)) HS ?_
        try simp only [List.getElem_toArray, List.getElem_cons_zero, List.getElem_cons_succ, Act.put, List.setIfInBounds_toArray, List.set_cons_zero, List.set_cons_succ]
        refine wpAnyH_take (i := 5) (v := ?_) rfl (by kernel_rfl) (by kernel_rfl) (by kernel_rfl) (fun _ _ _ h => h) (Or.inl ⟨by go_simp, ?hy⟩) HS ?_
        case hy => intro W hW; have hlk := HLK4.out W (SeeL.j hW); go_simp; (try with_reducible rfl)
        try simp only [List.getElem_toArray, List.getElem_cons_zero, List.getElem_cons_succ, Act.put, List.setIfInBounds_toArray, List.set_cons_zero, List.set_cons_succ]
        refine wpAnyH_take (i := 6) (v := ?_) rfl (by kernel_rfl) (by kernel_rfl) (by kernel_rfl) (fun _ _ _ h => h) (Or.inl ⟨by go_simp, ?hy⟩) HS ?_
        case hy => intro W hW; go_simp; (try with_reducible rfl)
        try simp only [List.getElem_toArray, List.getElem_cons_zero, List.getElem_cons_succ, Act.put, List.setIfInBounds_toArray, List.set_cons_zero, List.set_cons_succ]
        refine wpAnyH_done (by kernel_rfl) ?_ _
        clear HS
        go_wp2_with fail
        obtain ⟨w5, hd5, o5, t5⟩ := HS4.out.drew.drew.j.drop keyed Tryd.underlying53 (keyOf_adr HL.out) 0
        rw [← HXE.out] at hd5
        have HS5 := Lib.hid (HS4.out.drew.drew.turn t5 hne hna o5)
        clear o5 t5
        have hSB := HS4.out.drew.drew.sb
        refine wp_region_held_drew (S := fun W => SB W t mj ma mc b X) (by kernel_rfl) hSB ?_
        clear hSB
        intro HS
        refine wpAnyH_take (i := 0) (v := ?_) rfl (by kernel_rfl) (by kernel_rfl) (by kernel_rfl) (fun _ _ _ h => h) (Or.inl ⟨by go_simp, ?hy⟩) HS ?_
        case hy => intro W hW; go_simp; (try with_reducible rfl)
        try simp only [List.getElem_toArray, List.getElem_cons_zero, List.getElem_cons_succ, Act.put, List.setIfInBounds_toArray, List.set_cons_zero, List.set_cons_succ]
        refine wpAnyH_take (i := 1) (v := ?_) rfl (by kernel_rfl) (by kernel_rfl) (by kernel_rfl) (fun _ _ _ h => h) (Or.inl ⟨by go_simp, ?hy⟩) HS ?_
        case hy => intro W hW; go_simp; (try with_reducible rfl)
        try simp only [List.getElem_toArray, List.getElem_cons_zero, List.getElem_cons_succ, Act.put, List.setIfInBounds_toArray, List.set_cons_zero, List.set_cons_succ]
        refine wpAnyH_take (i := 2) (v := ?_) rfl (by kernel_rfl) (by kernel_rfl) (by kernel_rfl) (fun _ _ _ h => h) (Or.inl ⟨by go_simp, ?hy⟩) HS ?_
        case hy => intro W hW; go_simp; (try with_reducible rfl)
        try simp only [List.getElem_toArray, List.getElem_cons_zero, List.getElem_cons_succ, Act.put, List.setIfInBounds_toArray, List.set_cons_zero, List.set_cons_succ]
        refine wpAnyH_take (i := 3) (v := ?_) rfl (by kernel_rfl) (by kernel_rfl) (by kernel_rfl) (fun _ _ _ h => h) (Or.inl ⟨by go_simp, ?hy⟩) HS ?_
        case hy => intro W hW; have c0 := Tb.c0 (And.right hW); go_simp; (try with_reducible rfl)
        try simp only [List.getElem_toArray, List.getElem_cons_zero, List.getElem_cons_succ, Act.put, List.setIfInBounds_toArray, List.set_cons_zero, List.set_cons_succ]
        refine wpAnyH_take (i := 4) (v := .agg X.toArray) rfl (by kernel_rfl) (by kernel_rfl) (by kernel_rfl) (fun _ _ _ h => h) (by refine yieldsIf_load_mid ?hw 26 (.tmp 6) ?ho b 0 ?hx X _ (fun W hW => row_at hW.1) Tryd.underlying26 rfl (by rw [HXL.out]; exact HSZ.out); (case ho => rfl); (case hw => go_simp); (case hx => go_simp)) HS ?_
        try simp only [List.getElem_toArray, List.getElem_cons_zero, List.getElem_cons_succ, Act.put, List.setIfInBounds_toArray, List.set_cons_zero, List.set_cons_succ]
        refine wpAnyH_ready (rs := [5]) (by kernel_rfl) (by simp) ?_
        refine AllReadyH.cons rfl (fun K hK => ?_) AllReadyH.nil
        rw [if_pos (by kernel_rfl)]
        simp only [List.getElem_toArray, List.getElem_cons_zero, List.getElem_cons_succ]
        go_simp
        refine hK.out _ _ HS5.out.sb (fun HS => ?_)
        clear hK
        try simp only [List.getElem_toArray, List.getElem_cons_zero, List.getElem_cons_succ, Act.put, List.setIfInBounds_toArray, List.set_cons_zero, List.set_cons_succ]
        refine wpAnyH_done (by kernel_rfl) ?_ _
        clear hd5
        go_wp2_with fail
        obtain ⟨w6, hd6, o6, t6⟩ := HS5.out.drew.a.drop keyed Tryd.underlying64 (keyOf_adr HL.out) 0
        rw [← HXE.out] at hd6
        rw [del_nil] at o6
        have HS6 := Lib.hid (HS5.out.drew.turnA t6 hac (Ne.symm hna) o6)
        clear o6 t6
        have hSB := HS5.out.drew.sb
        refine wp_region_held_drew (S := fun W => SB W t mj ma mc b X) (by kernel_rfl) hSB ?_
        clear hSB HS
        intro HS
        refine wpAnyH_take (i := 0) (v := ?_) rfl (by kernel_rfl) (by kernel_rfl) (by kernel_rfl) (fun _ _ _ h => h) (Or.inl ⟨by go_simp, ?hy⟩) HS ?_
        case hy => intro W hW; go_simp; (try with_reducible rfl)
        try simp only [List.getElem_toArray, List.getElem_cons_zero, List.getElem_cons_succ, Act.put, List.setIfInBounds_toArray, List.set_cons_zero, List.set_cons_succ]
        refine wpAnyH_take (i := 1) (v := ?_) rfl (by kernel_rfl) (by kernel_rfl) (by kernel_rfl) (fun _ _ _ h => h) (Or.inl ⟨by go_simp, ?hy⟩) HS ?_
        case hy => intro W hW; go_simp; (try with_reducible rfl)
        try simp only [List.getElem_toArray, List.getElem_cons_zero, List.getElem_cons_succ, Act.put, List.setIfInBounds_toArray, List.set_cons_zero, List.set_cons_succ]
        refine wpAnyH_take (i := 2) (v := ?_) rfl (by kernel_rfl) (by kernel_rfl) (by kernel_rfl) (fun _ _ _ h => h) (Or.inl ⟨by go_simp, ?hy⟩) HS ?_
        case hy => intro W hW; go_simp; (try with_reducible rfl)
        try simp only [List.getElem_toArray, List.getElem_cons_zero, List.getElem_cons_succ, Act.put, List.setIfInBounds_toArray, List.set_cons_zero, List.set_cons_succ]
        refine wpAnyH_take (i := 3) (v := ?_) rfl (by kernel_rfl) (by kernel_rfl) (by kernel_rfl) (fun _ _ _ h => h) (Or.inl ⟨by go_simp, ?hy⟩) HS ?_
        case hy => intro W hW; have c1 := Tb.c1 (And.right hW); go_simp; (try with_reducible rfl)
        try simp only [List.getElem_toArray, List.getElem_cons_zero, List.getElem_cons_succ, Act.put, List.setIfInBounds_toArray, List.set_cons_zero, List.set_cons_succ]
        refine wpAnyH_take (i := 4) (v := .agg X.toArray) rfl (by kernel_rfl) (by kernel_rfl) (by kernel_rfl) (fun _ _ _ h => h) (by refine yieldsIf_load_mid ?hw 26 (.tmp 6) ?ho b 0 ?hx X _ (fun W hW => row_at hW.1) Tryd.underlying26 rfl (by rw [HXL.out]; exact HSZ.out); (case ho => rfl); (case hw => go_simp); (case hx => go_simp)) HS ?_
        try simp only [List.getElem_toArray, List.getElem_cons_zero, List.getElem_cons_succ, Act.put, List.setIfInBounds_toArray, List.set_cons_zero, List.set_cons_succ]
        refine wpAnyH_ready (rs := [5]) (by kernel_rfl) (by simp) ?_
        refine AllReadyH.cons rfl (fun K hK => ?_) AllReadyH.nil
        rw [if_pos (by kernel_rfl)]
        simp only [List.getElem_toArray, List.getElem_cons_zero, List.getElem_cons_succ]
        go_simp
        refine hK.out _ _ HS6.out.sb (fun HS => ?_)
        clear hK
        try simp only [List.getElem_toArray, List.getElem_cons_zero, List.getElem_cons_succ, Act.put, List.setIfInBounds_toArray, List.set_cons_zero, List.set_cons_succ]
        refine wpAnyH_done (by kernel_rfl) ?_ _
        clear hd6 HS
        have HR6 := Lib.hid (row_at HS6.out.b)
        go_wp2_with (first | (refine wpList_load_mid rfl 26 (.tmp 6) ?ho b 0 ?hx X _ ?hr Tryd.underlying26 rfl ?hi ?_; (case ho => with_reducible rfl); (case hx => rfl); (case hr => exact HR6.out); (case hi => rw [HXL.out]; exact HSZ.out); (try simp only [Act.put, List.setIfInBounds_toArray, List.set_cons_zero, List.set_cons_succ])))
        have hch := changed23 (k := 3) (now := now) (m := m) w6 (HKN.out.stepL HS6.out.thr z1 z3 z2) HL.out H0.out HS6.out.tb HS6.out.c hm (by decide) hnow
        rw [← HXE.out, show ((3 : Nat) : Int) = 3 from rfl] at hch
        refine hch.mono ?_
        clear hch
        rintro e w7 ⟨v, rfl, hr⟩
        have HRE := Lib.hid hr
        clear hr
        go_wp2_with fail
        go_ret2
        refine ⟨_, 0, rfl, ?_⟩
        unfold LeaveRes
        have hc0 := HC0.out
        have hc1 := HC1.out
        rw [if_neg hc0, if_pos hc1, show jd 0 = jd (c - 1) by rw [hc1]]
        refine ⟨rfl, fun h => ?_, fun h => HRE.out.no h, HS6.out.thr.trans HRE.out.thr.wideL, owns_thr HS6.out.j HRE.out.thr hne, owns_thr HS6.out.a HRE.out.thr hac, HRE.out.c⟩
        obtain ⟨g, hg1, hg2, hg3⟩ := HRE.out.yes h
        exact ⟨g, hg1, Nat.le_trans HS6.out.thr.size hg2, hg3⟩
    · have HC1 := Lib.hid hc1
      clear hc1
      go_wp2_with fail
      have hS5 := HS1.out.drew.drew
      obtain ⟨v0, st, w3, hE, tE, oE, hE2⟩ := entry_own law26 Tryd.underlying53 zero3 (show plainElem Tryd.prog 3 (.int .i64 0) = some (jd 0, []) from plain3 (c := 0) (by omega)) hS5.j hn (keyOf_adr HL.out)
      have hlk2 := HLK.out _ hS5.j
      rw [HD.out] at oE
      have hlk3 := look_j oE HL.out (Maps.atKey_put_same hS5.j.isMap (isKeyLit_kl l) _ _)
      rw [← HXE.out] at hlk3 hE
      have e1 : (((c - 1 : Nat)) : Int) = (c : Int) - 1 := by have := HC0.out; omega
      obtain ⟨w4, hS, oS, tS⟩ := hE2 w3 (.int .i64 ((c - 1 : Nat) : Int)) (jd (c - 1)) [] rfl (plain3 (by omega))
      have HS3 := Lib.hid (hS5.turn tE hne hna oE)
      have HS4 := Lib.hid (HS3.out.turn tS hne hna oS)
      have HLK4 : Hid (∀ W, MJ W mj (n + 1) (D.put (kl l) (jd (c - 1))) → (Instr.lookup 53 (.map (some mj)) (.agg X.toArray) false).run Tryd.prog W = .ok (.int .i64 ((c : Int) - 1)) W) := Lib.hid fun W hW => by
        have := look_j hW HL.out (Maps.atKey_put_same hS5.j.isMap (isKeyLit_kl l) _ _)
        rw [← HXE.out, e1] at this
        exact this
      rw [e1] at hS
      have hwr : IntKind.i64.wrap ((c : Int) - 1) = (c : Int) - 1 := by rw [← e1]; exact i64_small (by omega)
      have hE' : (Instr.mapEntry 53 (.map (some mj)) (.agg X.toArray)).run Tryd.prog V.drew.drew = .ok (.tuple #[v0, .int .i64 (st : Int)]) w3 := hE
      have hS' : (Instr.entryStore 53 (.map (some mj)) (.int .i64 (st : Int)) (.int .i64 ((c : Int) - 1))).run Tryd.prog w3 = .ok () w4 := hS
      clear hE hS hE2 oE tE oS tS e1
      have hSB := hS5.sb
      clear hS5
      refine wp_region_held_drew (S := fun W => SB W t mj ma mc b X) (by kernel_rfl) hSB ?_
      clear hSB
      intro HS
      refine wpAnyH_take (i := 0) (v := ?_) rfl (by kernel_rfl) (by kernel_rfl) (by kernel_rfl) (fun _ _ _ h => h) (Or.inl ⟨by go_simp, ?hy⟩) HS ?_
      case hy => intro W hW; go_simp; (try with_reducible rfl)
      try simp only [List.getElem_toArray, List.getElem_cons_zero, List.getElem_cons_succ, Act.put, List.setIfInBounds_toArray, List.set_cons_zero, List.set_cons_succ]
      refine wpAnyH_take (i := 1) (v := ?_) rfl (by kernel_rfl) (by kernel_rfl) (by kernel_rfl) (fun _ _ _ h => h) (Or.inl ⟨by go_simp, ?hy⟩) HS ?_
      case hy => intro W hW; go_simp; (try with_reducible rfl)
      try simp only [List.getElem_toArray, List.getElem_cons_zero, List.getElem_cons_succ, Act.put, List.setIfInBounds_toArray, List.set_cons_zero, List.set_cons_succ]
      refine wpAnyH_take (i := 2) (v := ?_) rfl (by kernel_rfl) (by kernel_rfl) (by kernel_rfl) (fun _ _ _ h => h) (Or.inl ⟨by go_simp, ?hy⟩) HS ?_
      case hy => intro W hW; go_simp; (try with_reducible rfl)
      try simp only [List.getElem_toArray, List.getElem_cons_zero, List.getElem_cons_succ, Act.put, List.setIfInBounds_toArray, List.set_cons_zero, List.set_cons_succ]
      refine wpAnyH_take (i := 3) (v := ?_) rfl (by kernel_rfl) (by kernel_rfl) (by kernel_rfl) (fun _ _ _ h => h) (Or.inl ⟨by go_simp, ?hy⟩) HS ?_
      case hy => intro W hW; have c0 := Tb.c0 (And.right hW); go_simp; (try with_reducible rfl)
      try simp only [List.getElem_toArray, List.getElem_cons_zero, List.getElem_cons_succ, Act.put, List.setIfInBounds_toArray, List.set_cons_zero, List.set_cons_succ]
      refine wpAnyH_take (i := 4) (v := .agg X.toArray) rfl (by kernel_rfl) (by kernel_rfl) (by kernel_rfl) (fun _ _ _ h => h) (by refine yieldsIf_load_mid ?hw 26 (.tmp 6) ?ho b 0 ?hx X _ (fun W hW => row_at hW.1) Tryd.underlying26 rfl (by rw [HXL.out]; exact HSZ.out); (case ho => rfl); (case hw => go_simp); (case hx => go_simp)) HS ?_
      try simp only [List.getElem_toArray, List.getElem_cons_zero, List.getElem_cons_succ, Act.put, List.setIfInBounds_toArray, List.set_cons_zero, List.set_cons_succ]
      refine wpAnyH_ready (rs := [5, 7]) (by kernel_rfl) (by simp) ?_
      refine AllReadyH.cons rfl (fun K hK => ?_) (AllReadyH.cons rfl (fun K hK => ?_) AllReadyH.nil)
      · skip
        rw [if_pos (by kernel_rfl)]
        simp only [List.getElem_toArray, List.getElem_cons_zero, List.getElem_cons_succ]
        go_simp
        refine hK.out _ _ HS (fun HS => ?_)
        clear hK
        try simp only [List.getElem_toArray, List.getElem_cons_zero, List.getElem_cons_succ, Act.put, List.setIfInBounds_toArray, List.set_cons_zero, List.set_cons_succ]
        refine wpAnyH_take (i := 6) (v := ?_) rfl (by kernel_rfl) (by kernel_rfl) (by kernel_rfl) (fun _ _ _ h => h) (Or.inl ⟨by go_simp, ?hy⟩) HS ?_
        case hy => intro W hW; go_simp; (try with_reducible rfl)
        try simp only [List.getElem_toArray, List.getElem_cons_zero, List.getElem_cons_succ, Act.put, List.setIfInBounds_toArray, List.set_cons_zero, List.set_cons_succ]
        refine wpAnyH_ready (rs := [7]) (by kernel_rfl) (by simp) ?_
        refine AllReadyH.cons rfl (fun K hK => ?_) AllReadyH.nil
        rw [if_pos (by kernel_rfl)]
        simp only [List.getElem_toArray, List.getElem_cons_zero, List.getElem_cons_succ]
        go_simp
        refine hK.out _ _ HS3.out.sb (fun HS => ?_)
        clear hK
        try simp only [List.getElem_toArray, List.getElem_cons_zero, List.getElem_cons_succ, Act.put, List.setIfInBounds_toArray, List.set_cons_zero, List.set_cons_succ]
        refine wpAnyH_take (i := 8) (v := ?_) rfl (by kernel_rfl) (by kernel_rfl) (by kernel_rfl) (fun _ _ _ h => h) (Or.inl ⟨by go_simp, ?hy⟩) HS ?_
        case hy => intro W hW; go_simp; (try with_reducible rfl)
        try simp only [List.getElem_toArray, List.getElem_cons_zero, List.getElem_cons_succ, Act.put, List.setIfInBounds_toArray, List.set_cons_zero, List.set_cons_succ]
        refine wpAnyH_ready (rs := [9]) (by kernel_rfl) (by simp) ?_
        refine AllReadyH.cons rfl (fun K hK => ?_) AllReadyH.nil
        rw [if_pos (by kernel_rfl)]
        simp only [List.getElem_toArray, List.getElem_cons_zero, List.getElem_cons_succ]
        go_simp
        refine hK.out _ _ HS4.out.sb (fun HS => ?_)
        clear hK
        try simp only [List.getElem_toArray, List.getElem_cons_zero, List.getElem_cons_succ, Act.put, List.setIfInBounds_toArray, List.set_cons_zero, List.set_cons_succ]
        refine wpAnyH_done (by kernel_rfl) ?_ _
        have t1 : (0 : Int) < (c : Int) - 1 := by have := HC0.out; have := HC1.out; omega
        clear hE' hS' hlk2 hlk3 hwr HS
        go_wp2_with fail
        have hS6 := HS4.out.drew
        refine wp_region_held_drew (S := fun W => SeeL w W t mj ma mc (n + 1) m b (D.put (kl l) (jd (c - 1))) X) (by kernel_rfl) hS6 ?_
        clear hS6
        intro HS
        refine wpAnyH_take (i := 0) (v := ?_) rfl (by kernel_rfl) (by kernel_rfl) (by kernel_rfl) (fun _ _ _ h => h) (Or.inl ⟨by go_simp, ?hy⟩) HS ?_
        case hy => intro W hW; go_simp; (try with_reducible rfl)
        try simp only [List.getElem_toArray, List.getElem_cons_zero, List.getElem_cons_succ, Act.put, List.setIfInBounds_toArray, List.set_cons_zero, List.set_cons_succ]
        refine wpAnyH_take (i := 1) (v := ?_) rfl (by kernel_rfl) (by kernel_rfl) (by kernel_rfl) (fun _ _ _ h => h) (Or.inl ⟨by go_simp, ?hy⟩) HS ?_
        case hy => intro W hW; go_simp; (try with_reducible rfl)
        try simp only [List.getElem_toArray, List.getElem_cons_zero, List.getElem_cons_succ, Act.put, List.setIfInBounds_toArray, List.set_cons_zero, List.set_cons_succ]
        refine wpAnyH_take (i := 2) (v := ?_) rfl (by kernel_rfl) (by kernel_rfl) (by kernel_rfl) (fun _ _ _ h => h) (Or.inl ⟨by go_simp, ?hy⟩) HS ?_
        case hy => intro W hW; go_simp; (try with_reducible rfl)
        try simp only [List.getElem_toArray, List.getElem_cons_zero, List.getElem_cons_succ, Act.put, List.setIfInBounds_toArray, List.set_cons_zero, List.set_cons_succ]
        refine wpAnyH_take (i := 3) (v := ?_) rfl (by kernel_rfl) (by kernel_rfl) (by kernel_rfl) (fun _ _ _ h => h) (Or.inl ⟨by go_simp, ?hy⟩) HS ?_
        case hy => intro W hW; have c0 := Tb.c0 (SeeL.tb hW); go_simp; (try with_reducible rfl)
        try simp only [List.getElem_toArray, List.getElem_cons_zero, List.getElem_cons_succ, Act.put, List.setIfInBounds_toArray, List.set_cons_zero, List.set_cons_succ]
        refine wpAnyH_take (i := 4) (v := .agg X.toArray) rfl (by kernel_rfl) (by kernel_rfl) (by kernel_rfl) (fun _ _ _ h => h) (by refine yieldsIf_load_mid ?hw 26 (.tmp 6) ?ho b 0 ?hx X _ (fun W hW => row_at (SeeL.b hW)) Tryd.underlying26 rfl (by rw [HXL.out]; exact HSZ.out); (case ho => rfl); (case hw => go_simp); (case hx => go_simp)) HS ?_
        try simp only [List.getElem_toArray, List.getElem_cons_zero, List.getElem_cons_succ, Act.put, List.setIfInBounds_toArray, List.set_cons_zero, List.set_cons_succ]
        refine wpAnyH_take (i := 5) (v := ?_) rfl (by kernel_rfl) (by kernel_rfl) (by kernel_rfl) (fun _ _ _ h => h) (Or.inl ⟨by go_simp, ?hy⟩) HS ?_
        case hy => intro W hW; have hlk := HLK4.out W (SeeL.j hW); go_simp; (try with_reducible rfl)
        try simp only [List.getElem_toArray, List.getElem_cons_zero, List.getElem_cons_succ, Act.put, List.setIfInBounds_toArray, List.set_cons_zero, List.set_cons_succ]
        refine wpAnyH_take (i := 6) (v := ?_) rfl (by kernel_rfl) (by kernel_rfl) (by kernel_rfl) (fun _ _ _ h => h) (Or.inl ⟨by go_simp, ?hy⟩) HS ?_
        case hy => intro W hW; go_simp; (try with_reducible rfl)
        try simp only [List.getElem_toArray, List.getElem_cons_zero, List.getElem_cons_succ, Act.put, List.setIfInBounds_toArray, List.set_cons_zero, List.set_cons_succ]
        refine wpAnyH_done (by kernel_rfl) ?_ _
        go_wp2_with fail
        go_ret2
        refine ⟨_, 0, rfl, ?_⟩
        have hc0 := HC0.out
        have hc1 := HC1.out
        unfold LeaveRes
        rw [if_neg hc0, if_neg hc1]
        exact ⟨rfl, fun h => (by cases h), fun _ => rfl, HS4.out.drew.thr, HS4.out.drew.j, HS4.out.drew.a, HS4.out.drew.c.imp fun D h => h.mono (by omega)⟩
      · skip
        rw [if_pos (by kernel_rfl)]
        simp only [List.getElem_toArray, List.getElem_cons_zero, List.getElem_cons_succ]
        go_simp
        refine hK.out _ _ HS3.out.sb (fun HS => ?_)
        clear hK
        try simp only [List.getElem_toArray, List.getElem_cons_zero, List.getElem_cons_succ, Act.put, List.setIfInBounds_toArray, List.set_cons_zero, List.set_cons_succ]
        refine wpAnyH_take (i := 8) (v := ?_) rfl (by kernel_rfl) (by kernel_rfl) (by kernel_rfl) (fun _ _ _ h => h) (Or.inl ⟨by go_simp, ?hy⟩) HS ?_
        case hy => intro W hW; go_simp; (try with_reducible rfl)
        try simp only [List.getElem_toArray, List.getElem_cons_zero, List.getElem_cons_succ, Act.put, List.setIfInBounds_toArray, List.set_cons_zero, List.set_cons_succ]
        refine wpAnyH_ready (rs := [5]) (by kernel_rfl) (by simp) ?_
        refine AllReadyH.cons rfl (fun K hK => ?_) AllReadyH.nil
        rw [if_pos (by kernel_rfl)]
        simp only [List.getElem_toArray, List.getElem_cons_zero, List.getElem_cons_succ]
        go_simp
        refine hK.out _ _ HS3.out.sb (fun HS => ?_)
        clear hK
        try simp only [List.getElem_toArray, List.getElem_cons_zero, List.getElem_cons_succ, Act.put, List.setIfInBounds_toArray, List.set_cons_zero, List.set_cons_succ]
        refine wpAnyH_take (i := 6) (v := ?_) rfl (by kernel_rfl) (by kernel_rfl) (by kernel_rfl) (fun _ _ _ h => h) (Or.inl ⟨by go_simp, ?hy⟩) HS ?_
        case hy => intro W hW; go_simp; (try with_reducible rfl)
        try simp only [List.getElem_toArray, List.getElem_cons_zero, List.getElem_cons_succ, Act.put, List.setIfInBounds_toArray, List.set_cons_zero, List.set_cons_succ]
        refine wpAnyH_ready (rs := [9]) (by kernel_rfl) (by simp) ?_
        refine AllReadyH.cons rfl (fun K hK => ?_) AllReadyH.nil
        rw [if_pos (by kernel_rfl)]
        simp only [List.getElem_toArray, List.getElem_cons_zero, List.getElem_cons_succ]
        go_simp
        refine hK.out _ _ HS4.out.sb (fun HS => ?_)
        clear hK
        try simp only [List.getElem_toArray, List.getElem_cons_zero, List.getElem_cons_succ, Act.put, List.setIfInBounds_toArray, List.set_cons_zero, List.set_cons_succ]
        refine wpAnyH_done (by kernel_rfl) ?_ _
        have t1 : (0 : Int) < (c : Int) - 1 := by have := HC0.out; have := HC1.out; omega
        clear hE' hS' hlk2 hlk3 hwr HS
        go_wp2_with fail
        have hS6 := HS4.out.drew
        refine wp_region_held_drew (S := fun W => SeeL w W t mj ma mc (n + 1) m b (D.put (kl l) (jd (c - 1))) X) (by kernel_rfl) hS6 ?_
        clear hS6
        intro HS
        refine wpAnyH_take (i := 0) (v := ?_) rfl (by kernel_rfl) (by kernel_rfl) (by kernel_rfl) (fun _ _ _ h => h) (Or.inl ⟨by go_simp, ?hy⟩) HS ?_
        case hy => intro W hW; go_simp; (try with_reducible rfl)
        try simp only [List.getElem_toArray, List.getElem_cons_zero, List.getElem_cons_succ, Act.put, List.setIfInBounds_toArray, List.set_cons_zero, List.set_cons_succ]
        refine wpAnyH_take (i := 1) (v := ?_) rfl (by kernel_rfl) (by kernel_rfl) (by kernel_rfl) (fun _ _ _ h => h) (Or.inl ⟨by go_simp, ?hy⟩) HS ?_
        case hy => intro W hW; go_simp; (try with_reducible rfl)
        try simp only [List.getElem_toArray, List.getElem_cons_zero, List.getElem_cons_succ, Act.put, List.setIfInBounds_toArray, List.set_cons_zero, List.set_cons_succ]
        refine wpAnyH_take (i := 2) (v := ?_) rfl (by kernel_rfl) (by kernel_rfl) (by kernel_rfl) (fun _ _ _ h => h) (Or.inl ⟨by go_simp, ?hy⟩) HS ?_
        case hy => intro W hW; go_simp; (try with_reducible rfl)
        try simp only [List.getElem_toArray, List.getElem_cons_zero, List.getElem_cons_succ, Act.put, List.setIfInBounds_toArray, List.set_cons_zero, List.set_cons_succ]
        refine wpAnyH_take (i := 3) (v := ?_) rfl (by kernel_rfl) (by kernel_rfl) (by kernel_rfl) (fun _ _ _ h => h) (Or.inl ⟨by go_simp, ?hy⟩) HS ?_
        case hy => intro W hW; have c0 := Tb.c0 (SeeL.tb hW); go_simp; (try with_reducible rfl)
        try simp only [List.getElem_toArray, List.getElem_cons_zero, List.getElem_cons_succ, Act.put, List.setIfInBounds_toArray, List.set_cons_zero, List.set_cons_succ]
        refine wpAnyH_take (i := 4) (v := .agg X.toArray) rfl (by kernel_rfl) (by kernel_rfl) (by kernel_rfl) (fun _ _ _ h => h) (by refine yieldsIf_load_mid ?hw 26 (.tmp 6) ?ho b 0 ?hx X _ (fun W hW => row_at (SeeL.b hW)) Tryd.underlying26 rfl (by rw [HXL.out]; exact HSZ.out); (case ho => rfl); (case hw => go_simp); (case hx => go_simp)) HS ?_
        try simp only [List.getElem_toArray, List.getElem_cons_zero, List.getElem_cons_succ, Act.put, List.setIfInBounds_toArray, List.set_cons_zero, List.set_cons_succ]
        refine wpAnyH_take (i := 5) (v := ?_) rfl (by kernel_rfl) (by kernel_rfl) (by kernel_rfl) (fun _ _ _ h => h) (Or.inl ⟨by go_simp, ?hy⟩) HS ?_
        case hy => intro W hW; have hlk := HLK4.out W (SeeL.j hW); go_simp; (try with_reducible rfl)
        try simp only [List.getElem_toArray, List.getElem_cons_zero, List.getElem_cons_succ, Act.put, List.setIfInBounds_toArray, List.set_cons_zero, List.set_cons_succ]
        refine wpAnyH_take (i := 6) (v := ?_) rfl (by kernel_rfl) (by kernel_rfl) (by kernel_rfl) (fun _ _ _ h => h) (Or.inl ⟨by go_simp, ?hy⟩) HS ?_
        case hy => intro W hW; go_simp; (try with_reducible rfl)
        try simp only [List.getElem_toArray, List.getElem_cons_zero, List.getElem_cons_succ, Act.put, List.setIfInBounds_toArray, List.set_cons_zero, List.set_cons_succ]
        refine wpAnyH_done (by kernel_rfl) ?_ _
        go_wp2_with fail
        go_ret2
        refine ⟨_, 0, rfl, ?_⟩
        have hc0 := HC0.out
        have hc1 := HC1.out
        unfold LeaveRes
        rw [if_neg hc0, if_neg hc1]
        exact ⟨rfl, fun h => (by cases h), fun _ => rfl, HS4.out.drew.thr, HS4.out.drew.j, HS4.out.drew.a, HS4.out.drew.c.imp fun D h => h.mono (by omega)⟩
end Go.Proofs.YthbkjhacnnoolaaDoor
