/- A group is joined: the walk. No condition but that the maps are ones. (Written out by exp.py.) -/
import Derived.Test.YthbkjhacnnoolaaDoorGJ
namespace Go.Proofs.YthbkjhacnnoolaaDoor
open Go.RowKit
set_option linter.unusedVariables false
set_option linter.unusedSimpArgs false
def jd (c : Nat) : PD := .lit (.int .i64 (c : Int))
theorem zero3 (u : World) : (zeroValue 3).run Tryd.prog u = .ok (.int .i64 0) u := by kernel_rfl
theorem plain3 {c : Nat} (h : c < 9223372036854775808) : plainElem Tryd.prog 3 (.int .i64 (c : Int)) = some (jd c, []) :=
  plainElem_int Tryd.underlying3 (by simp [Lit.wf, IntKind.min, IntKind.max, IntKind.signed, IntKind.bits]; omega)
theorem look_j {W : World} {mj n c : Nat} {D : PD} {l : List Nat} (h : MJ W mj n D) (hl : Adr l) (hD : D.atKey (kl l) (jd 0) = jd c) :
    (Instr.lookup 53 (.map (some mj)) (.agg (row8 l).toArray) false).run Tryd.prog W = .ok (.int .i64 (c : Int)) W := by
  obtain ⟨a, h1, h2, _⟩ := h.lookup_int keyed Tryd.underlying53 Tryd.underlying3 (zero3 W) (keyOf_adr hl)
  rw [show (DataW.lit (Lit.int .i64 0) : PD) = jd 0 from rfl, hD] at h2
  simp only [jd, DataW.lit.injEq, Lit.int.injEq, true_and] at h2
  rw [h2]; exact h1
/-- what the walks of Join and Leave see -/
structure SeeJ (w W : World) (t mj ma mc n m b : Nat) (D : PD) (X : List Value) : Prop where
  thr : Thr mj mj mc w W
  b : W.heap[b]? = some (.cells X.toArray 26 (0, 0))
  tb : Tb W t mj ma mc
  j : MJ W mj n D
  c : MC W mc m
section
variable {w W W' : World} {t mj ma mc n m b : Nat} {D : PD} {X : List Value}
theorem SeeJ.step (h : SeeJ w W t mj ma mc n m b D X) (hb : Below W.heap.size W W') : SeeJ w W' t mj ma mc n m b D X :=
  ⟨h.thr.step hb, (hb.block _ (lt_of_blk h.b)).trans h.b, ⟨(hb.block _ (lt_of_blk h.tb.blk)).trans h.tb.blk⟩, owns_below h.j hb, h.c.imp fun D h => owns_below h hb⟩
theorem SeeJ.drew (h : SeeJ w W t mj ma mc n m b D X) : SeeJ w W.drew t mj ma mc n m b D X := h.step ((Below.refl _ _).drew)
theorem keepM {w w' : World} {m : Nat} (k : w.mapTurned w' m) {i : Nat} {c : Array Value} {t : TypeId} {z : Nat × Nat} (hi : w.heap[i]? = some (.cells c t z)) : w'.heap[i]? = some (.cells c t z) := by
  have ne : i ≠ m := fun e => by
    obtain ⟨es, clock, _, _, hm, _⟩ := k
    rw [e, hm] at hi; cases hi
  exact (k.grown.block i (lt_of_blk hi) (fun e => ne (by injection e))).trans hi
theorem SeeJ.turn (h : SeeJ w W t mj ma mc n m b D X) (k : W.mapTurned W' mj) (hne : mj ≠ mc) {n' : Nat} {D' : PD} (ho : MJ W' mj n' D') : SeeJ w W' t mj ma mc n' m b D' X :=
  ⟨h.thr.map k (.inl rfl), keepM k h.b, ⟨keepM k h.tb.blk⟩, ho, h.c.imp fun D h => owns_map h k hne⟩
abbrev SB (W : World) (t mj ma mc b : Nat) (X : List Value) : Prop := W.heap[b]? = some (.cells X.toArray 26 (0, 0)) ∧ Tb W t mj ma mc
theorem SeeJ.sb (h : SeeJ w W t mj ma mc n m b D X) : SB W t mj ma mc b X := ⟨h.b, h.tb⟩
theorem SB.turn (h : SB W t mj ma mc b X) (k : W.mapTurned W' m) : SB W' t mj ma mc b X := ⟨keepM k h.1, ⟨keepM k h.2.blk⟩⟩
end
/-- what comes of a Join or a Leave -/
structure Out (k : Nat) (l : List Nat) (tell : Bool) (v : Value) (mj mc n m : Nat) (D : PD) (w w' : World) : Prop where
  yes : tell = true → ∃ g, v = .slice (some ⟨g, 0, none⟩) 1 1 ∧ w.heap.size ≤ g ∧ w'.heap[g]? = some (.cells (recL k l).toArray 42 (0, 0))
  no : tell = false → v = .slice none 0 0
  thr : Thr mj mj mc w w'
  j : MJ w' mj n D
  c : MC w' mc m
theorem Kn.stepJ {w w' : World} {mj mc : Nat} (h : Kn w) (k : Thr mj mj mc w w') (h0 : 0 ≠ mj) (h1 : 0 ≠ mc) : Kn w' :=
  ⟨fun j v hj => (World.cell?_of_block (k.block 0 h.lt h0 h0 h1)).trans (h.at_ j v hj), Nat.lt_of_lt_of_le h.lt k.size⟩
theorem Thr.wide {w w' : World} {mj mc : Nat} (k : Thr mc mc mc w w') : Thr mj mj mc w w' := ⟨k.os, k.tape, k.output, k.size, fun i hi _ _ c => k.block i hi c c c⟩
theorem owns_thr {P : Program} {k : TypeId} {R : Value → Option (PD × List MemPlace)} {w w' : World} {b n mc : Nat} {D : PD} (h : w.ownsMap P k R b n D) (t : Thr mc mc mc w w') (hb : b ≠ mc) : w'.ownsMap P k R b n D :=
  h.kept (row := some mc) ⟨t.os, t.tape, t.output, t.size, fun i hi e => t.block i hi (fun e1 => e (by rw [e1])) (fun e1 => e (by rw [e1])) (fun e1 => e (by rw [e1]))⟩ (fun e => hb (by injection e))
def JoinRes (l : List Nat) (c : Nat) (v : Value) (r : Int) (mj mc n m : Nat) (D : PD) (w w' : World) : Prop :=
  if c = 0 ∧ 24 ≤ Maps.size D then r = 3 ∧ Out 4 l false v mj mc (n + 1) (m + 2) D w w' else r = 0 ∧ Out 4 l (decide (c = 0) && toldB l) v mj mc (n + 1) (m + 2) (D.put (kl l) (jd (c + 1))) w w'
set_option maxRecDepth 100000 in
theorem join9 {l : List Nat} {t mj ma mc n m now c : Nat} {D : PD} (w : World) (hkn : Kn w) (hl : Adr l) (h0 : l.headD 0 = 255) (htb : Tb w t mj ma mc) (hj : MJ w mj n D) (hc : MC w mc m) (hm : m + 2 < maxLen) (hn : n < maxLen)
    (hne : mj ≠ mc) (z1 : 0 ≠ mj) (z2 : 0 ≠ mc) (hD : D.atKey (kl l) (jd 0) = jd c) (hcb : c < 4611686018427387904) (hnow : now < 18446744073709551615) :
    Calls Tryd.prog 9 #[.pointer (some ⟨t, 0, none⟩), .int .u64 (now : Int), .agg (row8 l).toArray, .pointer none] w fun e w' => ∃ v r, e = .returned (.tuple #[v, .int .i64 r]) ∧
      JoinRes l c v r mj mc n m D w w' := by
  have hal : Below w.heap.size w (w.alloc (.cells (row8 l).toArray 26)) := (Below.refl _ _).alloc (Nat.le_refl _) _
  have hb := heap_alloc_new w (.cells (row8 l).toArray 26)
  obtain ⟨V, hV⟩ : ∃ V, V = w.alloc (.cells (row8 l).toArray 26) := ⟨_, rfl⟩
  obtain ⟨b, hbb⟩ : ∃ b, b = w.heap.size := ⟨_, rfl⟩
  rw [← hV] at hal hb; rw [← hbb] at hb
  have hS0 : SeeJ w V t mj ma mc n m b D (row8 l) := ⟨.of_below hal, hb, ⟨(hal.block _ (lt_of_blk htb.blk)).trans htb.blk⟩, owns_below hj hal, hc.imp fun D h => owns_below h hal⟩
  have H22 := Lib.hid (many22 V hl)
  rw [h0] at H22
  have HLK : Hid (∀ W, MJ W mj n D → (Instr.lookup 53 (.map (some mj)) (.agg (row8 l).toArray) false).run Tryd.prog W = .ok (.int .i64 (c : Int)) W) := Lib.hid fun W hW => look_j hW hl hD
  have HLEN : Hid (∀ W, MJ W mj n D → (Builtin.len_ #[53] 3 #[.map (some mj)]).run Tryd.prog W = .ok (.int .i64 (Maps.size D)) W) := Lib.hid fun W hW => hW.len Tryd.underlying53 3
  obtain ⟨X, hX⟩ : ∃ X, X = row8 l := ⟨_, rfl⟩
  have HXL : Hid (X.length = 16) := Lib.hid (by rw [hX, row8_length, hl.len])
  have HSZ := Lib.hid size26
  rw [← hX] at hS0 hV HLK H22 ⊢
  have HL := Lib.hid hl; have HXE := Lib.hid hX
  have HS0 := Lib.hid hS0
  have HR := Lib.hid (row_at hS0.b)
  have HKN := Lib.hid hkn; have H0 := Lib.hid h0; have HD := Lib.hid hD
  clear hal hb htb hc hX hD hkn h0 hS0 hl hj
  go_enter Tryd.func9, Tryd.ntmps9
  go_upto_region 1 with (fail)
  rw [← hV, ← hbb]
  have HLE : Hid (w.heap.size ≤ b) := Lib.hid (by omega)
  clear hV hbb
  go_wp2_with fail
  refine (there21 _ HS0.out.tb).mono ?_
  rintro e w1 ⟨rfl, rfl⟩
  go_wp2_with (first | (refine wpList_load_mid rfl 26 (.tmp 6) ?ho b 0 ?hx X _ ?hr Tryd.underlying26 rfl ?hi ?_; (case ho => with_reducible rfl); (case hx => rfl); (case hr => exact HR.out); (case hi => rw [HXL.out]; exact HSZ.out); (try simp only [Act.put, List.setIfInBounds_toArray, List.set_cons_zero, List.set_cons_succ])))
  refine (H22.out).mono ?_
  clear H22
  rintro e w1 ⟨rfl, hb1⟩
  have HS1 := Lib.hid (HS0.out.step hb1)
  clear hb1 HS0 HR
  go_wp2_with fail
  have hS1 := HS1.out.drew
  refine wp_region_held_drew (S := fun W => SeeJ w W t mj ma mc n m b D X) (by kernel_rfl) hS1 ?_
  clear hS1
  intro HS
  refine wpAnyH_take (i := 0) (v := ?_) rfl (by kernel_rfl) (by kernel_rfl) (by kernel_rfl) (fun _ _ _ h => h) (Or.inl ⟨by go_simp, ?hy⟩) HS ?_
  case hy => intro W hW; go_simp; (try with_reducible rfl)
  try simp only [List.getElem_toArray, List.getElem_cons_zero, List.getElem_cons_succ, Act.put, List.setIfInBounds_toArray, List.set_cons_zero, List.set_cons_succ]
  refine wpAnyH_take (i := 1) (v := ?_) rfl (by kernel_rfl) (by kernel_rfl) (by kernel_rfl) (fun _ _ _ h => h) (Or.inl ⟨by go_simp, ?hy⟩) HS ?_
  case hy => intro W hW; go_simp; (try with_reducible rfl)
  try simp only [List.getElem_toArray, List.getElem_cons_zero, List.getElem_cons_succ, Act.put, List.setIfInBounds_toArray, List.set_cons_zero, List.set_cons_succ]
  refine wpAnyH_take (i := 2) (v := ?_) rfl (by kernel_rfl) (by kernel_rfl) (by kernel_rfl) (fun _ _ _ h => h) (Or.inl ⟨by go_simp, ?hy⟩) HS ?_
  case hy => intro W hW; go_simp; (try with_reducible rfl)
  try simp only [List.getElem_toArray, List.getElem_cons_zero, List.getElem_cons_succ, Act.put, List.setIfInBounds_toArray, List.set_cons_zero, List.set_cons_succ]
  refine wpAnyH_take (i := 3) (v := ?_) rfl (by kernel_rfl) (by kernel_rfl) (by kernel_rfl) (fun _ _ _ h => h) (Or.inl ⟨by go_simp, ?hy⟩) HS ?_
  case hy => intro W hW; have c0 := Tb.c0 (SeeJ.tb hW); go_simp; (try with_reducible rfl)
  try simp only [List.getElem_toArray, List.getElem_cons_zero, List.getElem_cons_succ, Act.put, List.setIfInBounds_toArray, List.set_cons_zero, List.set_cons_succ]
  refine wpAnyH_take (i := 4) (v := .agg X.toArray) rfl (by kernel_rfl) (by kernel_rfl) (by kernel_rfl) (fun _ _ _ h => h) (by refine yieldsIf_load_mid ?hw 26 (.tmp 6) ?ho b 0 ?hx X _ (fun W hW => row_at (SeeJ.b hW)) Tryd.underlying26 rfl (by rw [HXL.out]; exact HSZ.out); (case ho => rfl); (case hw => go_simp); (case hx => go_simp)) HS ?_
  try simp only [List.getElem_toArray, List.getElem_cons_zero, List.getElem_cons_succ, Act.put, List.setIfInBounds_toArray, List.set_cons_zero, List.set_cons_succ]
  refine wpAnyH_take (i := 5) (v := ?_) rfl (by kernel_rfl) (by kernel_rfl) (by kernel_rfl) (fun _ _ _ h => h) (Or.inl ⟨by go_simp, ?hy⟩) HS ?_
  case hy => intro W hW; have hlk := HLK.out W (SeeJ.j hW); go_simp; (try with_reducible rfl)
  try simp only [List.getElem_toArray, List.getElem_cons_zero, List.getElem_cons_succ, Act.put, List.setIfInBounds_toArray, List.set_cons_zero, List.set_cons_succ]
  by_cases hc0 : c = 0
  · have t0 : ((c : Int) == 0) = true := by rw [hc0]; rfl
    have HC0 := Lib.hid hc0
    clear hc0
    refine wpAnyH_take (i := 6) (v := ?_) rfl (by kernel_rfl) (by kernel_rfl) (by kernel_rfl) (fun _ _ _ h => h) (Or.inl ⟨by go_simp, ?hy⟩) HS ?_
    case hy => intro W hW; go_simp; (try with_reducible rfl)
    try simp only [List.getElem_toArray, List.getElem_cons_zero, List.getElem_cons_succ, Act.put, List.setIfInBounds_toArray, List.set_cons_zero, List.set_cons_succ]
    refine wpAnyH_take (i := 7) (v := ?_) rfl (by kernel_rfl) (by kernel_rfl) (by kernel_rfl) (fun _ _ _ h => h) (Or.inl ⟨by go_simp, ?hy⟩) HS ?_
    case hy => intro W hW; go_simp; (try with_reducible rfl)
    try simp only [List.getElem_toArray, List.getElem_cons_zero, List.getElem_cons_succ, Act.put, List.setIfInBounds_toArray, List.set_cons_zero, List.set_cons_succ]
    refine wpAnyH_take (i := 8) (v := ?_) rfl (by kernel_rfl) (by kernel_rfl) (by kernel_rfl) (fun _ _ _ h => h) (Or.inl ⟨by go_simp, ?hy⟩) HS ?_
    case hy => intro W hW; go_simp; (try with_reducible rfl)
    try simp only [List.getElem_toArray, List.getElem_cons_zero, List.getElem_cons_succ, Act.put, List.setIfInBounds_toArray, List.set_cons_zero, List.set_cons_succ]
    refine wpAnyH_take (i := 9) (v := ?_) rfl (by kernel_rfl) (by kernel_rfl) (by kernel_rfl) (fun _ _ _ h => h) (Or.inl ⟨by go_simp, ?hy⟩) HS ?_
    case hy => intro W hW; go_simp; (try with_reducible rfl)
    try simp only [List.getElem_toArray, List.getElem_cons_zero, List.getElem_cons_succ, Act.put, List.setIfInBounds_toArray, List.set_cons_zero, List.set_cons_succ]
    refine wpAnyH_take (i := 10) (v := ?_) rfl (by kernel_rfl) (by kernel_rfl) (by kernel_rfl) (fun _ _ _ h => h) (Or.inl ⟨by go_simp, ?hy⟩) HS ?_
    case hy => intro W hW; go_simp; (try with_reducible rfl)
    try simp only [List.getElem_toArray, List.getElem_cons_zero, List.getElem_cons_succ, Act.put, List.setIfInBounds_toArray, List.set_cons_zero, List.set_cons_succ]
    refine wpAnyH_take (i := 11) (v := ?_) rfl (by kernel_rfl) (by kernel_rfl) (by kernel_rfl) (fun _ _ _ h => h) (Or.inl ⟨by go_simp, ?hy⟩) HS ?_
    case hy => intro W hW; have c0 := Tb.c0 (SeeJ.tb hW); go_simp; (try with_reducible rfl)
    try simp only [List.getElem_toArray, List.getElem_cons_zero, List.getElem_cons_succ, Act.put, List.setIfInBounds_toArray, List.set_cons_zero, List.set_cons_succ]
    refine wpAnyH_take (i := 12) (v := ?_) rfl (by kernel_rfl) (by kernel_rfl) (by kernel_rfl) (fun _ _ _ h => h) (Or.inl ⟨by go_simp, ?hy⟩) HS ?_
    case hy => intro W hW; have hlen := HLEN.out W (SeeJ.j hW); go_simp; (try with_reducible rfl)
    try simp only [List.getElem_toArray, List.getElem_cons_zero, List.getElem_cons_succ, Act.put, List.setIfInBounds_toArray, List.set_cons_zero, List.set_cons_succ]
    by_cases h24 : 24 ≤ Maps.size D
    · have t24 : (24 : Int) ≤ (Maps.size D : Int) := by omega
      refine wpAnyH_take (i := 13) (v := ?_) rfl (by kernel_rfl) (by kernel_rfl) (by kernel_rfl) (fun _ _ _ h => h) (Or.inl ⟨by go_simp, ?hy⟩) HS ?_
      case hy => intro W hW; go_simp; (try with_reducible rfl)
      try simp only [List.getElem_toArray, List.getElem_cons_zero, List.getElem_cons_succ, Act.put, List.setIfInBounds_toArray, List.set_cons_zero, List.set_cons_succ]
      refine wpAnyH_take (i := 14) (v := ?_) rfl (by kernel_rfl) (by kernel_rfl) (by kernel_rfl) (fun _ _ _ h => h) (Or.inl ⟨by go_simp, ?hy⟩) HS ?_
      case hy => intro W hW; go_simp; (try with_reducible rfl)
      try simp only [List.getElem_toArray, List.getElem_cons_zero, List.getElem_cons_succ, Act.put, List.setIfInBounds_toArray, List.set_cons_zero, List.set_cons_succ]
      refine wpAnyH_ready (rs := [15]) (by kernel_rfl) (by simp) ?_
      refine AllReadyH.cons rfl (fun K hK => ?_) AllReadyH.nil
      rw [if_pos (by kernel_rfl)]
      simp only [List.getElem_toArray, List.getElem_cons_zero, List.getElem_cons_succ]
      go_simp
      refine hK.out _ _ HS1.out.drew (fun HS => ?_)
      clear hK
      try simp only [List.getElem_toArray, List.getElem_cons_zero, List.getElem_cons_succ, Act.put, List.setIfInBounds_toArray, List.set_cons_zero, List.set_cons_succ]
      refine wpAnyH_done (by kernel_rfl) ?_ _
      clear HS
      go_wp2_with fail
      go_ret2
      refine ⟨_, 3, rfl, ?_⟩
      unfold JoinRes
      rw [if_pos ⟨HC0.out, h24⟩]
      exact ⟨rfl, fun h => (by cases h), fun _ => rfl, HS1.out.thr.drew, HS1.out.drew.j.mono (by omega), HS1.out.drew.c.imp fun D h => h.mono (by omega)⟩
    · have t24 : ¬ (24 : Int) ≤ (Maps.size D : Int) := by omega
      refine wpAnyH_take (i := 13) (v := ?_) rfl (by kernel_rfl) (by kernel_rfl) (by kernel_rfl) (fun _ _ _ h => h) (Or.inl ⟨by go_simp, ?hy⟩) HS ?_
      case hy => intro W hW; go_simp; (try with_reducible rfl)
      try simp only [List.getElem_toArray, List.getElem_cons_zero, List.getElem_cons_succ, Act.put, List.setIfInBounds_toArray, List.set_cons_zero, List.set_cons_succ]
      refine wpAnyH_take (i := 14) (v := ?_) rfl (by kernel_rfl) (by kernel_rfl) (by kernel_rfl) (fun _ _ _ h => h) (Or.inl ⟨by go_simp, ?hy⟩) HS ?_
      case hy => intro W hW; go_simp; (try with_reducible rfl)
      try simp only [List.getElem_toArray, List.getElem_cons_zero, List.getElem_cons_succ, Act.put, List.setIfInBounds_toArray, List.set_cons_zero, List.set_cons_succ]
      refine wpAnyH_ready (rs := [15]) (by kernel_rfl) (by simp) ?_
      refine AllReadyH.cons rfl (fun K hK => ?_) AllReadyH.nil
      rw [if_pos (by kernel_rfl)]
      simp only [List.getElem_toArray, List.getElem_cons_zero, List.getElem_cons_succ]
      go_simp
      refine hK.out _ _ HS1.out.drew (fun HS => ?_)
      clear hK
      try simp only [List.getElem_toArray, List.getElem_cons_zero, List.getElem_cons_succ, Act.put, List.setIfInBounds_toArray, List.set_cons_zero, List.set_cons_succ]
      refine wpAnyH_done (by kernel_rfl) ?_ _
      clear HS
      go_wp2_with fail
      have hS5 := HS1.out.drew.drew
      obtain ⟨v0, st, w3, hE, tE, oE, hE2⟩ := entry_own law26 Tryd.underlying53 zero3 (show plainElem Tryd.prog 3 (.int .i64 0) = some (jd 0, []) from plain3 (c := 0) (by omega)) hS5.j hn (keyOf_adr HL.out)
      have hlk2 := HLK.out _ hS5.j
      rw [HD.out] at oE
      have hlk3 := look_j oE HL.out (Maps.atKey_put_same hS5.j.isMap (isKeyLit_kl l) _ _)
      rw [← HXE.out] at hlk3 hE
      have e1 : (((c + 1 : Nat)) : Int) = (c : Int) + 1 := by omega
      obtain ⟨w4, hS, oS, tS⟩ := hE2 w3 (.int .i64 ((c + 1 : Nat) : Int)) (jd (c + 1)) [] rfl (plain3 (by omega))
      have HS3 := Lib.hid (hS5.turn tE hne oE)
      have HS4 := Lib.hid (HS3.out.turn tS hne oS)
      have HLK4 : Hid (∀ W, MJ W mj (n + 1) (D.put (kl l) (jd (c + 1))) → (Instr.lookup 53 (.map (some mj)) (.agg X.toArray) false).run Tryd.prog W = .ok (.int .i64 ((c : Int) + 1)) W) := Lib.hid fun W hW => by
        have := look_j hW HL.out (Maps.atKey_put_same hS5.j.isMap (isKeyLit_kl l) _ _)
        rw [← HXE.out, e1] at this
        exact this
      rw [e1] at hS
      have hwr : IntKind.i64.wrap ((c : Int) + 1) = (c : Int) + 1 := by rw [← e1]; exact i64_small (by omega)
      have hE' : (Instr.mapEntry 53 (.map (some mj)) (.agg X.toArray)).run Tryd.prog w1.drew.drew = .ok (.tuple #[v0, .int .i64 (st : Int)]) w3 := hE
      have hS' : (Instr.entryStore 53 (.map (some mj)) (.int .i64 (st : Int)) (.int .i64 ((c : Int) + 1))).run Tryd.prog w3 = .ok () w4 := hS
      clear hE hS hE2 oE tE oS tS e1
      have hSB := hS5.sb
      clear hS5
      refine wp_region_held_drew (S := fun W => SB W t mj ma mc b X) (by kernel_rfl) hSB ?_
      clear hSB
      intro HS
      refine wpAnyH_take (i := 0) (v := ?_) rfl (by kernel_rfl) (by kernel_rfl) (by kernel_rfl) (fun _ _ _ h => h) (Or.inl ⟨by go_simp, ?hy⟩) HS ?_
      case hy => intro W hW; go_simp; (try with_reducible rfl)
      try simp only [List.getElem_toArray, List.getElem_cons_zero, List.getElem_cons_succ, Act.put, List.setIfInBounds_toArray, List.set_cons_zero, List.set_cons_succ]
      refine wpAnyH_take (i := 1) (v := ?_) rfl (by kernel_rfl) (by kernel_rfl) (by kernel_rfl) (fun _ _ _ h => h) (Or.inl ⟨by go_simp, ?hy⟩) HS ?_
      case hy => intro W hW; go_simp; (try with_reducible rfl)
      try simp only [List.getElem_toArray, List.getElem_cons_zero, List.getElem_cons_succ, Act.put, List.setIfInBounds_toArray, List.set_cons_zero, List.set_cons_succ]
      refine wpAnyH_take (i := 2) (v := ?_) rfl (by kernel_rfl) (by kernel_rfl) (by kernel_rfl) (fun _ _ _ h => h) (Or.inl ⟨by go_simp, ?hy⟩) HS ?_
      case hy => intro W hW; go_simp; (try with_reducible rfl)
      try simp only [List.getElem_toArray, List.getElem_cons_zero, List.getElem_cons_succ, Act.put, List.setIfInBounds_toArray, List.set_cons_zero, List.set_cons_succ]
      refine wpAnyH_take (i := 3) (v := ?_) rfl (by kernel_rfl) (by kernel_rfl) (by kernel_rfl) (fun _ _ _ h => h) (Or.inl ⟨by go_simp, ?hy⟩) HS ?_
      case hy => intro W hW; have c0 := Tb.c0 (And.right hW); go_simp; (try with_reducible rfl)
      try simp only [List.getElem_toArray, List.getElem_cons_zero, List.getElem_cons_succ, Act.put, List.setIfInBounds_toArray, List.set_cons_zero, List.set_cons_succ]
      refine wpAnyH_take (i := 4) (v := .agg X.toArray) rfl (by kernel_rfl) (by kernel_rfl) (by kernel_rfl) (fun _ _ _ h => h) (by refine yieldsIf_load_mid ?hw 26 (.tmp 6) ?ho b 0 ?hx X _ (fun W hW => row_at hW.1) Tryd.underlying26 rfl (by rw [HXL.out]; exact HSZ.out); (case ho => rfl); (case hw => go_simp); (case hx => go_simp)) HS ?_
      try simp only [List.getElem_toArray, List.getElem_cons_zero, List.getElem_cons_succ, Act.put, List.setIfInBounds_toArray, List.set_cons_zero, List.set_cons_succ]
      refine wpAnyH_ready (rs := [5, 7]) (by kernel_rfl) (by simp) ?_
      refine AllReadyH.cons rfl (fun K hK => ?_) (AllReadyH.cons rfl (fun K hK => ?_) AllReadyH.nil)
      · skip
        rw [if_pos (by kernel_rfl)]
        simp only [List.getElem_toArray, List.getElem_cons_zero, List.getElem_cons_succ]
        go_simp
        refine hK.out _ _ HS (fun HS => ?_)
        clear hK
        try simp only [List.getElem_toArray, List.getElem_cons_zero, List.getElem_cons_succ, Act.put, List.setIfInBounds_toArray, List.set_cons_zero, List.set_cons_succ]
        refine wpAnyH_take (i := 6) (v := ?_) rfl (by kernel_rfl) (by kernel_rfl) (by kernel_rfl) (fun _ _ _ h => h) (Or.inl ⟨by go_simp, ?hy⟩) HS ?_
        case hy => intro W hW; go_simp; (try with_reducible rfl)
        try simp only [List.getElem_toArray, List.getElem_cons_zero, List.getElem_cons_succ, Act.put, List.setIfInBounds_toArray, List.set_cons_zero, List.set_cons_succ]
        refine wpAnyH_ready (rs := [7]) (by kernel_rfl) (by simp) ?_
        refine AllReadyH.cons rfl (fun K hK => ?_) AllReadyH.nil
        rw [if_pos (by kernel_rfl)]
        simp only [List.getElem_toArray, List.getElem_cons_zero, List.getElem_cons_succ]
        go_simp
        refine hK.out _ _ HS3.out.sb (fun HS => ?_)
        clear hK
        try simp only [List.getElem_toArray, List.getElem_cons_zero, List.getElem_cons_succ, Act.put, List.setIfInBounds_toArray, List.set_cons_zero, List.set_cons_succ]
        refine wpAnyH_take (i := 8) (v := ?_) rfl (by kernel_rfl) (by kernel_rfl) (by kernel_rfl) (fun _ _ _ h => h) (Or.inl ⟨by go_simp, ?hy⟩) HS ?_
        case hy => intro W hW; go_simp; (try with_reducible rfl)
        try simp only [List.getElem_toArray, List.getElem_cons_zero, List.getElem_cons_succ, Act.put, List.setIfInBounds_toArray, List.set_cons_zero, List.set_cons_succ]
        refine wpAnyH_ready (rs := [9]) (by kernel_rfl) (by simp) ?_
        refine AllReadyH.cons rfl (fun K hK => ?_) AllReadyH.nil
        rw [if_pos (by kernel_rfl)]
        simp only [List.getElem_toArray, List.getElem_cons_zero, List.getElem_cons_succ]
        go_simp
        refine hK.out _ _ HS4.out.sb (fun HS => ?_)
        clear hK
        try simp only [List.getElem_toArray, List.getElem_cons_zero, List.getElem_cons_succ, Act.put, List.setIfInBounds_toArray, List.set_cons_zero, List.set_cons_succ]
        refine wpAnyH_done (by kernel_rfl) ?_ _
        have t1 : ¬ (1 : Int) < (c : Int) + 1 := by have := HC0.out; omega
        clear hE' hS' hlk2 hlk3 hwr HS
        go_wp2_with fail
        have hS6 := HS4.out.drew
        refine wp_region_held_drew (S := fun W => SeeJ w W t mj ma mc (n + 1) m b (D.put (kl l) (jd (c + 1))) X) (by kernel_rfl) hS6 ?_
        clear hS6
        intro HS
        refine wpAnyH_take (i := 0) (v := ?_) rfl (by kernel_rfl) (by kernel_rfl) (by kernel_rfl) (fun _ _ _ h => h) (Or.inl ⟨by go_simp, ?hy⟩) HS ?_
        case hy => intro W hW; go_simp; (try with_reducible rfl)
        try simp only [List.getElem_toArray, List.getElem_cons_zero, List.getElem_cons_succ, Act.put, List.setIfInBounds_toArray, List.set_cons_zero, List.set_cons_succ]
        refine wpAnyH_take (i := 1) (v := ?_) rfl (by kernel_rfl) (by kernel_rfl) (by kernel_rfl) (fun _ _ _ h => h) (Or.inl ⟨by go_simp, ?hy⟩) HS ?_
        case hy => intro W hW; go_simp; (try with_reducible rfl)
        try simp only [List.getElem_toArray, List.getElem_cons_zero, List.getElem_cons_succ, Act.put, List.setIfInBounds_toArray, List.set_cons_zero, List.set_cons_succ]
        refine wpAnyH_take (i := 2) (v := ?_) rfl (by kernel_rfl) (by kernel_rfl) (by kernel_rfl) (fun _ _ _ h => h) (Or.inl ⟨by go_simp, ?hy⟩) HS ?_
        case hy => intro W hW; go_simp; (try with_reducible rfl)
        try simp only [List.getElem_toArray, List.getElem_cons_zero, List.getElem_cons_succ, Act.put, List.setIfInBounds_toArray, List.set_cons_zero, List.set_cons_succ]
        refine wpAnyH_take (i := 3) (v := ?_) rfl (by kernel_rfl) (by kernel_rfl) (by kernel_rfl) (fun _ _ _ h => h) (Or.inl ⟨by go_simp, ?hy⟩) HS ?_
        case hy => intro W hW; have c0 := Tb.c0 (SeeJ.tb hW); go_simp; (try with_reducible rfl)
        try simp only [List.getElem_toArray, List.getElem_cons_zero, List.getElem_cons_succ, Act.put, List.setIfInBounds_toArray, List.set_cons_zero, List.set_cons_succ]
        refine wpAnyH_take (i := 4) (v := .agg X.toArray) rfl (by kernel_rfl) (by kernel_rfl) (by kernel_rfl) (fun _ _ _ h => h) (by refine yieldsIf_load_mid ?hw 26 (.tmp 6) ?ho b 0 ?hx X _ (fun W hW => row_at (SeeJ.b hW)) Tryd.underlying26 rfl (by rw [HXL.out]; exact HSZ.out); (case ho => rfl); (case hw => go_simp); (case hx => go_simp)) HS ?_
        try simp only [List.getElem_toArray, List.getElem_cons_zero, List.getElem_cons_succ, Act.put, List.setIfInBounds_toArray, List.set_cons_zero, List.set_cons_succ]
        refine wpAnyH_take (i := 5) (v := ?_) rfl (by kernel_rfl) (by kernel_rfl) (by kernel_rfl) (fun _ _ _ h => h) (Or.inl ⟨by go_simp, ?hy⟩) HS ?_
        case hy => intro W hW; have hlk := HLK4.out W (SeeJ.j hW); go_simp; (try with_reducible rfl)
        try simp only [List.getElem_toArray, List.getElem_cons_zero, List.getElem_cons_succ, Act.put, List.setIfInBounds_toArray, List.set_cons_zero, List.set_cons_succ]
        refine wpAnyH_take (i := 6) (v := ?_) rfl (by kernel_rfl) (by kernel_rfl) (by kernel_rfl) (fun _ _ _ h => h) (Or.inl ⟨by go_simp, ?hy⟩) HS ?_
        case hy => intro W hW; go_simp; (try with_reducible rfl)
        try simp only [List.getElem_toArray, List.getElem_cons_zero, List.getElem_cons_succ, Act.put, List.setIfInBounds_toArray, List.set_cons_zero, List.set_cons_succ]
        refine wpAnyH_done (by kernel_rfl) ?_ _
        have HR6 := Lib.hid (row_at HS4.out.drew.b)
        go_wp2_with (first | (refine wpList_load_mid rfl 26 (.tmp 6) ?ho b 0 ?hx X _ ?hr Tryd.underlying26 rfl ?hi ?_; (case ho => with_reducible rfl); (case hx => rfl); (case hr => exact HR6.out); (case hi => rw [HXL.out]; exact HSZ.out); (try simp only [Act.put, List.setIfInBounds_toArray, List.set_cons_zero, List.set_cons_succ])))
        have hch := changed23 (k := 4) (now := now) (m := m) w4.drew (HKN.out.stepJ HS4.out.drew.thr z1 z2) HL.out H0.out HS4.out.drew.tb HS4.out.drew.c hm (by decide) hnow
        rw [← HXE.out, show ((4 : Nat) : Int) = 4 from rfl] at hch
        refine hch.mono ?_
        clear hch
        rintro e w7 ⟨v, rfl, hr⟩
        have HRE := Lib.hid hr
        clear hr
        go_wp2_with fail
        go_ret2
        refine ⟨_, 0, rfl, ?_⟩
        unfold JoinRes
        rw [if_neg (fun h => h24 h.2)]
        have hc0 := HC0.out
        refine ⟨rfl, fun h => ?_, fun h => ?_, HS4.out.drew.thr.trans HRE.out.thr.wide, owns_thr HS4.out.drew.j HRE.out.thr hne, HRE.out.c⟩
        · obtain ⟨g, hg1, hg2, hg3⟩ := HRE.out.yes (by simpa [hc0] using h)
          exact ⟨g, hg1, Nat.le_trans HS4.out.drew.thr.size hg2, hg3⟩
        · exact HRE.out.no (by simpa [hc0] using h)
      · skip
        rw [if_pos (by kernel_rfl)]
        simp only [List.getElem_toArray, List.getElem_cons_zero, List.getElem_cons_succ]
        go_simp
        refine hK.out _ _ HS3.out.sb (fun HS => ?_)
        clear hK
        try simp only [List.getElem_toArray, List.getElem_cons_zero, List.getElem_cons_succ, Act.put, List.setIfInBounds_toArray, List.set_cons_zero, List.set_cons_succ]
        refine wpAnyH_take (i := 8) (v := ?_) rfl (by kernel_rfl) (by kernel_rfl) (by kernel_rfl) (fun _ _ _ h => h) (Or.inl ⟨by go_simp, ?hy⟩) HS ?_
        case hy => intro W hW; go_simp; (try with_reducible rfl)
        try simp only [List.getElem_toArray, List.getElem_cons_zero, List.getElem_cons_succ, Act.put, List.setIfInBounds_toArray, List.set_cons_zero, List.set_cons_succ]
        refine wpAnyH_ready (rs := [5]) (by kernel_rfl) (by simp) ?_
        refine AllReadyH.cons rfl (fun K hK => ?_) AllReadyH.nil
        rw [if_pos (by kernel_rfl)]
        simp only [List.getElem_toArray, List.getElem_cons_zero, List.getElem_cons_succ]
        go_simp
        refine hK.out _ _ HS3.out.sb (fun HS => ?_)
        clear hK
        try simp only [List.getElem_toArray, List.getElem_cons_zero, List.getElem_cons_succ, Act.put, List.setIfInBounds_toArray, List.set_cons_zero, List.set_cons_succ]
        refine wpAnyH_take (i := 6) (v := ?_) rfl (by kernel_rfl) (by kernel_rfl) (by kernel_rfl) (fun _ _ _ h => h) (Or.inl ⟨by go_simp, ?hy⟩) HS ?_
        case hy => intro W hW; go_simp; (try with_reducible rfl)
        try simp only [List.getElem_toArray, List.getElem_cons_zero, List.getElem_cons_succ, Act.put, List.setIfInBounds_toArray, List.set_cons_zero, List.set_cons_succ]
        refine wpAnyH_ready (rs := [9]) (by kernel_rfl) (by simp) ?_
        refine AllReadyH.cons rfl (fun K hK => ?_) AllReadyH.nil
        rw [if_pos (by kernel_rfl)]
        simp only [List.getElem_toArray, List.getElem_cons_zero, List.getElem_cons_succ]
        go_simp
        refine hK.out _ _ HS4.out.sb (fun HS => ?_)
        clear hK
        try simp only [List.getElem_toArray, List.getElem_cons_zero, List.getElem_cons_succ, Act.put, List.setIfInBounds_toArray, List.set_cons_zero, List.set_cons_succ]
        refine wpAnyH_done (by kernel_rfl) ?_ _
        have t1 : ¬ (1 : Int) < (c : Int) + 1 := by have := HC0.out; omega
        clear hE' hS' hlk2 hlk3 hwr HS
        go_wp2_with fail
        have hS6 := HS4.out.drew
        refine wp_region_held_drew (S := fun W => SeeJ w W t mj ma mc (n + 1) m b (D.put (kl l) (jd (c + 1))) X) (by kernel_rfl) hS6 ?_
        clear hS6
        intro HS
        refine wpAnyH_take (i := 0) (v := ?_) rfl (by kernel_rfl) (by kernel_rfl) (by kernel_rfl) (fun _ _ _ h => h) (Or.inl ⟨by go_simp, ?hy⟩) HS ?_
        case hy => intro W hW; go_simp; (try with_reducible rfl)
        try simp only [List.getElem_toArray, List.getElem_cons_zero, List.getElem_cons_succ, Act.put, List.setIfInBounds_toArray, List.set_cons_zero, List.set_cons_succ]
        refine wpAnyH_take (i := 1) (v := ?_) rfl (by kernel_rfl) (by kernel_rfl) (by kernel_rfl) (fun _ _ _ h => h) (Or.inl ⟨by go_simp, ?hy⟩) HS ?_
        case hy => intro W hW; go_simp; (try with_reducible rfl)
        try simp only [List.getElem_toArray, List.getElem_cons_zero, List.getElem_cons_succ, Act.put, List.setIfInBounds_toArray, List.set_cons_zero, List.set_cons_succ]
        refine wpAnyH_take (i := 2) (v := ?_) rfl (by kernel_rfl) (by kernel_rfl) (by kernel_rfl) (fun _ _ _ h => h) (Or.inl ⟨by go_simp, ?hy⟩) HS ?_
        case hy => intro W hW; go_simp; (try with_reducible rfl)
        try simp only [List.getElem_toArray, List.getElem_cons_zero, List.getElem_cons_succ, Act.put, List.setIfInBounds_toArray, List.set_cons_zero, List.set_cons_succ]
        refine wpAnyH_take (i := 3) (v := ?_) rfl (by kernel_rfl) (by kernel_rfl) (by kernel_rfl) (fun _ _ _ h => h) (Or.inl ⟨by go_simp, ?hy⟩) HS ?_
        case hy => intro W hW; have c0 := Tb.c0 (SeeJ.tb hW); go_simp; (try with_reducible rfl)
        try simp only [List.getElem_toArray, List.getElem_cons_zero, List.getElem_cons_succ, Act.put, List.setIfInBounds_toArray, List.set_cons_zero, List.set_cons_succ]
        refine wpAnyH_take (i := 4) (v := .agg X.toArray) rfl (by kernel_rfl) (by kernel_rfl) (by kernel_rfl) (fun _ _ _ h => h) (by refine yieldsIf_load_mid ?hw 26 (.tmp 6) ?ho b 0 ?hx X _ (fun W hW => row_at (SeeJ.b hW)) Tryd.underlying26 rfl (by rw [HXL.out]; exact HSZ.out); (case ho => rfl); (case hw => go_simp); (case hx => go_simp)) HS ?_
        try simp only [List.getElem_toArray, List.getElem_cons_zero, List.getElem_cons_succ, Act.put, List.setIfInBounds_toArray, List.set_cons_zero, List.set_cons_succ]
        refine wpAnyH_take (i := 5) (v := ?_) rfl (by kernel_rfl) (by kernel_rfl) (by kernel_rfl) (fun _ _ _ h => h) (Or.inl ⟨by go_simp, ?hy⟩) HS ?_
        case hy => intro W hW; have hlk := HLK4.out W (SeeJ.j hW); go_simp; (try with_reducible rfl)
        try simp only [List.getElem_toArray, List.getElem_cons_zero, List.getElem_cons_succ, Act.put, List.setIfInBounds_toArray, List.set_cons_zero, List.set_cons_succ]
        refine wpAnyH_take (i := 6) (v := ?_) rfl (by kernel_rfl) (by kernel_rfl) (by kernel_rfl) (fun _ _ _ h => h) (Or.inl ⟨by go_simp, ?hy⟩) HS ?_
        case hy => intro W hW; go_simp; (try with_reducible rfl)
        try simp only [List.getElem_toArray, List.getElem_cons_zero, List.getElem_cons_succ, Act.put, List.setIfInBounds_toArray, List.set_cons_zero, List.set_cons_succ]
        refine wpAnyH_done (by kernel_rfl) ?_ _
        have HR6 := Lib.hid (row_at HS4.out.drew.b)
        go_wp2_with (first | (refine wpList_load_mid rfl 26 (.tmp 6) ?ho b 0 ?hx X _ ?hr Tryd.underlying26 rfl ?hi ?_; (case ho => with_reducible rfl); (case hx => rfl); (case hr => exact HR6.out); (case hi => rw [HXL.out]; exact HSZ.out); (try simp only [Act.put, List.setIfInBounds_toArray, List.set_cons_zero, List.set_cons_succ])))
        have hch := changed23 (k := 4) (now := now) (m := m) w4.drew (HKN.out.stepJ HS4.out.drew.thr z1 z2) HL.out H0.out HS4.out.drew.tb HS4.out.drew.c hm (by decide) hnow
        rw [← HXE.out, show ((4 : Nat) : Int) = 4 from rfl] at hch
        refine hch.mono ?_
        clear hch
        rintro e w7 ⟨v, rfl, hr⟩
        have HRE := Lib.hid hr
        clear hr
        go_wp2_with fail
        go_ret2
        refine ⟨_, 0, rfl, ?_⟩
        unfold JoinRes
        rw [if_neg (fun h => h24 h.2)]
        have hc0 := HC0.out
        refine ⟨rfl, fun h => ?_, fun h => ?_, HS4.out.drew.thr.trans HRE.out.thr.wide, owns_thr HS4.out.drew.j HRE.out.thr hne, HRE.out.c⟩
        · obtain ⟨g, hg1, hg2, hg3⟩ := HRE.out.yes (by simpa [hc0] using h)
          exact ⟨g, hg1, Nat.le_trans HS4.out.drew.thr.size hg2, hg3⟩
        · exact HRE.out.no (by simpa [hc0] using h)
  · have t0 : ((c : Int) == 0) = false := by rw [beq_eq_false_iff_ne]; omega
    have HC0 := Lib.hid hc0
    clear hc0
    refine wpAnyH_take (i := 6) (v := ?_) rfl (by kernel_rfl) (by kernel_rfl) (by kernel_rfl) (fun _ _ _ h => h) (Or.inl ⟨by go_simp, ?hy⟩) HS ?_
    case hy => intro W hW; go_simp; (try with_reducible rfl)
    try simp only [List.getElem_toArray, List.getElem_cons_zero, List.getElem_cons_succ, Act.put, List.setIfInBounds_toArray, List.set_cons_zero, List.set_cons_succ]
    refine wpAnyH_take (i := 7) (v := ?_) rfl (by kernel_rfl) (by kernel_rfl) (by kernel_rfl) (fun _ _ _ h => h) (Or.inl ⟨by go_simp, ?hy⟩) HS ?_
    case hy => intro W hW; go_simp; (try with_reducible rfl)
    try simp only [List.getElem_toArray, List.getElem_cons_zero, List.getElem_cons_succ, Act.put, List.setIfInBounds_toArray, List.set_cons_zero, List.set_cons_succ]
    refine wpAnyH_take (i := 8) (v := undef) rfl (by kernel_rfl) (by kernel_rfl) (by kernel_rfl) (fun _ _ _ h => h) (Or.inr ⟨by first | (go_simp; done) | (go_simp; intro h; cases h; done) | kernel_rfl, rfl⟩) HS ?_
    try simp only [List.getElem_toArray, List.getElem_cons_zero, List.getElem_cons_succ, Act.put, List.setIfInBounds_toArray, List.set_cons_zero, List.set_cons_succ]
    refine wpAnyH_take (i := 9) (v := undef) rfl (by kernel_rfl) (by kernel_rfl) (by kernel_rfl) (fun _ _ _ h => h) (Or.inr ⟨by first | (go_simp; done) | (go_simp; intro h; cases h; done) | kernel_rfl, rfl⟩) HS ?_
    try simp only [List.getElem_toArray, List.getElem_cons_zero, List.getElem_cons_succ, Act.put, List.setIfInBounds_toArray, List.set_cons_zero, List.set_cons_succ]
    refine wpAnyH_take (i := 10) (v := undef) rfl (by kernel_rfl) (by kernel_rfl) (by kernel_rfl) (fun _ _ _ h => h) (Or.inr ⟨by first | (go_simp; done) | (go_simp; intro h; cases h; done) | kernel_rfl, rfl⟩) HS ?_
    try simp only [List.getElem_toArray, List.getElem_cons_zero, List.getElem_cons_succ, Act.put, List.setIfInBounds_toArray, List.set_cons_zero, List.set_cons_succ]
    refine wpAnyH_take (i := 11) (v := undef) rfl (by kernel_rfl) (by kernel_rfl) (by kernel_rfl) (fun _ _ _ h => h) (Or.inr ⟨by first | (go_simp; done) | (go_simp; intro h; cases h; done) | kernel_rfl, rfl⟩) HS ?_
    try simp only [List.getElem_toArray, List.getElem_cons_zero, List.getElem_cons_succ, Act.put, List.setIfInBounds_toArray, List.set_cons_zero, List.set_cons_succ]
    refine wpAnyH_take (i := 12) (v := undef) rfl (by kernel_rfl) (by kernel_rfl) (by kernel_rfl) (fun _ _ _ h => h) (Or.inr ⟨by first | (go_simp; done) | (go_simp; intro h; cases h; done) | kernel_rfl, rfl⟩) HS ?_
    try simp only [List.getElem_toArray, List.getElem_cons_zero, List.getElem_cons_succ, Act.put, List.setIfInBounds_toArray, List.set_cons_zero, List.set_cons_succ]
    refine wpAnyH_take (i := 13) (v := undef) rfl (by kernel_rfl) (by kernel_rfl) (by kernel_rfl) (fun _ _ _ h => h) (Or.inr ⟨by first | (go_simp; done) | (go_simp; intro h; cases h; done) | kernel_rfl, rfl⟩) HS ?_
    try simp only [List.getElem_toArray, List.getElem_cons_zero, List.getElem_cons_succ, Act.put, List.setIfInBounds_toArray, List.set_cons_zero, List.set_cons_succ]
    refine wpAnyH_take (i := 14) (v := ?_) rfl (by kernel_rfl) (by kernel_rfl) (by kernel_rfl) (fun _ _ _ h => h) (Or.inl ⟨by go_simp, ?hy⟩) HS ?_
    case hy => intro W hW; go_simp; (try with_reducible rfl)
    try simp only [List.getElem_toArray, List.getElem_cons_zero, List.getElem_cons_succ, Act.put, List.setIfInBounds_toArray, List.set_cons_zero, List.set_cons_succ]
    refine wpAnyH_ready (rs := [15]) (by kernel_rfl) (by simp) ?_
    refine AllReadyH.cons rfl (fun K hK => ?_) AllReadyH.nil
    rw [if_pos (by kernel_rfl)]
    simp only [List.getElem_toArray, List.getElem_cons_zero, List.getElem_cons_succ]
    go_simp
    refine hK.out _ _ HS1.out.drew (fun HS => ?_)
    clear hK
    try simp only [List.getElem_toArray, List.getElem_cons_zero, List.getElem_cons_succ, Act.put, List.setIfInBounds_toArray, List.set_cons_zero, List.set_cons_succ]
    refine wpAnyH_done (by kernel_rfl) ?_ _
    clear HS
    go_wp2_with fail
    have hS5 := HS1.out.drew.drew
    obtain ⟨v0, st, w3, hE, tE, oE, hE2⟩ := entry_own law26 Tryd.underlying53 zero3 (show plainElem Tryd.prog 3 (.int .i64 0) = some (jd 0, []) from plain3 (c := 0) (by omega)) hS5.j hn (keyOf_adr HL.out)
    have hlk2 := HLK.out _ hS5.j
    rw [HD.out] at oE
    have hlk3 := look_j oE HL.out (Maps.atKey_put_same hS5.j.isMap (isKeyLit_kl l) _ _)
    rw [← HXE.out] at hlk3 hE
    have e1 : (((c + 1 : Nat)) : Int) = (c : Int) + 1 := by omega
    obtain ⟨w4, hS, oS, tS⟩ := hE2 w3 (.int .i64 ((c + 1 : Nat) : Int)) (jd (c + 1)) [] rfl (plain3 (by omega))
    have HS3 := Lib.hid (hS5.turn tE hne oE)
    have HS4 := Lib.hid (HS3.out.turn tS hne oS)
    have HLK4 : Hid (∀ W, MJ W mj (n + 1) (D.put (kl l) (jd (c + 1))) → (Instr.lookup 53 (.map (some mj)) (.agg X.toArray) false).run Tryd.prog W = .ok (.int .i64 ((c : Int) + 1)) W) := Lib.hid fun W hW => by
      have := look_j hW HL.out (Maps.atKey_put_same hS5.j.isMap (isKeyLit_kl l) _ _)
      rw [← HXE.out, e1] at this
      exact this
    rw [e1] at hS
    have hwr : IntKind.i64.wrap ((c : Int) + 1) = (c : Int) + 1 := by rw [← e1]; exact i64_small (by omega)
    have hE' : (Instr.mapEntry 53 (.map (some mj)) (.agg X.toArray)).run Tryd.prog w1.drew.drew = .ok (.tuple #[v0, .int .i64 (st : Int)]) w3 := hE
    have hS' : (Instr.entryStore 53 (.map (some mj)) (.int .i64 (st : Int)) (.int .i64 ((c : Int) + 1))).run Tryd.prog w3 = .ok () w4 := hS
    clear hE hS hE2 oE tE oS tS e1
    have hSB := hS5.sb
    clear hS5
    refine wp_region_held_drew (S := fun W => SB W t mj ma mc b X) (by kernel_rfl) hSB ?_
    clear hSB
    intro HS
    refine wpAnyH_take (i := 0) (v := ?_) rfl (by kernel_rfl) (by kernel_rfl) (by kernel_rfl) (fun _ _ _ h => h) (Or.inl ⟨by go_simp, ?hy⟩) HS ?_
    case hy => intro W hW; go_simp; (try with_reducible rfl)
    try simp only [List.getElem_toArray, List.getElem_cons_zero, List.getElem_cons_succ, Act.put, List.setIfInBounds_toArray, List.set_cons_zero, List.set_cons_succ]
    refine wpAnyH_take (i := 1) (v := ?_) rfl (by kernel_rfl) (by kernel_rfl) (by kernel_rfl) (fun _ _ _ h => h) (Or.inl ⟨by go_simp, ?hy⟩) HS ?_
    case hy => intro W hW; go_simp; (try with_reducible rfl)
    try simp only [List.getElem_toArray, List.getElem_cons_zero, List.getElem_cons_succ, Act.put, List.setIfInBounds_toArray, List.set_cons_zero, List.set_cons_succ]
    refine wpAnyH_take (i := 2) (v := ?_) rfl (by kernel_rfl) (by kernel_rfl) (by kernel_rfl) (fun _ _ _ h => h) (Or.inl ⟨by go_simp, ?hy⟩) HS ?_
    case hy => intro W hW; go_simp; (try with_reducible rfl)
    try simp only [List.getElem_toArray, List.getElem_cons_zero, List.getElem_cons_succ, Act.put, List.setIfInBounds_toArray, List.set_cons_zero, List.set_cons_succ]
    refine wpAnyH_take (i := 3) (v := ?_) rfl (by kernel_rfl) (by kernel_rfl) (by kernel_rfl) (fun _ _ _ h => h) (Or.inl ⟨by go_simp, ?hy⟩) HS ?_
    case hy => intro W hW; have c0 := Tb.c0 (And.right hW); go_simp; (try with_reducible rfl)
    try simp only [List.getElem_toArray, List.getElem_cons_zero, List.getElem_cons_succ, Act.put, List.setIfInBounds_toArray, List.set_cons_zero, List.set_cons_succ]
    refine wpAnyH_take (i := 4) (v := .agg X.toArray) rfl (by kernel_rfl) (by kernel_rfl) (by kernel_rfl) (fun _ _ _ h => h) (by refine yieldsIf_load_mid ?hw 26 (.tmp 6) ?ho b 0 ?hx X _ (fun W hW => row_at hW.1) Tryd.underlying26 rfl (by rw [HXL.out]; exact HSZ.out); (case ho => rfl); (case hw => go_simp); (case hx => go_simp)) HS ?_
    try simp only [List.getElem_toArray, List.getElem_cons_zero, List.getElem_cons_succ, Act.put, List.setIfInBounds_toArray, List.set_cons_zero, List.set_cons_succ]
    refine wpAnyH_ready (rs := [5, 7]) (by kernel_rfl) (by simp) ?_
    refine AllReadyH.cons rfl (fun K hK => ?_) (AllReadyH.cons rfl (fun K hK => ?_) AllReadyH.nil)
    · skip
      rw [if_pos (by kernel_rfl)]
      simp only [List.getElem_toArray, List.getElem_cons_zero, List.getElem_cons_succ]
      go_simp
      refine hK.out _ _ HS (fun HS => ?_)
      clear hK
      try simp only [List.getElem_toArray, List.getElem_cons_zero, List.getElem_cons_succ, Act.put, List.setIfInBounds_toArray, List.set_cons_zero, List.set_cons_succ]
      refine wpAnyH_take (i := 6) (v := ?_) rfl (by kernel_rfl) (by kernel_rfl) (by kernel_rfl) (fun _ _ _ h => h) (Or.inl ⟨by go_simp, ?hy⟩) HS ?_
      case hy => intro W hW; go_simp; (try with_reducible rfl)
      try simp only [List.getElem_toArray, List.getElem_cons_zero, List.getElem_cons_succ, Act.put, List.setIfInBounds_toArray, List.set_cons_zero, List.set_cons_succ]
      refine wpAnyH_ready (rs := [7]) (by kernel_rfl) (by simp) ?_
      refine AllReadyH.cons rfl (fun K hK => ?_) AllReadyH.nil
      rw [if_pos (by kernel_rfl)]
      simp only [List.getElem_toArray, List.getElem_cons_zero, List.getElem_cons_succ]
      go_simp
      refine hK.out _ _ HS3.out.sb (fun HS => ?_)
      clear hK
      try simp only [List.getElem_toArray, List.getElem_cons_zero, List.getElem_cons_succ, Act.put, List.setIfInBounds_toArray, List.set_cons_zero, List.set_cons_succ]
      refine wpAnyH_take (i := 8) (v := ?_) rfl (by kernel_rfl) (by kernel_rfl) (by kernel_rfl) (fun _ _ _ h => h) (Or.inl ⟨by go_simp, ?hy⟩) HS ?_
      case hy => intro W hW; go_simp; (try with_reducible rfl)
      try simp only [List.getElem_toArray, List.getElem_cons_zero, List.getElem_cons_succ, Act.put, List.setIfInBounds_toArray, List.set_cons_zero, List.set_cons_succ]
      refine wpAnyH_ready (rs := [9]) (by kernel_rfl) (by simp) ?_
      refine AllReadyH.cons rfl (fun K hK => ?_) AllReadyH.nil
      rw [if_pos (by kernel_rfl)]
      simp only [List.getElem_toArray, List.getElem_cons_zero, List.getElem_cons_succ]
      go_simp
      refine hK.out _ _ HS4.out.sb (fun HS => ?_)
      clear hK
      try simp only [List.getElem_toArray, List.getElem_cons_zero, List.getElem_cons_succ, Act.put, List.setIfInBounds_toArray, List.set_cons_zero, List.set_cons_succ]
      refine wpAnyH_done (by kernel_rfl) ?_ _
      have t1 : (1 : Int) < (c : Int) + 1 := by have := HC0.out; omega
      clear hE' hS' hlk2 hlk3 hwr HS
      go_wp2_with fail
      have hS6 := HS4.out.drew
      refine wp_region_held_drew (S := fun W => SeeJ w W t mj ma mc (n + 1) m b (D.put (kl l) (jd (c + 1))) X) (by kernel_rfl) hS6 ?_
      clear hS6
      intro HS
      refine wpAnyH_take (i := 0) (v := ?_) rfl (by kernel_rfl) (by kernel_rfl) (by kernel_rfl) (fun _ _ _ h => h) (Or.inl ⟨by go_simp, ?hy⟩) HS ?_
      case hy => intro W hW; go_simp; (try with_reducible rfl)
      try simp only [List.getElem_toArray, List.getElem_cons_zero, List.getElem_cons_succ, Act.put, List.setIfInBounds_toArray, List.set_cons_zero, List.set_cons_succ]
      refine wpAnyH_take (i := 1) (v := ?_) rfl (by kernel_rfl) (by kernel_rfl) (by kernel_rfl) (fun _ _ _ h => h) (Or.inl ⟨by go_simp, ?hy⟩) HS ?_
      case hy => intro W hW; go_simp; (try with_reducible rfl)
      try simp only [List.getElem_toArray, List.getElem_cons_zero, List.getElem_cons_succ, Act.put, List.setIfInBounds_toArray, List.set_cons_zero, List.set_cons_succ]
      refine wpAnyH_take (i := 2) (v := ?_) rfl (by kernel_rfl) (by kernel_rfl) (by kernel_rfl) (fun _ _ _ h => h) (Or.inl ⟨by go_simp, ?hy⟩) HS ?_
      case hy => intro W hW; go_simp; (try with_reducible rfl)
      try simp only [List.getElem_toArray, List.getElem_cons_zero, List.getElem_cons_succ, Act.put, List.setIfInBounds_toArray, List.set_cons_zero, List.set_cons_succ]
      refine wpAnyH_take (i := 3) (v := ?_) rfl (by kernel_rfl) (by kernel_rfl) (by kernel_rfl) (fun _ _ _ h => h) (Or.inl ⟨by go_simp, ?hy⟩) HS ?_
      case hy => intro W hW; have c0 := Tb.c0 (SeeJ.tb hW); go_simp; (try with_reducible rfl)
      try simp only [List.getElem_toArray, List.getElem_cons_zero, List.getElem_cons_succ, Act.put, List.setIfInBounds_toArray, List.set_cons_zero, List.set_cons_succ]
      refine wpAnyH_take (i := 4) (v := .agg X.toArray) rfl (by kernel_rfl) (by kernel_rfl) (by kernel_rfl) (fun _ _ _ h => h) (by refine yieldsIf_load_mid ?hw 26 (.tmp 6) ?ho b 0 ?hx X _ (fun W hW => row_at (SeeJ.b hW)) Tryd.underlying26 rfl (by rw [HXL.out]; exact HSZ.out); (case ho => rfl); (case hw => go_simp); (case hx => go_simp)) HS ?_
      try simp only [List.getElem_toArray, List.getElem_cons_zero, List.getElem_cons_succ, Act.put, List.setIfInBounds_toArray, List.set_cons_zero, List.set_cons_succ]
      refine wpAnyH_take (i := 5) (v := ?_) rfl (by kernel_rfl) (by kernel_rfl) (by kernel_rfl) (fun _ _ _ h => h) (Or.inl ⟨by go_simp, ?hy⟩) HS ?_
      case hy => intro W hW; have hlk := HLK4.out W (SeeJ.j hW); go_simp; (try with_reducible rfl)
      try simp only [List.getElem_toArray, List.getElem_cons_zero, List.getElem_cons_succ, Act.put, List.setIfInBounds_toArray, List.set_cons_zero, List.set_cons_succ]
      refine wpAnyH_take (i := 6) (v := ?_) rfl (by kernel_rfl) (by kernel_rfl) (by kernel_rfl) (fun _ _ _ h => h) (Or.inl ⟨by go_simp, ?hy⟩) HS ?_
      case hy => intro W hW; go_simp; (try with_reducible rfl)
      try simp only [List.getElem_toArray, List.getElem_cons_zero, List.getElem_cons_succ, Act.put, List.setIfInBounds_toArray, List.set_cons_zero, List.set_cons_succ]
      refine wpAnyH_done (by kernel_rfl) ?_ _
      go_wp2_with fail
      go_ret2
      refine ⟨_, 0, rfl, ?_⟩
      have hc0 := HC0.out
      unfold JoinRes
      rw [if_neg (fun h => hc0 h.1)]
      refine ⟨rfl, fun h => ?_, fun _ => rfl, HS4.out.drew.thr, HS4.out.drew.j, HS4.out.drew.c.imp fun D h => h.mono (by omega)⟩
      simp [hc0] at h
    · skip
      rw [if_pos (by kernel_rfl)]
      simp only [List.getElem_toArray, List.getElem_cons_zero, List.getElem_cons_succ]
      go_simp
      refine hK.out _ _ HS3.out.sb (fun HS => ?_)
      clear hK
      try simp only [List.getElem_toArray, List.getElem_cons_zero, List.getElem_cons_succ, Act.put, List.setIfInBounds_toArray, List.set_cons_zero, List.set_cons_succ]
      refine wpAnyH_take (i := 8) (v := ?_) rfl (by kernel_rfl) (by kernel_rfl) (by kernel_rfl) (fun _ _ _ h => h) (Or.inl ⟨by go_simp, ?hy⟩) HS ?_
      case hy => intro W hW; go_simp; (try with_reducible rfl)
      try simp only [List.getElem_toArray, List.getElem_cons_zero, List.getElem_cons_succ, Act.put, List.setIfInBounds_toArray, List.set_cons_zero, List.set_cons_succ]
      refine wpAnyH_ready (rs := [5]) (by kernel_rfl) (by simp) ?_
      refine AllReadyH.cons rfl (fun K hK => ?_) AllReadyH.nil
      rw [if_pos (by kernel_rfl)]
      simp only [List.getElem_toArray, List.getElem_cons_zero, List.getElem_cons_succ]
      go_simp
      refine hK.out _ _ HS3.out.sb (fun HS => ?_)
      clear hK
      try simp only [List.getElem_toArray, List.getElem_cons_zero, List.getElem_cons_succ, Act.put, List.setIfInBounds_toArray, List.set_cons_zero, List.set_cons_succ]
      refine wpAnyH_take (i := 6) (v := ?_) rfl (by kernel_rfl) (by kernel_rfl) (by kernel_rfl) (fun _ _ _ h => h) (Or.inl ⟨by go_simp, ?hy⟩) HS ?_
      case hy => intro W hW; go_simp; (try with_reducible rfl)
      try simp only [List.getElem_toArray, List.getElem_cons_zero, List.getElem_cons_succ, Act.put, List.setIfInBounds_toArray, List.set_cons_zero, List.set_cons_succ]
      refine wpAnyH_ready (rs := [9]) (by kernel_rfl) (by simp) ?_
      refine AllReadyH.cons rfl (fun K hK => ?_) AllReadyH.nil
      rw [if_pos (by kernel_rfl)]
      simp only [List.getElem_toArray, List.getElem_cons_zero, List.getElem_cons_succ]
      go_simp
      refine hK.out _ _ HS4.out.sb (fun HS => ?_)
      clear hK
      try simp only [List.getElem_toArray, List.getElem_cons_zero, List.getElem_cons_succ, Act.put, List.setIfInBounds_toArray, List.set_cons_zero, List.set_cons_succ]
      refine wpAnyH_done (by kernel_rfl) ?_ _
      have t1 : (1 : Int) < (c : Int) + 1 := by have := HC0.out; omega
      clear hE' hS' hlk2 hlk3 hwr HS
      go_wp2_with fail
      have hS6 := HS4.out.drew
      refine wp_region_held_drew (S := fun W => SeeJ w W t mj ma mc (n + 1) m b (D.put (kl l) (jd (c + 1))) X) (by kernel_rfl) hS6 ?_
      clear hS6
      intro HS
      refine wpAnyH_take (i := 0) (v := ?_) rfl (by kernel_rfl) (by kernel_rfl) (by kernel_rfl) (fun _ _ _ h => h) (Or.inl ⟨by go_simp, ?hy⟩) HS ?_
      case hy => intro W hW; go_simp; (try with_reducible rfl)
      try simp only [List.getElem_toArray, List.getElem_cons_zero, List.getElem_cons_succ, Act.put, List.setIfInBounds_toArray, List.set_cons_zero, List.set_cons_succ]
      refine wpAnyH_take (i := 1) (v := ?_) rfl (by kernel_rfl) (by kernel_rfl) (by kernel_rfl) (fun _ _ _ h => h) (Or.inl ⟨by go_simp, ?hy⟩) HS ?_
      case hy => intro W hW; go_simp; (try with_reducible rfl)
      try simp only [List.getElem_toArray, List.getElem_cons_zero, List.getElem_cons_succ, Act.put, List.setIfInBounds_toArray, List.set_cons_zero, List.set_cons_succ]
      refine wpAnyH_take (i := 2) (v := ?_) rfl (by kernel_rfl) (by kernel_rfl) (by kernel_rfl) (fun _ _ _ h => h) (Or.inl ⟨by go_simp, ?hy⟩) HS ?_
      case hy => intro W hW; go_simp; (try with_reducible rfl)
      try simp only [List.getElem_toArray, List.getElem_cons_zero, List.getElem_cons_succ, Act.put, List.setIfInBounds_toArray, List.set_cons_zero, List.set_cons_succ]
      refine wpAnyH_take (i := 3) (v := ?_) rfl (by kernel_rfl) (by kernel_rfl) (by kernel_rfl) (fun _ _ _ h => h) (Or.inl ⟨by go_simp, ?hy⟩) HS ?_
      case hy => intro W hW; have c0 := Tb.c0 (SeeJ.tb hW); go_simp; (try with_reducible rfl)
      try simp only [List.getElem_toArray, List.getElem_cons_zero, List.getElem_cons_succ, Act.put, List.setIfInBounds_toArray, List.set_cons_zero, List.set_cons_succ]
      refine wpAnyH_take (i := 4) (v := .agg X.toArray) rfl (by kernel_rfl) (by kernel_rfl) (by kernel_rfl) (fun _ _ _ h => h) (by refine yieldsIf_load_mid ?hw 26 (.tmp 6) ?ho b 0 ?hx X _ (fun W hW => row_at (SeeJ.b hW)) Tryd.underlying26 rfl (by rw [HXL.out]; exact HSZ.out); (case ho => rfl); (case hw => go_simp); (case hx => go_simp)) HS ?_
      try simp only [List.getElem_toArray, List.getElem_cons_zero, List.getElem_cons_succ, Act.put, List.setIfInBounds_toArray, List.set_cons_zero, List.set_cons_succ]
      refine wpAnyH_take (i := 5) (v := ?_) rfl (by kernel_rfl) (by kernel_rfl) (by kernel_rfl) (fun _ _ _ h => h) (Or.inl ⟨by go_simp, ?hy⟩) HS ?_
      case hy => intro W hW; have hlk := HLK4.out W (SeeJ.j hW); go_simp; (try with_reducible rfl)
      try simp only [List.getElem_toArray, List.getElem_cons_zero, List.getElem_cons_succ, Act.put, List.setIfInBounds_toArray, List.set_cons_zero, List.set_cons_succ]
      refine wpAnyH_take (i := 6) (v := ?_) rfl (by kernel_rfl) (by kernel_rfl) (by kernel_rfl) (fun _ _ _ h => h) (Or.inl ⟨by go_simp, ?hy⟩) HS ?_
      case hy => intro W hW; go_simp; (try with_reducible rfl)
      try simp only [List.getElem_toArray, List.getElem_cons_zero, List.getElem_cons_succ, Act.put, List.setIfInBounds_toArray, List.set_cons_zero, List.set_cons_succ]
      refine wpAnyH_done (by kernel_rfl) ?_ _
      go_wp2_with fail
      go_ret2
      refine ⟨_, 0, rfl, ?_⟩
      have hc0 := HC0.out
      unfold JoinRes
      rw [if_neg (fun h => hc0 h.1)]
      refine ⟨rfl, fun h => ?_, fun _ => rfl, HS4.out.drew.thr, HS4.out.drew.j, HS4.out.drew.c.imp fun D h => h.mono (by omega)⟩
      simp [hc0] at h
end Go.Proofs.YthbkjhacnnoolaaDoor
