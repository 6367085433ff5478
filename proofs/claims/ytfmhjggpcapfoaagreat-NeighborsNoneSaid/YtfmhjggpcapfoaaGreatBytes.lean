/- How bytes are copied, and compared: two walks. No condition but that they are bytes, 200 at most. -/
import Derived.Test.YtfmhjggpcapfoaaGreatRows
import Derived.Test.YtfmhjggpcapfoaaGreatZevR
import Derived.WalkKit
import Derived.WalkSpells
import Derived.BigQuiet
import Derived.WalkLawsBesides
import Derived.Lib.Hide
namespace Go.Proofs.YtfmhjggpcapfoaaGreat
open Go.RowKit Go.Proofs.YtfmhjggpcapfoaaGreatZev
set_option linter.unusedVariables false

def Bytes (cs : List Value) : Prop := (∀ v ∈ cs, ∃ z, v = .int .u8 z) ∧ cs.length ≤ 200

theorem cells_of {w : World} {a : Addr} {cs : List Value} (h : CellsAt w a cs) (hb : Bytes cs) : ∃ b o, a = ⟨b, o, none⟩ ∧ b < w.heap.size ∧ ∃ f : Nat → Int, ∀ k, k < cs.length → w.cell? ⟨b, o + k, none⟩ = some (.int .u8 (f k)) ∧ cs[k]? = some (.int .u8 (f k)) := by
  obtain ⟨c, t, z, h1, h2, h3, h4⟩ := h
  obtain ⟨b, o, s⟩ := a
  cases h2
  refine ⟨b, o, rfl, lt_of_heap h1, fun k => match cs[k]? with | some (.int _ z) => z | _ => 0, fun k hk => ?_⟩
  obtain ⟨z, hz⟩ := hb.1 cs[k] (List.getElem_mem hk)
  have e1 : cs[k]? = some (.int .u8 z) := by rw [List.getElem?_eq_getElem hk, hz]
  simp only [e1]
  refine ⟨?_, trivial⟩
  have e2 : ((c.toList.drop o).take cs.length)[k]? = some (.int .u8 z) := by
    simp only at h4
    rw [h4]; exact e1
  rw [List.getElem?_take_of_lt hk, List.getElem?_drop] at e2
  simp only [World.cell?]
  simp only at h1
  rw [h1]
  simpa using e2

set_option maxRecDepth 100000 in
set_option maxHeartbeats 1000000 in
theorem same_walk (n b1 o1 c1 b2 o2 c2 : Nat) (f : Nat → Int) (w : World) (hn : n ≤ 200) (h1 : ∀ k, k < n → w.cell? ⟨b1, o1 + k, none⟩ = some (.int .u8 (f k))) (h2 : ∀ k, k < n → w.cell? ⟨b2, o2 + k, none⟩ = some (.int .u8 (f k))) :
    Calls Tryz.prog 39 #[.slice (some ⟨b1, o1, none⟩) n c1, .slice (some ⟨b2, o2, none⟩) n c2] w fun e w' => e = .returned (.bool true) ∧ Below w.heap.size w w' := by
  have H1 := Lib.hid h1; have H2 := Lib.hid h2; clear h1 h2
  go_enter Tryz.func39, Tryz.ntmps39
  go_wp2_with fail
  go_loopw [5] (fun i wr => ∃ k m : Nat, k ≤ n ∧ i = .int .i64 k ∧ wr = w.drewN m) (fun i _ => n - (intOf i).toNat)
  case atStart => exact ⟨0, 0, by omega, rfl, rfl⟩
  case round =>
    obtain ⟨k, m, hk, rfl, rfl⟩ := hrel
    by_cases hlt : k < n
    · have hc1 := H1.out k hlt
      have hc2 := H2.out k hlt
      have t1 : decide ((k : Int) < (n : Int)) = true := by simp; omega
      go_wp2_with fail
      go_quiet (fail)
      go_wp2_with fail
      go_roundw
      case rel => exact ⟨k + 1, _, by omega, by go_num, rfl⟩
      case measure => simp [intOf]; omega
    · obtain rfl : k = n := by omega
      have t1 : decide ((k : Int) < (k : Int)) = false := by simp
      go_wp2_with fail
      go_ret
      exact ⟨by simp, ⟨rfl, rfl, rfl, Nat.le_refl _, fun _ _ => rfl⟩⟩
theorem same_ok : SameOk Tryz.prog 17 Bytes := by
  intro w a a2 c c2 cs hg _ _ h1 h2
  obtain ⟨b, o, rfl, _, f, hf⟩ := cells_of h1 hg
  obtain ⟨b2, o2, rfl, _, f2, hf2⟩ := cells_of h2 hg
  have hff : ∀ k, k < cs.length → f2 k = f k := fun k hk => by
    have := (hf k hk).2.symm.trans (hf2 k hk).2
    simp only [Option.some.injEq, Value.int.injEq, true_and] at this
    exact this.symm
  generalize hn : cs.length = n at hf hf2 hff
  have hn2 : n ≤ 200 := by rw [← hn]; exact hg.2
  have h := same_walk n b o c b2 o2 c2 f w hn2 (fun k hk => (hf k hk).1) (fun k hk => by rw [(hf2 k hk).1, hff k hk])
  clear hf hf2 hff h1 h2 hg hn hn2
  have HH := Lib.hid h; clear h
  go_enter Tryz.func17, Tryz.ntmps17
  go_wp2_with (go_at_call 39; refine (HH.out).mono ?_; rintro e w' ⟨rfl, hb⟩)
  go_ret
  exact ⟨by simp, hb⟩
theorem add_cell (b o j : Nat) : (⟨b, o, none⟩ : Addr).add j = ⟨b, o + j, none⟩ := by simp [Addr.add]

theorem append_run (w : World) (N0 b0 : Nat) (t0 ty : TypeId) (a : Addr) (c : Nat) (cs : List Value) (hg : Bytes cs) (hat : CellsAt w a cs) (h0 : w.heap[b0]? = some (.cells #[] t0 (0, 0))) (hN : N0 ≤ b0) :
    ∃ b cap w1, (Builtin.append_ #[33, 33] ty #[.slice (some ⟨b0, 0, none⟩) 0 0, .slice (some a) cs.length c]).run Tryz.prog w = .ok (.slice (some ⟨b, 0, none⟩) cs.length cap) w1 ∧ cs.length ≤ cap ∧ N0 ≤ b ∧ Below N0 w w1 ∧ CellsAt w1 ⟨b, 0, none⟩ cs := by
  have hb0 : b0 < w.heap.size := lt_of_heap h0
  have hi : ∃ i, Tryz.prog.info? 5 = some i ∧ i.size = 1 ∧ i.bytes = 1 := by
    have h : (match Tryz.prog.info? 5 with | some i => i.size == 1 && i.bytes == 1 | none => false) = true := by kernel_rfl
    cases hx : Tryz.prog.info? 5 with
    | none => rw [hx] at h; cases h
    | some i =>
      rw [hx] at h
      simp only [Bool.and_eq_true, beq_iff_eq] at h
      exact ⟨i, rfl, h.1, h.2⟩
  obtain ⟨i, hi, hs, hby⟩ := hi
  have hz : ∀ w, (zeroValue 5).run Tryz.prog w = .ok (.int .u8 0) w := fun w => by kernel_rfl
  have hlen : ∀ w, (Builtin.lenOf (.slice (some a) cs.length c)).run Tryz.prog w = .ok cs.length w := fun w => by simp [Builtin.lenOf]
  obtain ⟨b, o, rfl, _, f, hf⟩ := cells_of hat hg
  have hfc : ∀ w', w'.heap = w.heap → (Builtin.firstCells i.size cs.length (.slice (some ⟨b, o, none⟩) cs.length c)).run Tryz.prog w' = .ok cs.toArray w' := fun w' e => by
    refine run_firstCells_some w' _ _ _ _ _ _ (by rw [hs]; omega) fun j v hj => ?_
    have hjl := (List.getElem?_eq_some_iff.1 hj).1
    rw [add_cell]
    have h1 := (hf j hjl).1
    have h2 := (hf j hjl).2
    rw [hj] at h2
    rw [h2, ← h1]
    simp only [World.cell?, e]
  by_cases hn : cs.length = 0
  · have hcs : cs = [] := List.eq_nil_of_length_eq_zero hn
    subst hcs
    refine ⟨b0, 0, w, ?_, Nat.le_refl _, hN, Below.refl _ _, ⟨#[], t0, (0, 0), h0, rfl, by simp, by simp⟩⟩
    exact run_app_room (i := i) (n := 0) (m := 0) (news := #[]) rfl rfl Tryz.underlying33 Tryz.underlying33 (.inr ⟨_, rfl⟩) hi (hlen w) (by simpa using hfc w rfl) (Nat.le_refl _) (fun a _ => by simp [storeCells]) (fun h => by cases h)
  · have hr := run_app_grow (P := Tryz.prog) (ts := #[33, 33]) (ty := ty) (e := 5) (i := i) (z := .int .u8 0) (base := some ⟨b0, 0, none⟩) (n := 0) (cap := 0) (m := cs.length) (x := .slice (some ⟨b, o, none⟩) cs.length c) (olds := #[]) (news := cs.toArray) (w := w)
      rfl rfl Tryz.underlying33 Tryz.underlying33 (.inr ⟨_, rfl⟩) hi hz (hlen w) (hfc w.drew rfl) (by simp [Builtin.firstCells, loadCells, loadCellsFrom]) (by omega) (by have := hg.2; rw [hby]; omega) (by have := hg.2; omega)
    simp only [Nat.zero_add] at hr
    refine ⟨w.heap.size, _, _, hr, grownCap_ge _ _ _ _, by omega, ((Below.refl N0 w).drew).alloc (by show N0 ≤ w.heap.size; omega) _, ⟨_, _, _, heap_alloc_new _ _, rfl, by simp, ?_⟩⟩
    simp
theorem wpList_app {ops : Array Oper} {rest : List Oper} {o : Oper} {a : Act} {Q : Exit → Act → World → Prop} {w w1 : World} (hgd : o.guard = none) (s x : Operand) {v v1 v2 : Value}
    (ho : o.op = .call { callee := .builtin .append, args := #[s, x], argTypes := #[33, 33] }) (hs : a.eval s = v1) (hx : a.eval x = v2)
    (hr : (Builtin.append_ #[33, 33] o.type #[v1, v2]).run Tryz.prog w = .ok v w1) (h : wpList Tryz.prog ops Q rest (a.put o.dst v) w1) : wpList Tryz.prog ops Q (o :: rest) a w :=
  wpList_plain hgd fun K hK => by
    unfold Oper.wp execOp
    simp only [ho, resolve, invoke, builtin, Sem.run_bind, Sem.run_pure, Result.andThen_ok, List.map_toArray, List.map_cons, List.map_nil, hs, hx, hr]
    exact hK _ _ h
set_option maxRecDepth 100000 in
set_option maxHeartbeats 1000000 in
theorem clip_walk (b n cap : Nat) (hn : n ≤ cap) (w : World) : Calls Tryz.prog 41 #[.slice (some ⟨b, 0, none⟩) n cap] w fun e w' => e = .returned (.slice (some ⟨b, 0, none⟩) n n) ∧ w' = w := by
  go_enter Tryz.func41, Tryz.ntmps41
  go_wp2_with fail
  go_ret
  exact ⟨rfl, rfl⟩
set_option maxRecDepth 100000 in
set_option maxHeartbeats 1000000 in
theorem clone_walk (w : World) (a : Addr) (c : Nat) (cs : List Value) (hg : Bytes cs) (hat : CellsAt w a cs) : Calls Tryz.prog 42 #[.slice (some a) cs.length c] w fun e w' => ∃ b c', e = .returned (.slice (some ⟨b, 0, none⟩) cs.length c') ∧ cs.length ≤ c' ∧ w.heap.size ≤ b ∧ Below w.heap.size w w' ∧ CellsAt w' ⟨b, 0, none⟩ cs := by
  have h0 : (w.alloc (.cells #[] 5)).heap[w.heap.size]? = some (.cells #[] 5 (0, 0)) := heap_alloc_new _ _
  have hat' : CellsAt (w.alloc (.cells #[] 5)) a cs := by
    obtain ⟨cc, t, z, h1, h2⟩ := hat
    exact ⟨cc, t, z, by rw [heap_alloc_old _ _ (lt_of_heap h1)]; exact h1, h2⟩
  obtain ⟨b, cap, w1, hr, hcap, hb, hbe, hat1⟩ := append_run (w.alloc (.cells #[] 5)) w.heap.size w.heap.size 5 33 a c cs hg hat' h0 (Nat.le_refl _)
  have hbe : Below w.heap.size w w1 := ((Below.refl _ _).alloc (Nat.le_refl _) _).trans hbe
  have heq : ∀ n w, (binOp .eql 33 (.slice (some a) n c) (.slice none 0 0)).run Tryz.prog w = .ok (.bool false) w := fun n w => by
    obtain ⟨d, hd⟩ := run_equal_succ 33 (.slice (some a) n c) (.slice none 0 0)
    simp only [binOp, hd]
    simp [Op.equalIn, run_underlying Tryz.underlying33]
  generalize hn : cs.length = n at *
  have HR := Lib.hid hr
  clear hg hat hat' h0 hr
  go_enter Tryz.func42, Tryz.ntmps42
  go_wp2_with (at_builtin; refine wpList_app (rfl) _ _ (rfl) (rfl) (rfl) (HR.out) ?_)
  go_ret
  exact ⟨b, cap, rfl, hcap, hb, hbe, hat1⟩
set_option maxRecDepth 100000 in
set_option maxHeartbeats 1000000 in
theorem copy_ok : CopyOk Tryz.prog 22 Bytes := by
  intro w a c cs hg hc hat
  have h1 := clone_walk w a c cs hg hat
  generalize hn : cs.length = n at *
  have H1 := Lib.hid h1
  clear h1 hg hat
  go_enter Tryz.func22, Tryz.ntmps22
  go_wp2_with (first
    | (go_at_call 42; refine (H1.out).mono ?_; rintro e w1 ⟨b, cap, rfl, hcap, hb, hbe, hat1⟩)
    | (go_at_call 41; refine (clip_walk _ _ _ hcap _).mono ?_; rintro e w2 ⟨rfl, rfl⟩))
  go_ret
  exact ⟨b, n, rfl, Nat.le_refl _, hb, hbe, hat1⟩
end Go.Proofs.YtfmhjggpcapfoaaGreat
