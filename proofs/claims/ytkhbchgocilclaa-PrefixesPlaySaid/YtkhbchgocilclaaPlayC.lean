/- The document's list, as it stands in memory: has, Has, Next. No condition but that the numbers fit. -/
import Derived.Test.YtkhbchgocilclaaPlayB
import Derived.Test.YtkhbchgocilclaaBoundI
namespace Go.Proofs.Ytkhbchgocilclaa
open Go.RowKit
set_option linter.unusedVariables false
set_option linter.unusedSimpArgs false
def preEq (a : Nat → Nat) (n : Nat) (b : Nat → Nat) (m : Nat) : Bool := (List.range 16).all (fun i => a i == b i) && n == m
theorem preEq_iff (a : Nat → Nat) (n : Nat) (b : Nat → Nat) (m : Nat) : preEq a n b m = true ↔ (∀ i, i < 16 → a i = b i) ∧ n = m := by
  unfold preEq; simp
theorem pre_eql {a b : Nat → Nat} {n m : Nat} (ha : ∀ i, i < 16 → a i < 256) (hb : ∀ i, i < 16 → b i < 256) (hn : n < 256) (hm : m < 256) (W : World) :
    (binOp .eql 25 (.agg (preL a n).toArray) (.agg (preL b m).toArray)).run Try.prog W = .ok (.bool (preEq a n b m)) W := by
  have hf : ∀ (a : Nat → Nat) (n : Nat), (Value.agg (preCells a n)).formed Try.prog 25 = true := fun a n => by
    simp [Value.formed, Try.underlying25, cells25, preCells, adrL_length]
  have h := run_equalIn_deep (P := Try.prog) 9996 4 25 (by kernel_rfl) W 3 3 _ _ _ _ (hf a n) (hf b m) (lits_pre 0 a n ha hn) (lits_pre 0 b m hb hm)
  obtain ⟨r, h1, h2⟩ := h
  have e : r = preEq a n b m := by
    rw [Bool.eq_iff_iff, h2]
    rw [preEq_iff]
    constructor
    · intro e
      have e1 := List.append_inj e (by simp)
      refine ⟨fun i hi => ?_, by have := e1.2; simp at this; omega⟩
      have := congrArg (·[i]?) e1.1
      simp [hi] at this
      omega
    · rintro ⟨e1, e2⟩
      rw [e2]
      congr 1
      exact List.map_congr_left fun i hi => by rw [e1 i (by simpa using hi)]
  rw [run_eql_struct]
  rw [show (Op.equalIn 10000 25 (.agg (preL a n).toArray) (.agg (preL b m).toArray)).run Try.prog W = .ok r W from h1, e]
  rfl
/-- an entry of the document's list -/
abbrev Ent := PKey × Nat
def encE (e : Ent) : List Value := encK (fun _ => e.2) e.1
theorem encE_pre (e : Ent) : encE e = preL (adrOf e.1) (bitsOf e.1) ++ [.int .u64 (e.2 : Int)] := enc_pre _ _
structure RowE (L : List Ent) (g : Nat) (W : World) : Prop where
  lt : g < W.heap.size
  at_ : ∀ (i c : Nat) (e : Ent) (x : Value), L[i]? = some e → (encE e)[c]? = some x → W.cell? ⟨g, i * 18 + c, none⟩ = some x
theorem RowE.step {L : List Ent} {g : Nat} {W W' : World} (h : RowE L g W) (hb : Below W.heap.size W W') : RowE L g W' :=
  ⟨Nat.lt_of_lt_of_le h.lt hb.size, fun i c k x h1 h2 => (hb.cell (p := ⟨g, i * 18 + c, none⟩) h.lt).trans (h.at_ i c k x h1 h2)⟩
theorem RowE.pre {L : List Ent} {g : Nat} {W : World} (h : RowE L g W) {i : Nat} {e : Ent} (hy : L[i]? = some e) : W.rangeAt g (i * 18) (preL (adrOf e.1) (bitsOf e.1)) := fun j v hj => by
  refine h.at_ i j e v hy ?_
  rw [encE_pre, List.getElem?_append_left (List.getElem?_eq_some_iff.1 hj).1]; exact hj
theorem RowE.all {L : List Ent} {g : Nat} {W : World} (h : RowE L g W) {i : Nat} {e : Ent} (hy : L[i]? = some e) : W.rangeAt g (i * 18) (encE e) := fun j v hj => h.at_ i j e v hy hj
theorem RowE.time {L : List Ent} {g : Nat} {W : World} (h : RowE L g W) {i : Nat} {e : Ent} (hy : L[i]? = some e) : W.cell? ⟨g, i * 18 + 17, none⟩ = some (.int .u64 (e.2 : Int)) := by
  refine h.at_ i 17 e _ hy ?_
  rw [encE_pre, List.getElem?_append_right (by rw [preL_length]; omega), preL_length]; rfl
/-- a slice of entries -/
structure RowV (base : Nat) (p : Option Addr) (L : List Ent) (w : World) : Prop where
  row : 0 < L.length → ∃ g, p = some ⟨g, 0, none⟩ ∧ base ≤ g ∧ RowE L g w
theorem RowV.step {base : Nat} {p : Option Addr} {L : List Ent} {W W' : World} (h : RowV base p L W) (hb : Below W.heap.size W W') : RowV base p L W' :=
  ⟨fun hp => by obtain ⟨g, e, h1, h2⟩ := h.row hp; exact ⟨g, e, h1, h2.step hb⟩⟩
/-- the document's list -/
structure RefV (base mk : Nat) (p : Option Addr) (cap : Nat) (L : List Ent) (w : World) : Prop where
  h : w.heap[mk]? = some (.cells #[.slice p L.length cap] 51 (0, 0))
  row : RowV base p L w
  ge : base ≤ mk
theorem RefV.step {base mk cap : Nat} {p : Option Addr} {L : List Ent} {W W' : World} (h : RefV base mk p cap L W) (hb : Below W.heap.size W W') : RefV base mk p cap L W' :=
  ⟨(hb.block _ (lt_of_blk h.h)).trans h.h, h.row.step hb, h.ge⟩
def hasL (L : List Ent) (q : Nat → Nat) (n : Nat) : Bool := L.any fun e => preEq (adrOf e.1) (bitsOf e.1) q n
theorem any_false {α : Type} {f : α → Bool} {L : List α} (h : ∀ (j : Nat) (e : α), L[j]? = some e → f e = false) : L.any f = false := by
  rw [Bool.eq_false_iff]
  intro e
  obtain ⟨x, hx, hf⟩ := List.any_eq_true.1 e
  obtain ⟨j, hj⟩ := List.getElem?_of_mem hx
  rw [h j x hj] at hf; cases hf
set_option maxRecDepth 100000 in
set_option maxHeartbeats 4000000 in
theorem has33 {base mk cap : Nat} {p : Option Addr} {L : List Ent} {w : World} (hV : RefV base mk p cap L w) (q : Nat → Nat) (n : Nat) (hq : ∀ i, i < 16 → q i < 256) (hn : n < 256) (hlen : L.length ≤ 8) :
    Calls Try.prog 33 #[.pointer (some ⟨mk, 0, none⟩), .agg (preCells q n)] w fun e w' => e = .returned (.bool (hasL L q n)) ∧ Below w.heap.size w w' := by
  have hx := heap_alloc_new w (.cells (preCells q n) 25)
  have hb : Below w.heap.size w (w.alloc (.cells (preCells q n) 25)) := (Below.refl _ _).alloc (Nat.le_refl _) _
  have I := Lib.hid (show (RefV base mk p cap L (w.alloc (.cells (preCells q n) 25)) ∧ (w.alloc (.cells (preCells q n) 25)).heap[w.heap.size]? = some (.cells (preCells q n) 25 (0, 0))) ∧ Below w.heap.size w (w.alloc (.cells (preCells q n) 25)) from ⟨⟨hV.step hb, hx⟩, hb⟩)
  have HQ := Lib.hid hq
  clear hx hb hV hq
  go_enter Try.func33, Try.ntmps33
  go_wp2_with fail
  obtain ⟨B, hB⟩ : ∃ B, B = w.heap.size := ⟨_, rfl⟩
  rw [← hB] at I ⊢
  have NB := Lib.hid hB; clear hB
  go_loopw [5] (fun i wr => ∃ k : Nat, k ≤ L.length ∧ i = .int .i64 k ∧ ((RefV base mk p cap L wr ∧ wr.heap[B]? = some (.cells (preCells q n) 25 (0, 0))) ∧ Below B w wr) ∧ ∀ (j : Nat) (e : Ent), j < k → L[j]? = some e → preEq (adrOf e.1) (bitsOf e.1) q n = false) (fun i _ => L.length - (intOf i).toNat)
  case atStart => exact ⟨0, by omega, rfl, I.out, fun j e h => by omega⟩
  case round =>
    clear I
    obtain ⟨k, hk, rfl, I, hno⟩ := hrel
    have cm := cell_blk I.1.1.h 0
    have HI := Lib.hid I; have HNO := Lib.hid hno
    clear I hno
    by_cases hlt : k < L.length
    · obtain ⟨g, rfl, hg, _⟩ := HI.out.1.1.row.row (by omega)
      obtain ⟨e, he⟩ : ∃ e, L[k]? = some e := ⟨L[k], List.getElem?_eq_getElem hlt⟩
      have hk1 : ¬ ((L.length : Int) ≤ k) := by omega
      have hk2 : (k : Int) < L.length := by omega
      have hRW : ∀ W, RefV base mk (some ⟨g, 0, none⟩) cap L W → W.rangeAt g (k * 18) (preL (adrOf e.1) (bitsOf e.1)) := fun W hW => by
        obtain ⟨g', e1, _, h2⟩ := hW.row.row (by omega)
        injection e1 with e1; injection e1 with e1
        subst e1
        exact h2.pre he
      have hEQ := fun W => pre_eql (adrOf_lt e.1) HQ.out (bitsOf_lt e.1) hn W
      have HRW := fun W h => hRW W h; have HEQ := fun W => hEQ W
      clear hRW hEQ
      go_wp2_with fail
      refine wp_region_held_drew (S := fun w' => RefV base mk (some ⟨g, 0, none⟩) cap L w' ∧ w'.heap[B]? = some (.cells (preCells q n) 25 (0, 0))) (by kernel_rfl) ⟨HI.out.1.1.step (Below.refl _ _).drew, HI.out.1.2⟩ ?_
      intro HS
      refine wpAnyH_take (i := 0) (v := .pointer (some ⟨mk, 0, none⟩)) rfl (by kernel_rfl) (by kernel_rfl) (by kernel_rfl) (fun _ _ _ h => h) (Or.inl ⟨by rfl, fun W hW => by go_simp⟩) HS ?_
      try simp only [List.getElem_toArray, List.getElem_cons_zero, List.getElem_cons_succ, Act.put, List.setIfInBounds_toArray, List.set_cons_zero, List.set_cons_succ]
      refine wpAnyH_take (i := 1) (v := .pointer (some ⟨mk, 0, none⟩)) rfl (by kernel_rfl) (by kernel_rfl) (by kernel_rfl) (fun _ _ _ h => h) (Or.inl ⟨by rfl, fun W hW => by go_simp⟩) HS ?_
      try simp only [List.getElem_toArray, List.getElem_cons_zero, List.getElem_cons_succ, Act.put, List.setIfInBounds_toArray, List.set_cons_zero, List.set_cons_succ]
      refine wpAnyH_take (i := 2) (v := .pointer (some ⟨mk, 0, none⟩)) rfl (by kernel_rfl) (by kernel_rfl) (by kernel_rfl) (fun _ _ _ h => h) (Or.inl ⟨by rfl, fun W hW => by go_simp⟩) HS ?_
      try simp only [List.getElem_toArray, List.getElem_cons_zero, List.getElem_cons_succ, Act.put, List.setIfInBounds_toArray, List.set_cons_zero, List.set_cons_succ]
      refine wpAnyH_take (i := 3) (v := .slice (some ⟨g, 0, none⟩) L.length cap) rfl (by kernel_rfl) (by kernel_rfl) (by kernel_rfl) (fun _ _ _ h => h) (Or.inl ⟨by rfl, fun W hW => by have c0 : W.cell? ⟨mk, 0, none⟩ = some (.slice (some ⟨g, 0, none⟩) L.length cap) := cell_blk hW.1.h 0; go_simp⟩) HS ?_
      try simp only [List.getElem_toArray, List.getElem_cons_zero, List.getElem_cons_succ, Act.put, List.setIfInBounds_toArray, List.set_cons_zero, List.set_cons_succ]
      refine wpAnyH_take (i := 4) (v := .int .i64 (k : Int)) rfl (by kernel_rfl) (by kernel_rfl) (by kernel_rfl) (fun _ _ _ h => h) (Or.inl ⟨by rfl, fun W hW => by go_simp⟩) HS ?_
      try simp only [List.getElem_toArray, List.getElem_cons_zero, List.getElem_cons_succ, Act.put, List.setIfInBounds_toArray, List.set_cons_zero, List.set_cons_succ]
      refine wpAnyH_take (i := 5) (v := .pointer (some ⟨g, k * 18, none⟩)) rfl (by kernel_rfl) (by kernel_rfl) (by kernel_rfl) (fun _ _ _ h => h) (Or.inl ⟨by rfl, fun W hW => by go_simp⟩) HS ?_
      try simp only [List.getElem_toArray, List.getElem_cons_zero, List.getElem_cons_succ, Act.put, List.setIfInBounds_toArray, List.set_cons_zero, List.set_cons_succ]
      refine wpAnyH_take (i := 6) (v := .pointer (some ⟨g, k * 18, none⟩)) rfl (by kernel_rfl) (by kernel_rfl) (by kernel_rfl) (fun _ _ _ h => h) (Or.inl ⟨by rfl, fun W hW => by go_simp⟩) HS ?_
      try simp only [List.getElem_toArray, List.getElem_cons_zero, List.getElem_cons_succ, Act.put, List.setIfInBounds_toArray, List.set_cons_zero, List.set_cons_succ]
      refine wpAnyH_take (i := 7) (v := .agg (preL (adrOf e.1) (bitsOf e.1)).toArray) rfl (by kernel_rfl) (by kernel_rfl) (by kernel_rfl) (fun _ _ _ h => h) (by refine yieldsIf_load_mid ?_ 25 (.tmp 21) rfl g (k * 18) ?_ (preL (adrOf e.1) (bitsOf e.1)) _ (fun W hW => HRW W hW.1) Try.underlying25 rfl (info25 _ _); (go_simp); (go_simp)) HS ?_
      try simp only [List.getElem_toArray, List.getElem_cons_zero, List.getElem_cons_succ, Act.put, List.setIfInBounds_toArray, List.set_cons_zero, List.set_cons_succ]
      refine wpAnyH_take (i := 8) (v := .agg (preL q n).toArray) rfl (by kernel_rfl) (by kernel_rfl) (by kernel_rfl) (fun _ _ _ h => h) (by refine yieldsIf_load_mid ?_ 25 (.tmp 3) rfl B 0 ?_ (preL q n) _ (fun W hW => range_preL hW.2) Try.underlying25 rfl (info25 _ _); (go_simp); (go_simp)) HS ?_
      try simp only [List.getElem_toArray, List.getElem_cons_zero, List.getElem_cons_succ, Act.put, List.setIfInBounds_toArray, List.set_cons_zero, List.set_cons_succ]
      refine wpAnyH_take (i := 9) (v := .bool (preEq (adrOf e.1) (bitsOf e.1) q n)) rfl (by kernel_rfl) (by kernel_rfl) (by kernel_rfl) (fun _ _ _ h => h) (Or.inl ⟨by rfl, fun W hW => by have := HEQ W; go_simp⟩) HS ?_
      try simp only [List.getElem_toArray, List.getElem_cons_zero, List.getElem_cons_succ, Act.put, List.setIfInBounds_toArray, List.set_cons_zero, List.set_cons_succ]
      refine wpAnyH_done (by kernel_rfl) ?_ _
      have HW := Lib.hid HS; clear HS HRW HEQ cm
      have HB := Lib.hid HI.out.2.drew
      clear HI
      have HE := Lib.hid he; clear he
      cases hf : preEq (adrOf e.1) (bitsOf e.1) q n with
      | true =>
        have hh : hasL L q n = true := List.any_eq_true.2 ⟨e, List.mem_of_getElem? HE.out, hf⟩
        have HH := Lib.hid hh; clear hh hf
        go_wp2_with fail
        go_ret
        exact ⟨by rw [HH.out]; rfl, by rw [← NB.out]; exact HB.out⟩
      | false =>
        have HF := Lib.hid hf; clear hf
        go_wp2_with fail
        go_roundw
        case rel => exact ⟨k + 1, by omega, by go_num, ⟨HW.out, HB.out⟩, fun j x hj hx => by
          by_cases ej : j = k
          · subst ej; have := HE.out; rw [hx] at this; injection this with this; subst this; exact HF.out
          · exact HNO.out j x (by omega) hx⟩
        case measure => simp [intOf]; omega
    · obtain rfl : k = L.length := by omega
      have hh : hasL L q n = false := any_false fun j e he => HNO.out j e (List.getElem?_eq_some_iff.1 he).1 he
      have HH := Lib.hid hh; clear hh
      go_wp2_with fail
      go_ret
      exact ⟨by rw [HH.out]; rfl, by rw [← NB.out]; exact HI.out.2⟩
end Go.Proofs.Ytkhbchgocilclaa
