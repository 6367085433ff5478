/- Several texts in one: FH, FI, FJ. No condition beyond those that each part names. -/
import Derived.Test.YtjldcblklbikaaaFD
import Derived.LaidEqlPtr
/- A pool in memory; which datagram has a name: the walks. No condition but that the pool is one. -/
namespace Go.Proofs.Ytjldcblklbikaaa
open Go.RowKit
set_option linter.unusedVariables false
set_option linter.unusedSimpArgs false
/-- a datagram in the pool, and where it lies -/
structure Dg where
  blk : Nat
  src : List Nat
  dst : List Nat
  id : Nat
  over : Nat
  bad : Bool
  v : Value
  L : List El
def Dg.cells (d : Dg) : List Value := nmL d.src d.dst d.id ++ [.int .u64 (d.over : Int), .bool d.bad, d.v]
/-- a body in a block of its own -/
structure BodyAt (w : World) (e : El) : Prop where
  bs : Bs w w.heap.size e.adr e.cap e.pk.body
  blk : e.adr = none ∨ ∃ g cur, e.adr = some ⟨g, 0, none⟩ ∧ w.heap[g]? = some (.cells cur 5 (0, 0)) ∧ e.cap ≤ cur.size
theorem BodyAt.keep {w w' : World} {e : El} (h : BodyAt w e) (hk : ∀ g, e.adr = some ⟨g, 0, none⟩ → w'.heap[g]? = w.heap[g]?) (hs : w.heap.size ≤ w'.heap.size) : BodyAt w' e := by
  refine ⟨⟨fun hl => ?_, h.bs.cap, h.bs.nil, h.bs.max⟩, ?_⟩
  · obtain ⟨b, o, hA, hb, hc⟩ := h.bs.rd hl
    refine ⟨b, o, hA, by omega, fun k x hx => ?_⟩
    rcases h.blk with h1 | ⟨g, cur, h1, h2, h3⟩
    · rw [h1] at hA; cases hA
    · rw [h1] at hA; cases hA
      exact (World.cell?_of_block (w := w) (a := ⟨b, 0 + k, none⟩) (hk b h1)).trans (hc k x hx)
  · rcases h.blk with h1 | ⟨g, cur, h1, h2, h3⟩
    · exact .inl h1
    · exact .inr ⟨g, cur, h1, (hk g h1).trans h2, h3⟩
theorem own_keep {w w' : World} {B e s n : Nat} {v : Value} {xs : List Value} (h : w.ownsRow B e s v n xs) (hk : ∀ k, v.ownBlock = some k → w'.heap[k]? = w.heap[k]?) : w'.ownsRow B e s v n xs :=
  ⟨h.1, h.2.imp_right fun ⟨g, cap, cur, hv, hb, hg, r⟩ => ⟨g, cap, cur, hv, hb, (hk g (by rw [hv]; rfl)).trans hg, r⟩⟩
/-- what was there stays, but for the blocks of F -/
structure Kept (F : Nat → Prop) (w w' : World) : Prop where
  os : w'.os = w.os
  tape : w'.tape = w.tape
  output : w'.output = w.output
  size : w.heap.size ≤ w'.heap.size
  block : ∀ k, k < w.heap.size → ¬ F k → w'.heap[k]? = w.heap[k]?
theorem Kept.refl (F : Nat → Prop) (w : World) : Kept F w w := ⟨rfl, rfl, rfl, Nat.le_refl _, fun _ _ _ => rfl⟩
theorem Kept.trans {F G : Nat → Prop} {a b c : World} (h : Kept F a b) (k : Kept G b c) (hG : ∀ i, i < a.heap.size → G i → F i) : Kept F a c :=
  ⟨k.os.trans h.os, k.tape.trans h.tape, k.output.trans h.output, Nat.le_trans h.size k.size, fun i hi hf => (k.block i (Nat.lt_of_lt_of_le hi h.size) (fun hg => hf (hG i hi hg))).trans (h.block i hi hf)⟩
theorem Kept.mono {F G : Nat → Prop} {a b : World} (h : Kept F a b) (hG : ∀ i, i < a.heap.size → F i → G i) : Kept G a b := ⟨h.os, h.tape, h.output, h.size, fun i hi hf => h.block i hi (fun hg => hf (hG i hi hg))⟩
theorem Kept.of_below {F : Nat → Prop} {a b : World} {B : Nat} (h : Below B a b) (hB : a.heap.size ≤ B) : Kept F a b := ⟨h.os, h.tape, h.output, h.size, fun i hi _ => h.block i (by omega)⟩
theorem Kept.of_turned {F : Nat → Prop} {a b : World} {k : Nat} {o : Obj} (h : Turned k o a b) (hk : F k) : Kept F a b := ⟨h.os, h.tape, h.output, by rw [h.size]; exact Nat.le_refl _, fun i _ hf => h.other (fun e => hf (e ▸ hk))⟩
theorem Kept.of_grown {F : Nat → Prop} {a b : World} {r : Option Nat} (h : a.grownBy b r) (hr : ∀ k, r = some k → F k) : Kept F a b := ⟨h.os, h.tape, h.output, h.size, fun i hi hf => h.block i hi (fun e => hf (hr i e.symm))⟩
theorem Kept.below {F : Nat → Prop} {a b : World} (h : Kept F a b) {B : Nat} (hB : B ≤ a.heap.size) (hF : ∀ k, F k → B ≤ k) : Below B a b := ⟨h.os, h.tape, h.output, h.size, fun i hi => h.block i (by omega) (fun hf => by have := hF i hf; omega)⟩
structure DgAt (w : World) (d : Dg) : Prop where
  blk : w.heap[d.blk]? = some (.cells d.cells.toArray 75 (0, 0))
  src : d.src.length = 16
  dst : d.dst.length = 16
  src8 : ∀ y ∈ d.src, y < 256
  dst8 : ∀ y ∈ d.dst, y < 256
  id : d.id < 4294967296
  over : d.over < 18446744073709551616
  own : w.ownsRow 0 43 40 d.v d.L.length (d.L.flatMap El.cells)
  each : ∀ e ∈ d.L, PkOk e.pk ∧ BodyAt w e ∧ e.pk.body.length ≤ 1000000
  many : d.L.length ≤ 32
def ptrTo (d : Dg) : Value := .pointer (some ⟨d.blk, 0, none⟩)
structure PoolAt (w : World) (pb : Nat) (rv : Value) (D : List Dg) : Prop where
  blk : w.heap[pb]? = some (.cells #[rv, .bool true] 58 (0, 0))
  row : w.ownsRow 0 71 1 rv D.length (D.map ptrTo)
  each : ∀ d ∈ D, DgAt w d
  blks : D.Pairwise fun a b => a.blk ≠ b.blk
  rows : D.Pairwise fun a b => a.v.ownBlock = none ∨ a.v.ownBlock ≠ b.v.ownBlock
  four : D.length ≤ 4
/-- the blocks that are a datagram's own, a pool's own; those of the bodies -/
def Dg.foot (d : Dg) (k : Nat) : Prop := k = d.blk ∨ d.v.ownBlock = some k
def foot (pb : Nat) (rv : Value) (D : List Dg) (k : Nat) : Prop := k = pb ∨ rv.ownBlock = some k ∨ ∃ d ∈ D, d.foot k
def Dg.bods (d : Dg) (k : Nat) : Prop := ∃ e ∈ d.L, e.adr = some ⟨k, 0, none⟩
def bods (D : List Dg) (k : Nat) : Prop := ∃ d ∈ D, d.bods k
theorem DgAt.keep {w w' : World} {d : Dg} (h : DgAt w d) (hk : ∀ k, d.foot k ∨ d.bods k → w'.heap[k]? = w.heap[k]?) (hs : w.heap.size ≤ w'.heap.size) : DgAt w' d :=
  ⟨(hk _ (.inl (.inl rfl))).trans h.blk, h.src, h.dst, h.src8, h.dst8, h.id, h.over, own_keep h.own (fun k e => hk k (.inl (.inr e))), fun e he => ⟨(h.each e he).1, (h.each e he).2.1.keep (fun g hg => hk g (.inr ⟨e, he, hg⟩)) hs, (h.each e he).2.2⟩, h.many⟩
theorem PoolAt.keep {w w' : World} {pb : Nat} {rv : Value} {D : List Dg} (h : PoolAt w pb rv D) (hk : ∀ k, foot pb rv D k ∨ bods D k → w'.heap[k]? = w.heap[k]?) (hs : w.heap.size ≤ w'.heap.size) : PoolAt w' pb rv D :=
  ⟨(hk _ (.inl (.inl rfl))).trans h.blk, own_keep h.row (fun k e => hk k (.inl (.inr (.inl e)))), fun d hd => (h.each d hd).keep (fun k hf => hk k (hf.imp (fun f => .inr (.inr ⟨d, hd, f⟩)) (fun b => ⟨d, hd, b⟩))) hs, h.blks, h.rows, h.four⟩
theorem own_lt {w : World} {B e s n : Nat} {v : Value} {xs : List Value} (h : w.ownsRow B e s v n xs) {k : Nat} (hk : v.ownBlock = some k) : k < w.heap.size := (h.lt k hk).2
theorem BodyAt.lt {w : World} {e : El} (h : BodyAt w e) {k : Nat} (hk : e.adr = some ⟨k, 0, none⟩) : k < w.heap.size := by
  rcases h.blk with h1 | ⟨g, cur, h1, h2, h3⟩
  · rw [h1] at hk; cases hk
  · rw [h1] at hk; cases hk; exact lt_of_blk h2
theorem PoolAt.lt {w : World} {pb : Nat} {rv : Value} {D : List Dg} (h : PoolAt w pb rv D) {k : Nat} (hk : foot pb rv D k ∨ bods D k) : k < w.heap.size := by
  rcases hk with (rfl | hk | ⟨d, hd, rfl | hk⟩) | ⟨d, hd, e, he, hk⟩
  · exact lt_of_blk h.blk
  · exact own_lt h.row hk
  · exact lt_of_blk (h.each d hd).blk
  · exact own_lt (h.each d hd).own hk
  · exact ((h.each d hd).each e he).2.1.lt hk
theorem PoolAt.below {w w' : World} {pb : Nat} {rv : Value} {D : List Dg} (h : PoolAt w pb rv D) (hb : Below w.heap.size w w') : PoolAt w' pb rv D := h.keep (fun k hk => hb.block k (h.lt hk)) hb.size
theorem Dg.len {w : World} {d : Dg} (h : DgAt w d) : d.cells.length = 36 := by simp [Dg.cells, nmL_length h.src h.dst]
theorem Dg.tail {w : World} {d : Dg} (h : DgAt w d) (j : Nat) : w.cell? ⟨d.blk, 33 + j, none⟩ = ([.int .u64 (d.over : Int), .bool d.bad, d.v] : List Value)[j]? := by
  have e : d.cells[33 + j]? = ([.int .u64 (d.over : Int), .bool d.bad, d.v] : List Value)[j]? := by
    unfold Dg.cells
    rw [List.getElem?_append_right (by rw [nmL_length h.src h.dst]; omega), nmL_length h.src h.dst]; congr 1; omega
  rw [cell_blk h.blk]; simpa using e
theorem Dg.name {w : World} {d : Dg} (h : DgAt w d) : w.rangeAt d.blk 0 (nmL d.src d.dst d.id) := fun j v hj => by
  rw [Nat.zero_add, cell_blk h.blk]
  have e : d.cells[j]? = some v := by
    unfold Dg.cells
    rw [List.getElem?_append_left (List.getElem?_eq_some_iff.1 hj).1]; exact hj
  simpa using e
/-- a row of one's own reads as packets -/
theorem own_pks {w : World} {B : Nat} {v : Value} {L : List El} (h : w.ownsRow B 43 40 v L.length (L.flatMap El.cells)) (he : ∀ e ∈ L, PkOk e.pk ∧ Bs w w.heap.size e.adr e.cap e.pk.body ∧ e.pk.body.length ≤ 1000000) (hm : L.length ≤ 100000) :
    ∃ A c, v = .slice A L.length c ∧ PksRd w w.heap.size A L := by
  rcases h.2 with ⟨rfl, hl⟩ | ⟨g, cap, cur, rfl, hb, hg, hn, hx, hs, ht⟩
  · exact ⟨none, 0, by rw [hl], hm, he, fun hne => absurd (List.length_eq_zero_iff.1 hl) hne⟩
  · refine ⟨_, _, rfl, hm, he, fun hne => ⟨g, 0, rfl, lt_of_blk hg, fun k e hk j v hj => ?_⟩⟩
    have hlen : ∀ e ∈ L, e.cells.length = 40 := fun e hm => (El.at_ (he e hm).1).len
    have hcell : ∀ (M : List El), (∀ e ∈ M, e.cells.length = 40) → ∀ (k : Nat) (e : El), M[k]? = some e → ∀ j v, e.cells[j]? = some v → (M.flatMap El.cells)[k * 40 + j]? = some v := by
      intro M
      induction M with
      | nil => intro _ k e hk; simp at hk
      | cons m M ih =>
        intro hM k e hk j v hj
        rw [List.flatMap_cons]
        cases k with
        | zero =>
          simp at hk; subst hk
          rw [Nat.zero_mul, Nat.zero_add, List.getElem?_append_left (List.getElem?_eq_some_iff.1 hj).1]; exact hj
        | succ k =>
          have h40 := hM m List.mem_cons_self
          rw [List.getElem?_append_right (by omega), h40, show (k + 1) * 40 + j - 40 = k * 40 + j by omega]
          exact ih (fun e he => hM e (List.mem_cons_of_mem _ he)) k e (by simpa using hk) j v hj
    have h1 := hcell L hlen k e hk j v hj
    rw [← ht, List.getElem?_take] at h1
    split at h1
    · rw [Nat.zero_add, cell_blk hg]
      simpa using h1
    · cases h1
end Go.Proofs.Ytjldcblklbikaaa

/- Which datagram of the pool has the name: the walk. No condition but that the pool is one. -/
namespace Go.Proofs.Ytjldcblklbikaaa
open Go.RowKit
set_option linter.unusedVariables false
set_option linter.unusedSimpArgs false
/-- the first that is told of, or none is -/
def FirstD (D : List Dg) (t : Dg → Bool) (r : Option Nat) : Prop := match r with
  | none => ∀ x ∈ D, t x = false
  | some k => ∃ x, D[k]? = some x ∧ t x = true ∧ ∀ j y, j < k → D[j]? = some y → t y = false
def ptrK (D : List Dg) (r : Option Nat) : Value := match r with
  | none => .pointer none
  | some k => match D[k]? with
    | some d => ptrTo d
    | none => .pointer none
def Dg.has (s d : List Nat) (i : Nat) (x : Dg) : Bool := x.src == s && (x.dst == d && x.id == i)
/-- the pointers' row reads -/
theorem PoolAt.ptrs {w : World} {pb : Nat} {rv : Value} {D : List Dg} (h : PoolAt w pb rv D) : ∃ A c, rv = .slice A D.length c ∧ (D ≠ [] → ∃ g, A = some ⟨g, 0, none⟩ ∧ g < w.heap.size ∧ ∀ k d, D[k]? = some d → w.cell? ⟨g, k, none⟩ = some (ptrTo d)) := by
  rcases h.row.2 with ⟨e, hl⟩ | ⟨g, cap, cur, e, hb, hg, hn, hx, hs, ht⟩
  · exact ⟨none, 0, by rw [e, hl], fun hne => absurd (List.length_eq_zero_iff.1 hl) hne⟩
  · refine ⟨_, _, e, fun _ => ⟨g, rfl, lt_of_blk hg, fun k d hk => ?_⟩⟩
    have h1 : (D.map ptrTo)[k]? = some (ptrTo d) := by rw [List.getElem?_map, hk]; rfl
    rw [← ht, List.getElem?_take] at h1
    split at h1
    · rw [cell_blk hg]; simpa using h1
    · cases h1
structure FS (w : World) (q : Nat) (N : List Value) (W : World) : Prop where
  box : W.heap[q]? = some (.cells N.toArray 73 (0, 0))
  below : Below w.heap.size w W
attribute [-go_sem] run_eql_struct run_equalIn_agg in
set_option maxRecDepth 100000 in
set_option maxHeartbeats 1000000 in
theorem find34 {pb i : Nat} {rv : Value} {D : List Dg} {s d : List Nat} (w : World) (h : PoolAt w pb rv D) (hs : s.length = 16) (hd : d.length = 16) (hs8 : ∀ y ∈ s, y < 256) (hd8 : ∀ y ∈ d, y < 256) :
    Calls Try.prog 34 #[.pointer (some ⟨pb, 0, none⟩), .agg (nmL s d i).toArray] w fun e w' => ∃ r, FirstD D (Dg.has s d i) r ∧ e = .returned (ptrK D r) ∧ Below w.heap.size w w' := by
  obtain ⟨A, c, rfl, hrow⟩ := h.ptrs
  have hal : Below w.heap.size w (w.alloc (.cells (nmL s d i).toArray 73)) := (Below.refl _ _).alloc (Nat.le_refl _) _
  have hF : FS w w.heap.size (nmL s d i) (w.alloc (.cells (nmL s d i).toArray 73)) := ⟨heap_alloc_new w _, hal⟩
  have HP : Hid ((w.alloc (.cells (nmL s d i).toArray 73)).cell? ⟨pb, 0, none⟩ = some (.slice A D.length c)) := Lib.hid ((hal.cell (p := ⟨pb, 0, none⟩) (lt_of_blk h.blk)).trans (by rw [cell_blk h.blk]; rfl))
  have HEQ : Hid (∀ x ∈ D, ∀ W, (binOp .eql 73 (.agg (nmL x.src x.dst x.id).toArray) (.agg (nmL s d i).toArray)).run Try.prog W = .ok (.bool (Dg.has s d i x)) W) := Lib.hid fun x hx W => nm_eq (h.each x hx).src (h.each x hx).dst hs hd (h.each x hx).src8 (h.each x hx).dst8 hs8 hd8 W
  have HNL := Lib.hid (nmL_length (i := i) hs hd)
  have HROW := Lib.hid hrow
  have HD := Lib.hid h.each
  have HZ := Lib.hid zero73
  have hm := h.four
  obtain ⟨n, hn⟩ : ∃ n, D.length = n := ⟨_, rfl⟩
  have HN := Lib.hid hn
  rw [hn] at HP hm
  obtain ⟨V, hV⟩ : ∃ V, V = w.alloc (.cells (nmL s d i).toArray 73) := ⟨_, rfl⟩
  obtain ⟨q, hq⟩ : ∃ p, p = w.heap.size := ⟨_, rfl⟩
  rw [← hV] at HP hF
  rw [← hq] at hF
  obtain ⟨N, hN⟩ : ∃ N, N = nmL s d i := ⟨_, rfl⟩
  rw [← hN] at HEQ HNL hV hF ⊢
  have HF := Lib.hid hF
  have p0 := HP.out
  clear h hs hd hs8 hd8 hrow hal hF hn hN
  go_enter Try.func34, Try.ntmps34
  go_upto_region 1 with (fail)
  rw [← hV, ← hq]
  clear hV hq
  go_wp2_with fail
  go_loopw [12] (fun z wr => ∃ k : Nat, k ≤ n ∧ z = .int .i64 k ∧ (∀ j y, j < k → D[j]? = some y → Dg.has s d i y = false) ∧ FS w q N wr) (fun z _ => n - (intOf z).toNat)
  case atStart => exact ⟨0, Nat.zero_le _, rfl, fun j y hj => absurd hj (by omega), HF.out⟩
  case round =>
    obtain ⟨k, hk, rfl, hno, hW⟩ := hrel
    have HNO := Lib.hid hno
    clear hno HF HP p0
    by_cases hlt : k < n
    · obtain ⟨x, hx⟩ : ∃ x, D[k]? = some x := ⟨D[k]'(by rw [HN.out]; exact hlt), List.getElem?_eq_getElem _⟩
      obtain ⟨g, rfl, hg, hc⟩ := HROW.out (by rintro rfl; simp at hx)
      have hxm := List.mem_of_getElem? hx
      have c0 := (hW.below.cell (p := ⟨g, k, none⟩) hg).trans (hc k x hx)
      have HX := Lib.hid hx
      have HE := Lib.hid (HEQ.out x hxm)
      have hdx := HD.out x hxm
      have HNX := Lib.hid (Dg.name hdx)
      have HLX := Lib.hid (nmL_length (i := x.id) hdx.src hdx.dst)
      have HB := Lib.hid (lt_of_blk hdx.blk)
      obtain ⟨M, hM⟩ : ∃ M, M = nmL x.src x.dst x.id := ⟨_, rfl⟩
      rw [← hM] at HE HNX HLX
      obtain ⟨xb, hxb⟩ : ∃ b, b = x.blk := ⟨_, rfl⟩
      have HPX : Hid (ptrTo x = .pointer (some ⟨xb, 0, none⟩)) := Lib.hid (by rw [hxb]; rfl)
      rw [HPX.out] at c0
      rw [← hxb] at HNX HB
      obtain ⟨t, ht⟩ : ∃ t, t = Dg.has s d i x := ⟨_, rfl⟩
      have HT := Lib.hid ht
      rw [← ht] at HE
      have hS : FS w q N wr.drew := ⟨hW.box, hW.below.drew⟩
      clear hx hc hxm hdx hM hxb ht hW hg
      go_upto_region 4 with (fail)
      refine wp_region_held_drew (S := fun W => FS w q N W) (by kernel_rfl) hS ?_
      clear hS
      intro HS
      refine wpAnyH_take (i := 0) (v := ?_) rfl (by kernel_rfl) (by kernel_rfl) (by kernel_rfl) (fun _ _ _ h => h) (Or.inl ⟨by go_simp, ?hy⟩) HS ?_
      case hy => intro W hW; go_simp; (try with_reducible rfl)
      try simp only [List.getElem_toArray, List.getElem_cons_zero, List.getElem_cons_succ, Act.put, List.setIfInBounds_toArray, List.set_cons_zero, List.set_cons_succ]
      refine wpAnyH_take (i := 1) (v := ?_) rfl (by kernel_rfl) (by kernel_rfl) (by kernel_rfl) (fun _ _ _ h => h) (Or.inl ⟨by go_simp, ?hy⟩) HS ?_
      case hy => intro W hW; go_simp; (try with_reducible rfl)
      try simp only [List.getElem_toArray, List.getElem_cons_zero, List.getElem_cons_succ, Act.put, List.setIfInBounds_toArray, List.set_cons_zero, List.set_cons_succ]
      refine wpAnyH_take (i := 2) (v := ?_) rfl (by kernel_rfl) (by kernel_rfl) (by kernel_rfl) (fun _ _ _ h => h) (Or.inl ⟨by go_simp, ?hy⟩) HS ?_
      case hy => intro W hW; go_simp; (try with_reducible rfl)
      try simp only [List.getElem_toArray, List.getElem_cons_zero, List.getElem_cons_succ, Act.put, List.setIfInBounds_toArray, List.set_cons_zero, List.set_cons_succ]
      refine wpAnyH_take (i := 3) (v := .agg M.toArray) rfl (by kernel_rfl) (by kernel_rfl) (by kernel_rfl) (fun _ _ _ h => h) (by refine yieldsIf_load_mid ?hw 73 (.tmp 18) ?ho xb 0 ?hx M _ (fun W hW => range_below HNX.out HB.out hW.below) Try.underlying73 rfl (by rw [HLX.out]; exact HZ.out); (case ho => rfl); (case hw => go_simp); (case hx => go_simp)) HS ?_
      try simp only [List.getElem_toArray, List.getElem_cons_zero, List.getElem_cons_succ, Act.put, List.setIfInBounds_toArray, List.set_cons_zero, List.set_cons_succ]
      refine wpAnyH_take (i := 4) (v := .agg N.toArray) rfl (by kernel_rfl) (by kernel_rfl) (by kernel_rfl) (fun _ _ _ h => h) (by refine yieldsIf_load_mid ?hw 73 (.tmp 3) ?ho q 0 ?hx N _ (fun W hW => row_of hW.box) Try.underlying73 rfl (by rw [HNL.out]; exact HZ.out); (case ho => rfl); (case hw => go_simp); (case hx => go_simp)) HS ?_
      try simp only [List.getElem_toArray, List.getElem_cons_zero, List.getElem_cons_succ, Act.put, List.setIfInBounds_toArray, List.set_cons_zero, List.set_cons_succ]
      refine wpAnyH_take (i := 5) (v := .bool t) rfl (by kernel_rfl) (by kernel_rfl) (by kernel_rfl) (fun _ _ _ h => h) (Or.inl ⟨by go_simp, fun W hW => by have e := HE.out W; go_simp⟩) HS ?_
      try simp only [List.getElem_toArray, List.getElem_cons_zero, List.getElem_cons_succ, Act.put, List.setIfInBounds_toArray, List.set_cons_zero, List.set_cons_succ]
      cases t with
      | true =>
        refine wpAnyH_done (by kernel_rfl) ?_ _
        go_wp2_with fail
        go_ret
        exact ⟨some k, ⟨x, HX.out, HT.out.symm, HNO.out⟩, by simp only [ptrK, HX.out, HPX.out]; rfl, HS.below⟩
      | false =>
        have HNX : Hid (∀ j y, j < k + 1 → D[j]? = some y → Dg.has s d i y = false) := Lib.hid (by
          intro j y hj hy
          rcases Nat.lt_or_ge j k with h1 | h1
          · exact HNO.out j y h1 hy
          · obtain rfl : j = k := by omega
            have := HX.out
            rw [hy] at this
            cases this
            exact HT.out.symm)
        refine wpAnyH_done (by kernel_rfl) ?_ _
        go_wp2_with fail
        go_roundw
        case rel => exact ⟨k + 1, by omega, by go_num, HNX.out, HS⟩
        case measure => simp [intOf]; omega
    · obtain rfl : k = n := by omega
      clear hlt
      have HW := Lib.hid hW
      clear hW
      go_wp2_with fail
      go_ret
      refine ⟨none, fun x hx => ?_, rfl, HW.out.below⟩
      obtain ⟨j, hj⟩ := List.getElem?_of_mem hx
      exact HNO.out j x (by rw [← HN.out]; exact (List.getElem?_eq_some_iff.1 hj).1) hj
end Go.Proofs.Ytjldcblklbikaaa

/- Several texts in one: FJ, FK, FL. No condition beyond those that each part names. -/
/- A datagram spoilt; is it this one; is it the first part; how many, till when: the walks. No condition but that the pool is one. -/
namespace Go.Proofs.Ytjldcblklbikaaa
open Go.RowKit
set_option linter.unusedVariables false
set_option linter.unusedSimpArgs false
set_option maxRecDepth 100000 in
set_option maxHeartbeats 400000 in
theorem spoil37 {d : Nat} {C : Array Value} (w : World) (h : w.heap[d]? = some (.cells C 75 (0, 0))) (hC : C.size = 36) :
    Calls Try.prog 37 #[.pointer (some ⟨d, 0, none⟩)] w fun e w' => e = .returned (.tuple #[]) ∧ Turned d (.cells ((C.setIfInBounds 34 (.bool true)).setIfInBounds 35 (.slice none 0 0)) 75 (0, 0)) w w' := by
  have c34 := cell_blk h 34
  have c35 := cell_blk h 35
  have f34 := frozen_blk h 34
  have f35 := frozen_blk h 35
  rw [Array.getElem?_eq_getElem (by omega)] at c34 c35
  have t1 := Turned.setCell h 34 (.bool true)
  have t2 := t1.trans (Turned.setCell (t1.get (lt_of_blk h)) 35 (.slice none 0 0))
  have HT := Lib.hid t2
  generalize C[34] = v34 at *
  generalize C[35] = v35 at *
  clear h t1 t2
  go_enter Try.func37, Try.ntmps37
  go_wp2_with fail
  go_end0
  exact ⟨rfl, HT.out⟩
set_option maxRecDepth 100000 in
set_option maxHeartbeats 400000 in
theorem clos43 {p a b : Nat} {ca cb : Array Value} (w : World) (h : w.cell? ⟨p, 0, none⟩ = some (.pointer (some ⟨b, 0, none⟩))) (ha : w.heap[a]? = some (.cells ca 75 (0, 0))) (hb : w.heap[b]? = some (.cells cb 75 (0, 0))) :
    Calls Try.prog 43 #[.pointer (some ⟨a, 0, none⟩), .pointer (some ⟨p, 0, none⟩)] w (BoolPost (a == b) w) := by
  obtain ⟨j, hj⟩ : ∃ j, Try.prog.info? 75 = some j := Option.isSome_iff_exists.1 (by kernel_rfl)
  have hs : j.size = 36 := by
    have : (Try.prog.info? 75).map (·.size) = some 36 := by kernel_rfl
    rw [hj] at this; simpa using this
  have E : (binOp .eql 71 (.pointer (some ⟨a, 0, none⟩)) (.pointer (some ⟨b, 0, none⟩))).run Try.prog w = .ok (.bool (a == b)) w := by
    by_cases e : a = b
    · subst e
      rw [run_eql_ptr_same w _ Try.underlying71 hj]; simp
    · rw [run_eql_ptr_other w Try.underlying71 hj (by omega) (fun x => e (by cases x; rfl)) ha hb]; simp [e]
  clear ha hb hj hs
  go_enter Try.func43, Try.ntmps43
  go_wp2_with fail
  go_ret
  exact ⟨rfl, Below.refl _ _⟩
end Go.Proofs.Ytjldcblklbikaaa

/- A new pool; how many datagrams; is it the first part: the walks. No condition but that the pool is one. -/
namespace Go.Proofs.Ytjldcblklbikaaa
open Go.RowKit
set_option linter.unusedVariables false
set_option linter.unusedSimpArgs false
set_option maxRecDepth 100000 in
set_option maxHeartbeats 400000 in
theorem clos30 {P : List Value} {x : Pk} {A : Option Addr} {c : Nat} (w : World) (h : PkAt P x A c) :
    Calls Try.prog 30 #[.agg P.toArray] w (BoolPost (x.off == 0) w) := by
  have b := heap_alloc_new w (.cells P.toArray 43)
  have c36 := box_cell b (h.tail 4)
  obtain ⟨q, hq⟩ : ∃ q, q = x.off := ⟨_, rfl⟩
  rw [← hq] at c36 ⊢
  have E : Hid (((q : Int) == 0) = (q == 0)) := Lib.hid (by rw [Bool.eq_iff_iff]; simp)
  clear h hq b
  go_enter Try.func30, Try.ntmps30
  go_wp2_with fail
  go_ret
  refine ⟨?_, (Below.refl _ _).alloc (Nat.le_refl _) _⟩
  rw [← E.out]
  rfl
set_option maxRecDepth 100000 in
set_option maxHeartbeats 400000 in
theorem new10 (w : World) : Calls Try.prog 10 #[] w fun e w' => e = .returned (.pointer (some ⟨w.heap.size, 0, none⟩)) ∧ PoolAt w' w.heap.size (.slice none 0 0) [] ∧ Below w.heap.size w w' ∧ w'.heap.size = w.heap.size + 1 := by
  go_enter Try.func10, Try.ntmps10
  go_wp2_with fail
  go_ret
  refine ⟨rfl, ⟨heap_alloc_new w _, World.ownsRow_nil _ _ _ _, by simp, List.Pairwise.nil, List.Pairwise.nil, by simp⟩, (Below.refl _ _).alloc (Nat.le_refl _) _, by simp⟩
set_option maxRecDepth 100000 in
set_option maxHeartbeats 400000 in
theorem len20 {pb : Nat} {rv : Value} {D : List Dg} (w : World) (h : PoolAt w pb rv D) :
    Calls Try.prog 20 #[.pointer (some ⟨pb, 0, none⟩)] w fun e w' => e = .returned (.int .i64 (D.length : Int)) ∧ w = w' := by
  obtain ⟨A, c, rfl, hrow⟩ := h.ptrs
  have c0 : w.cell? ⟨pb, 0, none⟩ = some (.slice A D.length c) := by rw [cell_blk h.blk]; rfl
  generalize D.length = n at *
  clear h hrow
  go_enter Try.func20, Try.ntmps20
  go_wp2_with fail
  go_ret
  exact ⟨rfl, rfl⟩
end Go.Proofs.Ytjldcblklbikaaa

/- Till when: the walk. No condition but that the pool is one. -/
namespace Go.Proofs.Ytjldcblklbikaaa
open Go.RowKit
set_option linter.unusedVariables false
set_option linter.unusedSimpArgs false
def nextN (m : Nat) (l : List Nat) : Nat := l.foldl min m
theorem nextN_le : ∀ (l : List Nat) (m : Nat), nextN m l ≤ m
  | [], m => Nat.le_refl _
  | x :: l, m => Nat.le_trans (nextN_le l (min m x)) (Nat.min_le_left _ _)
theorem nextN_take {l : List Nat} {m k x : Nat} (h : l[k]? = some x) : nextN m (l.take (k + 1)) = min (nextN m (l.take k)) x := by
  have e : l.take (k + 1) = l.take k ++ [x] := by rw [List.take_add_one, h]; rfl
  rw [e]; simp [nextN]
set_option maxRecDepth 100000 in
set_option maxHeartbeats 400000 in
theorem next21 {pb : Nat} {rv : Value} {D : List Dg} (w : World) (h : PoolAt w pb rv D) :
    Calls Try.prog 21 #[.pointer (some ⟨pb, 0, none⟩)] w fun e w' => e = .returned (.int .u64 (nextN 9223372036854775807 (D.map (·.over)) : Int)) ∧ w = w' := by
  obtain ⟨A, c, rfl, hrow⟩ := h.ptrs
  have c0 : w.cell? ⟨pb, 0, none⟩ = some (.slice A D.length c) := by rw [cell_blk h.blk]; rfl
  have HROW := Lib.hid hrow
  have HD := Lib.hid h.each
  have hm := h.four
  obtain ⟨n, hn⟩ : ∃ n, D.length = n := ⟨_, rfl⟩
  have HN := Lib.hid hn
  rw [hn] at c0 hm
  clear h hrow hn
  go_enter Try.func21, Try.ntmps21
  go_wp2_with fail
  go_loopw [3, 14] (fun z i wr => ∃ k : Nat, k ≤ n ∧ i = .int .i64 k ∧ z = .int .u64 (nextN 9223372036854775807 ((D.map (·.over)).take k) : Int) ∧ w = wr) (fun _ i _ => n - (intOf i).toNat)
  case atStart => exact ⟨0, Nat.zero_le _, rfl, rfl, rfl⟩
  case round =>
    obtain ⟨k, hk, rfl, rfl, rfl⟩ := hrel
    by_cases hlt : k < n
    · obtain ⟨x, hx⟩ : ∃ x, D[k]? = some x := ⟨D[k]'(by rw [HN.out]; exact hlt), List.getElem?_eq_getElem _⟩
      obtain ⟨g, rfl, hg, hc⟩ := HROW.out (by rintro rfl; simp at hx)
      have c1 := hc k x hx
      have c2 := Dg.tail (HD.out x (List.mem_of_getElem? hx)) 0
      have HE := Lib.hid (nextN_take (m := 9223372036854775807) (l := D.map (·.over)) (k := k) (x := x.over) (by rw [List.getElem?_map, hx]; rfl))
      obtain ⟨xb, hxb⟩ : ∃ b, b = x.blk := ⟨_, rfl⟩
      have hpx : ptrTo x = .pointer (some ⟨xb, 0, none⟩) := by rw [hxb]; rfl
      rw [hpx] at c1
      rw [← hxb] at c2
      simp only [List.getElem?_cons_zero, Nat.add_zero] at c2
      obtain ⟨o, ho⟩ : ∃ o, o = x.over := ⟨_, rfl⟩
      rw [← ho] at c2 HE
      obtain ⟨m, hmm⟩ : ∃ m, m = nextN 9223372036854775807 ((D.map (·.over)).take k) := ⟨_, rfl⟩
      rw [← hmm] at HE ⊢
      clear hx hc hxb hpx ho hmm hg
      by_cases hlo : o < m
      · have t : (o : Int) < (m : Int) := by omega
        have HE2 := Lib.hid (HE.out.trans (Nat.min_eq_right (by omega)))
        clear hlo
        go_wp2_with fail
        go_roundw
        case rel => exact ⟨k + 1, by omega, by go_num, by rw [HE2.out], (by first | trivial | rfl)⟩
        case measure => simp [intOf]; omega
      · have t : ¬ ((o : Int) < (m : Int)) := by omega
        have HE2 := Lib.hid (HE.out.trans (Nat.min_eq_left (by omega)))
        clear hlo
        go_wp2_with fail
        go_roundw
        case rel => exact ⟨k + 1, by omega, by go_num, by rw [HE2.out], (by first | trivial | rfl)⟩
        case measure => simp [intOf]; omega
    · obtain rfl : k = n := by omega
      have HL : Hid ((D.map (·.over)).take k = D.map (·.over)) := Lib.hid (by rw [← HN.out]; exact List.take_of_length_le (by simp))
      rw [HL.out]
      clear hlt
      go_wp2_with fail
      go_ret
      exact ⟨rfl, rfl⟩
end Go.Proofs.Ytjldcblklbikaaa
