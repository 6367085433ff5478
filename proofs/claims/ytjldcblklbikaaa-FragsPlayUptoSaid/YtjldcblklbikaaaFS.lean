/- A part comes to a pool: the walk. No condition but that the pool is one, and the part's body shorter than a million bytes. (Written out by exp.py.) -/
import Derived.Test.YtjldcblklbikaaaFP
import Derived.Deep.DeepCutAuto
import Derived.StillTailTactics
namespace Go.Proofs.Ytjldcblklbikaaa
open Go.RowKit
set_option linter.unusedVariables false
set_option linter.unusedSimpArgs false
/-- what a part's coming leaves -/
def AddRes (pb : Nat) (rv : Value) (D : List Dg) (now : Nat) (x : Pk) (w : World) (e : Ending) (w' : World) : Prop :=
  ∃ rv' D' out dr W, AddMem pb rv D w w' rv' D' ∧ AddS now x (D.map Dg.abs) (D'.map Dg.abs) out dr ∧ e = .returned (.tuple #[.agg (List.toArray W), .bool (Option.isSome out), .bool dr]) ∧ (out = none → W = zeroP) ∧
    ∀ y, out = some y → ∃ A c, W = pkL y A c ∧ PkOk y ∧ BodyAt w' ⟨y, A, c⟩ ∧ (∀ g, A = some ⟨g, 0, none⟩ → w.heap.size ≤ g ∧ ¬ bods D' g) ∧ y.body.length ≤ 100000000
/-- the boxes of the call, all that was there as it was -/
structure AB (w : World) (P : List Value) (b5 b6 : Nat) (W : World) : Prop where
  old : Below w.heap.size w W
  x5 : W.heap[b5]? = some (.cells P.toArray 43 (0, 0))
  x6 : W.heap[b6]? = some (.cells zeroP.toArray 43 (0, 0))
theorem AB.step {b5 b6 : Nat} {w W W' : World} {P : List Value} (h : AB w P b5 b6 W) (hb : Below W.heap.size W W') : AB w P b5 b6 W' :=
  ⟨h.old.trans (hb.mono h.old.size), (hb.block _ (lt_of_blk h.x5)).trans h.x5, (hb.block _ (lt_of_blk h.x6)).trans h.x6⟩
theorem AB.aside {b5 b6 b : Nat} {w W W' : World} {P : List Value} {o : Obj} (h : AB w P b5 b6 W) (t : Turned b o W W') (hb : w.heap.size ≤ b) (n5 : b5 ≠ b) (n6 : b6 ≠ b) : AB w P b5 b6 W' :=
  ⟨h.old.trans (t.below hb), (t.other n5).trans h.x5, (t.other n6).trans h.x6⟩
theorem info71 : (Try.prog.info? 71).map (fun i => (i.zero, i.size, i.bytes)) = some (some (.pointer none), 1, 8) := by kernel_rfl
/-- where a part that may be is judged: the datagram is there -/
structure AMid (now : Nat) (x : Pk) (pb : Nat) (rv : Value) (D : List Dg) (w : World) (P : List Value) (b5 b6 b9 : Nat) (W : World) (rv1 : Value) (D1 : List Dg) (k : Nat) (d : Dg) : Prop where
  mem : AddMem pb rv D w W rv1 D1
  x5 : W.heap[b5]? = some (.cells P.toArray 43 (0, 0))
  x6 : W.heap[b6]? = some (.cells zeroP.toArray 43 (0, 0))
  x9 : W.heap[b9]? = some (.cells #[ptrTo d] 71 (0, 0))
  get : D1[k]? = some d
  good : d.bad = false
  far : ∀ i, foot pb rv1 D1 i ∨ bods D1 i → i < w.heap.size ∨ b9 < i
  low : w.heap.size ≤ b5 ∧ b5 < b6 ∧ b6 < b9
  may : mayB x = true
  how : (FirstS (D.map Dg.abs) x (some k) ∧ D1 = D) ∨ (FirstS (D.map Dg.abs) x none ∧ (D.map Dg.abs).length ≠ 4 ∧ D1.map Dg.abs = D.map Dg.abs ++ [freshS now x] ∧ k = (D.map Dg.abs).length)
theorem PoolAt.foot5 {w : World} {pb : Nat} {rv : Value} {D : List Dg} (h : PoolAt w pb rv D) {i : Nat} (hi : foot pb rv D i) {cur : Array Value} (hc : w.heap[i]? = some (.cells cur 5 (0, 0))) : False := by
  have hk : Kd w i 5 := ⟨_, _, hc⟩
  rcases hi with rfl | hi | ⟨d, hd, rfl | hi⟩
  · have := hk.one h.kdp; omega
  · have := hk.one (h.kdr hi); omega
  · have := hk.one (h.each d hd).kdb; omega
  · have := hk.one ((h.each d hd).kdv hi); omega
theorem Bs.kept {w W : World} {pb c : Nat} {rv : Value} {D : List Dg} {A : Option Addr} {l : List Nat} (h : Bs w w.heap.size A c l) (h5 : A = none ∨ ∃ g o cur, A = some ⟨g, o, none⟩ ∧ w.heap[g]? = some (.cells cur 5 (0, 0))) (hp : PoolAt w pb rv D) (hk : Kept (foot pb rv D) w W) : Bs W W.heap.size A c l := by
  refine ⟨fun hl => ?_, h.cap, h.nil, h.max⟩
  obtain ⟨b, o, hA, hb, hc⟩ := h.rd hl
  refine ⟨b, o, hA, Nat.lt_of_lt_of_le hb hk.size, fun k x hx => ?_⟩
  rcases h5 with e | ⟨g, o2, cur, e, hg⟩
  · rw [e] at hA; cases hA
  · rw [e] at hA; cases hA
    exact (World.cell?_of_block (w := w) (a := ⟨b, o + k, none⟩) (hk.block b hb (fun hf => hp.foot5 hf hg))).trans (hc k x hx)
/-- a block of the call's own is written -/
theorem AddMem.put {pb b : Nat} {rv rv1 : Value} {D D1 : List Dg} {w W W' : World} {o : Obj} (h : AddMem pb rv D w W rv1 D1) (t : Turned b o W W') (hb : w.heap.size ≤ b) (hf : ¬ (Ytjldcblklbikaaa.foot pb rv1 D1 b ∨ Ytjldcblklbikaaa.bods D1 b)) : AddMem pb rv D w W' rv1 D1 :=
  ⟨AddMem.aside h.pool t hf, h.kept.trans (Kept.of_turned (F := fun i => i = b) t rfl) (fun i hi e => by omega), h.foot, h.bods, h.sep⟩
theorem AMid.adds {now pb b5 b6 b9 k : Nat} {x : Pk} {rv rv1 : Value} {D D1 : List Dg} {w W : World} {P : List Value} {d : Dg} (h : AMid now x pb rv D w P b5 b6 b9 W rv1 D1 k d) (his : x.is = true) {S' : List Ds} {out : Option Pk} {dr : Bool} (hp : PutS x (D1.map Dg.abs) k d.abs S' out dr) : AddS now x (D.map Dg.abs) S' out dr := by
  have hg : (D1.map Dg.abs)[k]? = some d.abs := by rw [List.getElem?_map, h.get]; rfl
  rcases h.how with ⟨h1, h2⟩ | ⟨h1, h2, h3, h4⟩
  · subst h2
    exact .inr (.inr (.inr (.inr (.inl ⟨his, h.may, k, d.abs, h1, hg, h.good, hp⟩))))
  · rw [h3, h4] at hg hp
    rw [List.getElem?_append_right (Nat.le_refl _)] at hg
    simp at hg
    rw [← hg] at hp
    exact .inr (.inr (.inr (.inr (.inr ⟨his, h.may, h1, h2, hp⟩))))
theorem AMid.step {now pb b5 b6 b9 k : Nat} {x : Pk} {rv rv1 : Value} {D D1 : List Dg} {w W W' : World} {P : List Value} {d : Dg} (h : AMid now x pb rv D w P b5 b6 b9 W rv1 D1 k d) (hb : Below W.heap.size W W') : AMid now x pb rv D w P b5 b6 b9 W' rv1 D1 k d :=
  ⟨h.mem.trans (AddMem.below h.mem.pool hb), (hb.block _ (lt_of_blk h.x5)).trans h.x5, (hb.block _ (lt_of_blk h.x6)).trans h.x6, (hb.block _ (lt_of_blk h.x9)).trans h.x9, h.get, h.good, h.far, h.low, h.may, h.how⟩
theorem AMid.not {now pb b5 b6 b9 k : Nat} {x : Pk} {rv rv1 : Value} {D D1 : List Dg} {w W : World} {P : List Value} {d : Dg} (h : AMid now x pb rv D w P b5 b6 b9 W rv1 D1 k d) {b : Nat} (hb : w.heap.size ≤ b ∧ b ≤ b9) : ¬ (foot pb rv1 D1 b ∨ bods D1 b) := fun hf => by have := h.far b hf; omega
/-- a part more -/
def Dg.grown (d : Dg) (v : Value) (e : El) : Dg := { d with v := v, L := d.L ++ [e] }
theorem mid_grow {pb k : Nat} {rv rv1 v' : Value} {D D1 : List Dg} {w W w8 : World} {d : Dg} {e : El} {o : Obj} (hm : AddMem pb rv D w W rv1 D1) (hk : D1[k]? = some d) (hx : PkOk e.pk) (hl : e.pk.body.length ≤ 1000000) (hbody : BodyAt W e) (hfr : ∀ g, e.adr = some ⟨g, 0, none⟩ → w.heap.size ≤ g ∧ ¬ bods D1 g)
    (h32 : d.L.length ≠ 32) (ho : w8.ownsRow 0 43 40 v' (d.L.length + 1) (d.L.flatMap El.cells ++ e.cells)) (hg : (W.alloc o).grownBy w8 d.v.ownBlock) (hwh : v'.ownBlock = d.v.ownBlock ∨ v'.ownBlock = some (W.alloc o).heap.size) :
    w8.heap[d.blk]? = some (.cells d.cells.toArray 75 (0, 0)) ∧ AddMem pb rv D w (w8.setCell ⟨d.blk, 35, none⟩ v') rv1 (D1.set k (d.grown v' e)) ∧ ∀ b, b < W.heap.size → ¬ foot pb rv1 D1 b → (w8.setCell ⟨d.blk, 35, none⟩ v').heap[b]? = W.heap[b]? ∧ w8.heap[b]? = W.heap[b]? := by
  have hdm := List.mem_of_getElem? hk
  have hda := hm.pool.each d hdm
  have hal : Below W.heap.size W (W.alloc o) := (Below.refl _ _).alloc (Nat.le_refl _) _
  have hold8 : ∀ i, i < W.heap.size → d.v.ownBlock ≠ some i → w8.heap[i]? = W.heap[i]? := fun i hi h2 =>
    (hg.block i (by have := hal.size; omega) (fun e => h2 e.symm)).trans (hal.block i hi)
  have hne : d.v.ownBlock ≠ some d.blk := fun e => by have := (hda.kdv e).one hda.kdb; omega
  have hb8 : w8.heap[d.blk]? = some (.cells d.cells.toArray 75 (0, 0)) := (hold8 _ (lt_of_blk hda.blk) hne).trans hda.blk
  have t := Turned.setCell hb8 35 v'
  have hset : d.cells.toArray.setIfInBounds 35 v' = (d.grown v' e).cells.toArray := by
    unfold Dg.cells
    rw [show (35 : Nat) = 33 + 2 from rfl, dg_set hda.src hda.dst]
    rfl
  rw [hset] at t
  obtain ⟨W9, hW9⟩ : ∃ W, W = w8.setCell ⟨d.blk, 35, none⟩ v' := ⟨_, rfl⟩
  rw [← hW9] at t ⊢
  have hk9 : Kept d.foot W W9 := by
    refine (Kept.of_below hal (Nat.le_refl _)).trans (G := d.foot) ?_ (fun i _ h => h)
    exact (Kept.of_grown hg (fun q hq => .inr hq)).trans (G := d.foot) (Kept.of_turned t (.inl rfl)) (fun i _ h => h)
  have hnd : v'.ownBlock ≠ some d.blk := fun e => by
    obtain ⟨cur, hc⟩ := own_type ho e
    rw [hb8] at hc; cases hc
  have h5 : ∀ i, Kd W i 5 → ¬ d.foot i := by
    rintro i hi (rfl | hf)
    · have := hi.one hda.kdb; omega
    · have := hi.one (hda.kdv hf); omega
  have hdg : DgAt W9 (d.grown v' e) := by
    refine ⟨t.get (lt_of_blk hb8), hda.src, hda.dst, hda.src8, hda.dst8, hda.id, hda.over, ?_, ?_, ?_⟩
    · show W9.ownsRow 0 43 40 v' (d.L ++ [e]).length ((d.L ++ [e]).flatMap El.cells)
      rw [List.length_append, List.flatMap_append, List.flatMap_cons, List.flatMap_nil, List.append_nil]
      exact own_keep ho (fun q hq => t.other (fun x => hnd (x ▸ hq)))
    · intro y hy
      rcases List.mem_append.1 hy with hy | hy
      · have hye := hda.each y hy
        refine ⟨hye.1, hye.2.1.keep (fun g hg' => ?_) hk9.size, hye.2.2⟩
        obtain ⟨cur, hc⟩ := body_type hye.2.1 hg'
        exact hk9.block g (lt_of_blk hc) (h5 g ⟨_, _, hc⟩)
      · rw [List.mem_singleton] at hy; subst hy
        refine ⟨hx, hbody.keep (fun g hg' => ?_) hk9.size, hl⟩
        obtain ⟨cur, hc⟩ := body_type hbody hg'
        exact hk9.block g (lt_of_blk hc) (h5 g ⟨_, _, hc⟩)
    · show (d.L ++ [e]).length ≤ 32
      rw [List.length_append, List.length_singleton]
      have := hda.many; omega
  refine ⟨hb8, hm.set hk rfl hdg hk9 (fun g hg' => ?_) (fun g hg' => ?_) ?_, fun b hb hf => ?_⟩
  · rcases hwh with x | x
    · exact .inl (x ▸ hg')
    · have := Option.some.inj (x.symm.trans hg')
      have := hal.size
      exact .inr (by omega)
  · obtain ⟨y, hy, ha⟩ := hg'
    rcases List.mem_append.1 hy with hy | hy
    · exact .inl ⟨y, hy, ha⟩
    · rw [List.mem_singleton] at hy; subst hy
      exact .inr (hfr g ha).1
  · exact Sep.set hk (.inr ⟨e, rfl, fun g hg => (hfr g hg).2⟩)
  · have h1 : d.v.ownBlock ≠ some b := fun x => hf (.inr (.inr ⟨d, hdm, .inr x⟩))
    have h2 : b ≠ d.blk := fun x => hf (.inr (.inr ⟨d, hdm, .inl x⟩))
    exact ⟨(t.other h2).trans (hold8 b hb h1), hold8 b hb h1⟩
theorem wp_buildSlice1 {P : Program} {o : Oper} {a : Act} {w : World} {K : Act → World → Prop} {Q : Exit → Act → World → Prop} (t e : TypeId) (len i0 : Nat) (x0 : Operand) (ho : o.op = .buildSlice t len #[(i0, x0)]) (v0 : Value) (h0 : a.eval x0 = v0)
    (cells : Array Value) (ie : TypeInfo) (z : Value)
    (hu : P.underlying t = some (.slice e)) (hie : P.info? e = some ie) (hz : ie.zero = some z) (hsmall : ¬ len * ie.size > 2 ^ 24) (hpos : ¬ len * ie.size = 0)
    (hf : Instr.fill (fun i => some (i * ie.size, ie.size)) ((Array.range (len * ie.size)).map (z.cells[· % z.cells.size]!)) [(i0, v0)] = some cells)
    (h : K (a.put o.dst (.slice (some ⟨w.heap.size, 0, none⟩) len len)) (w.alloc (.cells cells e))) : o.wp P a w K Q := by
  refine wp_buildSlice t e len _ ho cells ie z hu hie hz hsmall hpos ?_ h
  have e : ((#[(i0, x0)] : Array (Nat × Operand)).map fun (i, x) => (i, a.eval x)).toList = [(i0, v0)] := by simp [h0]
  rw [e]; exact hf
theorem PoolAt.not43 {w : World} {pb : Nat} {rv : Value} {D : List Dg} (h : PoolAt w pb rv D) {b : Nat} {cs : Array Value} (hb : w.heap[b]? = some (.cells cs 43 (0, 0))) (hv : ∀ d ∈ D, d.v.ownBlock ≠ some b) : ¬ (foot pb rv D b ∨ bods D b) := by
  have hk : Kd w b 43 := ⟨_, _, hb⟩
  rintro ((rfl | hi | ⟨d, hd, rfl | hi⟩) | ⟨d, hd, hi⟩)
  · have := hk.one h.kdp; omega
  · have := hk.one (h.kdr hi); omega
  · have := hk.one (h.each d hd).kdb; omega
  · exact hv d hd hi
  · have := hk.one ((h.each d hd).kdo hi); omega
theorem PoolAt.not71 {w : World} {pb : Nat} {rv : Value} {D : List Dg} (h : PoolAt w pb rv D) {b : Nat} {cs : Array Value} (hb : w.heap[b]? = some (.cells cs 71 (0, 0))) (hv : rv.ownBlock ≠ some b) : ¬ (foot pb rv D b ∨ bods D b) := by
  have hk : Kd w b 71 := ⟨_, _, hb⟩
  rintro ((rfl | hi | ⟨d, hd, rfl | hi⟩) | ⟨d, hd, hi⟩)
  · have := hk.one h.kdp; omega
  · exact hv hi
  · have := hk.one (h.each d hd).kdb; omega
  · have := hk.one ((h.each d hd).kdv hi); omega
  · have := hk.one ((h.each d hd).kdo hi); omega
theorem map_erase {α β : Type} (f : α → β) : ∀ (l : List α) (i : Nat), (l.eraseIdx i).map f = (l.map f).eraseIdx i
  | [], _ => rfl
  | _ :: _, 0 => rfl
  | a :: l, i + 1 => by simp [map_erase f l i]
theorem set_erase {α : Type} (a : α) : ∀ (l : List α) (i : Nat), (l.set i a).eraseIdx i = l.eraseIdx i
  | [], _ => rfl
  | _ :: _, 0 => rfl
  | b :: l, i + 1 => by simp [set_erase a l i]
theorem dg35 {w : World} {d : Dg} (h : DgAt w d) : d.cells.toArray[35]? = some d.v := by
  have := Dg.tail h 2
  rw [cell_blk h.blk] at this
  exact this
theorem size43' : (Try.prog.info? 43).map (·.size) = some zeroP.toArray.size := by rw [List.size_toArray, zeroP_length]; exact size43
/-- a datagram's own block and a new pointer: what the pool is behind the append -/
theorem mid_fresh {pb now bd b5 b6 b9 ov : Nat} {x : Pk} {rv v' : Value} {D : List Dg} {w W6 w8 : World} {P : List Value} (hp : PoolAt w pb rv D) (hx : PkOk x)
    (hab : AB w P b5 b6 W6) (hx9 : W6.heap[b9]? = some (.cells #[.pointer (some ⟨bd, 0, none⟩)] 71 (0, 0))) (hxd : W6.heap[bd]? = some (.cells (nmL x.src x.dst x.id ++ [Value.int .u64 (ov : Int), .bool false, .slice none 0 0]).toArray 75 (0, 0)))
    (hlow : w.heap.size ≤ b5 ∧ b5 < b6 ∧ b6 < b9) (hbd : b9 < bd) (hov : ov = addU now 60000) (hn : now < 18446744073709551616) (h4 : D.length ≠ 4) (hno : FirstS (D.map Dg.abs) x none) (hmay : mayB x = true)
    (ho : w8.ownsRow 0 71 1 v' (D.length + 1) (D.map ptrTo ++ [.pointer (some ⟨bd, 0, none⟩)])) (hg : (W6.alloc (.cells #[.pointer (some ⟨bd, 0, none⟩)] 71)).grownBy w8 rv.ownBlock)
    (hwh : v'.ownBlock = rv.ownBlock ∨ v'.ownBlock = some (W6.alloc (.cells #[.pointer (some ⟨bd, 0, none⟩)] 71)).heap.size) :
    w8.heap[pb]? = some (.cells #[rv, .bool true] 58 (0, 0)) ∧ w8.heap[b9]? = some (.cells #[.pointer (some ⟨bd, 0, none⟩)] 71 (0, 0)) ∧ AMid now x pb rv D w P b5 b6 b9 (w8.setCell ⟨pb, 0, none⟩ v') v' (D ++ [Dg.fresh bd x ov]) D.length (Dg.fresh bd x ov) ∧ (w8.setCell ⟨pb, 0, none⟩ v').heap[b9]? = some (.cells #[.pointer (some ⟨bd, 0, none⟩)] 71 (0, 0)) := by
  have h67 : Below W6.heap.size W6 (W6.alloc (.cells #[.pointer (some ⟨bd, 0, none⟩)] 71)) := (Below.refl _ _).alloc (Nat.le_refl _) _
  have hpk : w.heap[pb]? = some (.cells #[rv, .bool true] 58 (0, 0)) := hp.blk
  have h78 : Below w.heap.size w (W6.alloc (.cells #[.pointer (some ⟨bd, 0, none⟩)] 71)) := (hab.step h67).old
  have hneP : rv.ownBlock ≠ some pb := fun e => by have := (hp.kdr e).one hp.kdp; omega
  have hb8 : w8.heap[pb]? = some (.cells #[rv, .bool true] 58 (0, 0)) := ((hg.block pb (by have := h78.size; have := lt_of_blk hpk; omega) (fun e => hneP e.symm)).trans (h78.block pb (lt_of_blk hpk))).trans hpk
  have t8 := Turned.setCell hb8 0 v'
  have hset : (#[rv, Value.bool true] : Array Value).setIfInBounds 0 v' = #[v', .bool true] := rfl
  rw [hset] at t8
  have hnd : v'.ownBlock ≠ some pb := fun e => by
    obtain ⟨cur, hc⟩ := own_type ho e
    rw [hb8] at hc; cases hc
  obtain ⟨W9, hW9⟩ : ∃ W, W = w8.setCell ⟨pb, 0, none⟩ v' := ⟨_, rfl⟩
  rw [← hW9] at t8 ⊢
  have hk9 : Kept (fun i => i = pb ∨ rv.ownBlock = some i) w W9 := by
    refine (Kept.of_below h78 (Nat.le_refl _)).trans (G := fun i => i = pb ∨ rv.ownBlock = some i) ?_ (fun i _ h => h)
    exact (Kept.of_grown hg (fun q hq => .inr hq)).trans (G := fun i => i = pb ∨ rv.ownBlock = some i) (Kept.of_turned t8 (.inl rfl)) (fun i _ h => h)
  have hrw9 : W9.ownsRow 0 71 1 v' (D.length + 1) (D.map ptrTo ++ [ptrTo (Dg.fresh bd x ov)]) :=
    own_keep ho (fun q hq => t8.other (fun e => hnd (e ▸ hq)))
  have hold8 : ∀ i, i < W6.heap.size → rv.ownBlock ≠ some i → w8.heap[i]? = W6.heap[i]? := fun i hi h2 =>
    (hg.block i (by have := h67.size; omega) (fun e => h2 e.symm)).trans (h67.block i hi)
  have hold9 : ∀ i, i < W6.heap.size → i ≠ pb → rv.ownBlock ≠ some i → W9.heap[i]? = W6.heap[i]? := fun i hi h1 h2 => (t8.other h1).trans (hold8 i hi h2)
  have hpbl : pb < w.heap.size := lt_of_blk hpk
  have hrvl : ∀ i, rv.ownBlock = some i → i < w.heap.size := fun i hi => own_lt hp.row hi
  have hx59 := (hold9 b5 (lt_of_blk hab.x5) (by omega) (fun e => by have := hrvl _ e; omega)).trans hab.x5
  have hx69 := (hold9 b6 (lt_of_blk hab.x6) (by omega) (fun e => by have := hrvl _ e; omega)).trans hab.x6
  have hx99 := (hold9 b9 (lt_of_blk hx9) (by omega) (fun e => by have := hrvl _ e; omega)).trans hx9
  have hx89 := (hold8 b9 (lt_of_blk hx9) (fun e => by have := hrvl _ e; omega)).trans hx9
  have hxd9 := (hold9 bd (lt_of_blk hxd) (by omega) (fun e => by have := hrvl _ e; omega)).trans hxd
  have hov9 : ov < 18446744073709551616 := by
    rw [hov]; unfold addU; split
    · omega
    · split <;> omega
  have hdg9 : DgAt W9 (Dg.fresh bd x ov) := ⟨hxd9, hx.src, hx.dst, hx.src8, hx.dst8, hx.id, hov9, World.ownsRow_nil _ _ _ _, fun e he => (by cases he), (by show (0 : Nat) ≤ 32; omega)⟩
  have h67s : W6.heap.size ≤ (W6.alloc (.cells #[.pointer (some ⟨bd, 0, none⟩)] 71)).heap.size := h67.size
  have hro9 : ∀ g, v'.ownBlock = some g → rv.ownBlock = some g ∨ b9 < g := fun g hg' => by
    rcases hwh with e | e
    · exact .inl (by rw [← e]; exact hg')
    · rw [e] at hg'
      have := lt_of_blk hx9
      have := Option.some.inj hg'
      exact .inr (by omega)
  have hmem : AddMem pb rv D w W9 v' (D ++ [Dg.fresh bd x ov]) := hp.add h4 (by show w.heap.size ≤ bd; omega) hdg9 rfl rfl hk9 (t8.get (lt_of_blk hb8)) hrw9 (fun g hg' => (hro9 g hg').imp id (fun h => by omega))
  refine ⟨hb8, hx89, ?_, hx99⟩
  exact {
    mem := hmem
    x5 := hx59
    x6 := hx69
    x9 := hx99
    get := by rw [List.getElem?_append_right (Nat.le_refl _)]; simp
    good := rfl
    far := fun i hi => by
      rcases hi with (rfl | hi | ⟨b, hbm, hi⟩) | ⟨b, hbm, hi⟩
      · exact .inl hpbl
      · exact (hro9 i hi).imp (hrvl i) id
      · rcases List.mem_append.1 hbm with hbm | hbm
        · exact .inl (hp.lt (.inl (.inr (.inr ⟨b, hbm, hi⟩))))
        · rw [List.mem_singleton] at hbm; subst hbm
          rcases hi with rfl | hi
          · exact .inr hbd
          · cases hi
      · rcases List.mem_append.1 hbm with hbm | hbm
        · exact .inl (hp.lt (.inr ⟨b, hbm, hi⟩))
        · rw [List.mem_singleton] at hbm; subst hbm
          obtain ⟨e, he, _⟩ := hi
          cases he
    low := hlow
    may := hmay
    how := .inr ⟨hno, by rw [List.length_map]; exact h4, by rw [List.map_append, List.map_cons, List.map_nil, hov]; rfl, by rw [List.length_map]⟩ }
set_option maxRecDepth 100000 in
set_option maxHeartbeats 8000000 in
theorem add16 {P : List Value} {x : Pk} {A : Option Addr} {c pb now : Nat} {rv : Value} {D : List Dg} (w : World) (h : PoolAt w pb rv D) (hx : PkAt P x A c) (hb : Bs w w.heap.size A c x.body) (hl : x.body.length ≤ 1000000) (hb5 : A = none ∨ ∃ g o cur, A = some ⟨g, o, none⟩ ∧ w.heap[g]? = some (.cells cur 5 (0, 0))) (hn : now < 18446744073709551616) :
    Calls Try.prog 16 #[.pointer (some ⟨pb, 0, none⟩), .int .u64 (now : Int), .agg P.toArray] w (AddRes pb rv D now x w) := by
  have HB5 := Lib.hid hb5
  clear hb5
  obtain ⟨V, hV⟩ : ∃ V, V = (w.alloc (.cells P.toArray 43)).alloc (.cells zeroP.toArray 43) := ⟨_, rfl⟩
  have hal : Below w.heap.size w V := by rw [hV]; exact ((Below.refl _ _).alloc (Nat.le_refl _) _).alloc (by simp) _
  have hx5 : V.heap[w.heap.size]? = some (.cells P.toArray 43 (0, 0)) := by rw [hV]; exact heap_alloc2_old _ _ _
  have hx6 : V.heap[w.heap.size + 1]? = some (.cells zeroP.toArray 43 (0, 0)) := by rw [hV]; exact heap_alloc2_new _ _ _
  have hVs : V.heap.size = w.heap.size + 2 := by rw [hV]; simp
  obtain ⟨b5, hb5⟩ : ∃ b, b = w.heap.size := ⟨_, rfl⟩
  obtain ⟨b6, hb6⟩ : ∃ b, b = w.heap.size + 1 := ⟨_, rfl⟩
  rw [← hb5] at hx5
  rw [← hb6] at hx6
  have HAB : Hid (AB w P b5 b6 V) := Lib.hid ⟨hal, hx5, hx6⟩
  have H6 : Hid (b5 = w.heap.size ∧ b6 = w.heap.size + 1 ∧ V.heap.size = w.heap.size + 2) := Lib.hid ⟨hb5, hb6, hVs⟩
  have HSZ := Lib.hid size43
  have HX := Lib.hid hx
  have HLEN := Lib.hid hx.len
  have HONE := Lib.hid hx.one
  have HZL := Lib.hid zeroP_length
  have HZ1 := Lib.hid zeroP_one
  have HBS := Lib.hid hb
  have HL := Lib.hid hl
  have HN := Lib.hid hn
  have HP := Lib.hid h
  have HAL := Lib.hid hal
  have c0 : V.cell? ⟨pb, 1, none⟩ = some (.bool true) := by rw [cell_blk (HP.out.below HAB.out.old).blk]; rfl
  have c34 := box_cell hx5 (hx.tail 2)
  have HZZ := Lib.hid zeroP_lit
  obtain ⟨is, his⟩ : ∃ b, b = x.is := ⟨_, rfl⟩
  rw [← his] at c34
  have HIS := Lib.hid his
  clear h hx hb hl hn hal hx5 hx6 hVs his
  go_enter Try.func16, Try.ntmps16
  go_upto_region 1 with (fail)
  rw [HZZ.out, ← hV, ← hb6, ← hb5]
  clear hV hb5 hb6 HZZ
  cases is with
  | false =>
    have R6 := Lib.hid (row_of HAB.out.x6)
    go_wp2_with (first | (refine wpList_load_mid rfl 43 (.tmp 6) ?ho b6 0 ?hx zeroP _ ?hr Try.underlying43 rfl ?hi ?_; (case ho => with_reducible rfl); (case hx => rfl); (case hr => exact R6.out); (case hi => rw [HZL.out]; exact HSZ.out)) | (refine wpList_store_row rfl 43 (.tmp 6) (.tmp 25) ?ho b6 zeroP.toArray ?hx ?hy 43 zeroP.toArray HAB.out.x6 ?hi ?hc ?h1 ?_; (case ho => with_reducible rfl); (case hx => rfl); (case hy => rfl); (case hi => rw [List.size_toArray, HZL.out]; exact HSZ.out); (case hc => simp only [List.size_toArray, HZL.out, HZL.out]); (case h1 => exact all_oneCell_toArray HZ1.out)))
    have t := Turned.setRow HAB.out.x6 zeroP.toArray
    refine bodyPost_ret (results_row_tmp2 Try.results16 _ _ b6 43 _ (0, 0) _ rfl (t.get (lt_of_blk HAB.out.x6)) Try.underlying43 rfl size43') rfl ?_
    exact ⟨rv, D, none, true, zeroP, AddMem.below HP.out (HAB.out.step (t.same HAB.out.x6 _)).old, .inl ⟨HIS.out.symm, rfl, rfl, rfl⟩, rfl, fun _ => rfl, fun y hy => by cases hy⟩
  | true =>
    have H35 := Lib.hid (named35 V HX.out)
    have R5 := Lib.hid (row_of HAB.out.x5)
    go_wp2_with (first | (refine wpList_load_mid rfl 43 (.tmp 5) ?ho b5 0 ?hx P _ ?hr Try.underlying43 rfl ?hi ?_; (case ho => with_reducible rfl); (case hx => rfl); (case hr => exact R5.out); (case hi => rw [HLEN.out]; exact HSZ.out)))
    refine (H35.out).mono ?_
    rintro e w1 ⟨rfl, hb1⟩
    have HAB1 := Lib.hid (HAB.out.step hb1)
    have HS1 := Lib.hid hb1.size
    have H34 := Lib.hid (find34 (i := x.id) w1 (HP.out.below HAB1.out.old) HX.out.ok.src HX.out.ok.dst HX.out.ok.src8 HX.out.ok.dst8)
    clear hb1 H35
    go_wp2_with fail
    refine (H34.out).mono ?_
    rintro e w2 ⟨r, hr, rfl, hb2⟩
    have HAB2 := Lib.hid (HAB1.out.step hb2)
    obtain ⟨po, hpo⟩ : ∃ po, ptrK D r = .pointer po := by
      cases r with
      | none => exact ⟨none, rfl⟩
      | some k =>
        obtain ⟨d, hd, _⟩ := hr
        exact ⟨some ⟨d.blk, 0, none⟩, by simp only [ptrK, hd]; rfl⟩
    rw [hpo]
    obtain ⟨W0, hW0⟩ : ∃ W, W = w2.alloc (.cells #[.pointer po] 71) := ⟨_, rfl⟩
    have HAB0 : Hid (AB w P b5 b6 W0) := Lib.hid (by rw [hW0]; exact HAB2.out.step ((Below.refl _ _).alloc (Nat.le_refl _) _))
    obtain ⟨b9, hb9⟩ : ∃ b, b = w2.heap.size := ⟨_, rfl⟩
    have HX9 : Hid (W0.heap[b9]? = some (.cells #[.pointer po] 71 (0, 0))) := Lib.hid (by rw [hW0, hb9]; exact heap_alloc_new w2 _)
    have HLOW : Hid (w.heap.size ≤ b5 ∧ b5 < b6 ∧ b6 < b9) := Lib.hid (by have := H6.out; have := HS1.out; have := hb2.size; omega)
    have HPO := Lib.hid hpo; have HR := Lib.hid hr
    have hs9 : W0.heap.size = b9 + 1 := by rw [hW0, hb9]; simp
    have c9 : W0.cell? ⟨b9, 0, none⟩ = some (.pointer po) := by rw [cell_blk HX9.out]; rfl
    have HS9 := Lib.hid hs9
    have R50 := Lib.hid (row_of HAB0.out.x5)
    clear hr hpo hb2 c0 c34 H34 hs9
    go_upto_block 0 with (fail)
    rw [← hW0, ← hb9]
    clear hW0 hb9
    go_cut [] from 30 (fun wx => ∃ rv1 D1 k d, AMid now x pb rv D w P b5 b6 b9 wx rv1 D1 k d)
    case first =>
      have H36 := Lib.hid (may36 W0 HX.out (by have := HL.out; omega))
      go_wp2_with (first | (refine wpList_load_mid rfl 43 (.tmp 5) ?ho b5 0 ?hx P _ ?hr Try.underlying43 rfl ?hi ?_; (case ho => with_reducible rfl); (case hx => rfl); (case hr => exact R50.out); (case hi => rw [HLEN.out]; exact HSZ.out)))
      refine (H36.out).mono ?_
      rintro e w3 ⟨rfl, hb3⟩
      have HAB3 := Lib.hid (HAB0.out.step hb3)
      have HX93 := Lib.hid ((hb3.block b9 (lt_of_blk HX9.out)).trans HX9.out)
      have d9 : w3.cell? ⟨b9, 0, none⟩ = some (.pointer po) := by rw [cell_blk HX93.out]; rfl
      have HB3 := Lib.hid hb3.size
      clear hb3 c9 H36
      obtain ⟨mb, hmb⟩ : ∃ b, b = mayB x := ⟨_, rfl⟩
      rw [← hmb]
      have HMB := Lib.hid hmb
      clear hmb
      cases r with
      | none =>
        have e : po = none := by have := HPO.out; cases this; rfl
        subst e
        cases mb with
        | false =>
          have R6 := Lib.hid (row_of HAB3.out.x6)
          go_wp2_with (first | (refine wpList_load_mid rfl 43 (.tmp 6) ?ho b6 0 ?hx zeroP _ ?hr Try.underlying43 rfl ?hi ?_; (case ho => with_reducible rfl); (case hx => rfl); (case hr => exact R6.out); (case hi => rw [HZL.out]; exact HSZ.out)) | (refine wpList_store_row rfl 43 (.tmp 6) (.tmp 38) ?ho b6 zeroP.toArray ?hx ?hy 43 zeroP.toArray HAB3.out.x6 ?hi ?hc ?h1 ?_; (case ho => with_reducible rfl); (case hx => rfl); (case hy => rfl); (case hi => rw [List.size_toArray, HZL.out]; exact HSZ.out); (case hc => simp only [List.size_toArray, HZL.out, HZL.out]); (case h1 => exact all_oneCell_toArray HZ1.out)))
          have t := Turned.setRow HAB3.out.x6 zeroP.toArray
          refine bodyPost_ret (results_row_tmp2 Try.results16 _ _ b6 43 _ (0, 0) _ rfl (t.get (lt_of_blk HAB3.out.x6)) Try.underlying43 rfl size43') rfl ?_
          exact ⟨rv, D, none, true, zeroP, AddMem.below HP.out (HAB3.out.step (t.same HAB3.out.x6 _)).old, .inr (.inl ⟨HIS.out.symm, HMB.out.symm, .inl ⟨HR.out.abs, rfl⟩, rfl, rfl⟩), rfl, fun _ => rfl, fun y hy => by cases hy⟩
        | true =>
          obtain ⟨A1, c1, hrv, -⟩ := (HP.out.below HAB3.out.old).ptrs
          have d0 : w3.cell? ⟨pb, 0, none⟩ = some (.slice A1 D.length c1) := by rw [cell_blk (HP.out.below HAB3.out.old).blk, hrv]; rfl
          have HRV := Lib.hid hrv
          have h4 := (HP.out.below HAB3.out.old).four
          obtain ⟨n, hn'⟩ : ∃ n, n = D.length := ⟨_, rfl⟩
          have HNN := Lib.hid hn'
          rw [← hn'] at d0 h4
          clear hrv hn'
          by_cases hn4 : n = 4
          · have t4 : ((n : Int) == 4) = true := by rw [beq_iff_eq]; omega
            have HN4 := Lib.hid hn4
            clear hn4
            have R6 := Lib.hid (row_of HAB3.out.x6)
            go_wp2_with (first | (refine wpList_load_mid rfl 43 (.tmp 6) ?ho b6 0 ?hx zeroP _ ?hr Try.underlying43 rfl ?hi ?_; (case ho => with_reducible rfl); (case hx => rfl); (case hr => exact R6.out); (case hi => rw [HZL.out]; exact HSZ.out)) | (refine wpList_store_row rfl 43 (.tmp 6) (.tmp 58) ?ho b6 zeroP.toArray ?hx ?hy 43 zeroP.toArray HAB3.out.x6 ?hi ?hc ?h1 ?_; (case ho => with_reducible rfl); (case hx => rfl); (case hy => rfl); (case hi => rw [List.size_toArray, HZL.out]; exact HSZ.out); (case hc => simp only [List.size_toArray, HZL.out, HZL.out]); (case h1 => exact all_oneCell_toArray HZ1.out)))
            have t := Turned.setRow HAB3.out.x6 zeroP.toArray
            refine bodyPost_ret (results_row_tmp2 Try.results16 _ _ b6 43 _ (0, 0) _ rfl (t.get (lt_of_blk HAB3.out.x6)) Try.underlying43 rfl size43') rfl ?_
            exact ⟨rv, D, none, true, zeroP, AddMem.below HP.out (HAB3.out.step (t.same HAB3.out.x6 _)).old, .inr (.inr (.inr (.inl ⟨HIS.out.symm, HMB.out.symm, HR.out.abs, by rw [List.length_map, ← HNN.out, HN4.out], rfl, rfl, rfl⟩))), rfl, fun _ => rfl, fun y hy => by cases hy⟩
          · have t4 : ((n : Int) == 4) = false := by rw [beq_eq_false_iff_ne]; omega
            have HN4 := Lib.hid hn4
            clear hn4
            have H35 := Lib.hid (named35 w3 HX.out)
            have R53 := Lib.hid (row_of HAB3.out.x5)
            go_upto_region 12 with (fail)
            go_wp2_with (first | (refine wpList_load_mid rfl 43 (.tmp 5) ?ho b5 0 ?hx P _ ?hr Try.underlying43 rfl ?hi ?_; (case ho => with_reducible rfl); (case hx => rfl); (case hr => exact R53.out); (case hi => rw [HLEN.out]; exact HSZ.out)))
            refine (H35.out).mono ?_
            rintro e w4 ⟨rfl, hb4⟩
            have HAB4 := Lib.hid (HAB3.out.step hb4)
            have HX94 := Lib.hid ((hb4.block b9 (lt_of_blk HX93.out)).trans HX93.out)
            have HB4 := Lib.hid hb4.size
            have H38 : Hid (Calls Try.prog 38 #[.int .u64 (now : Int), .int .u64 60000] w4 fun e w' => e = .returned (.int .u64 (addU now 60000 : Int)) ∧ w4 = w') := Lib.hid (add38 (b := 60000) w4 HN.out (by omega))
            have HBU := Lib.hid (built75 (i := x.id) (o := addU now 60000) HX.out.ok.src HX.out.ok.dst)
            have HNL : Hid (∀ u, ((nmL x.src x.dst x.id ++ [Value.int .u64 (u : Int), .bool false, .slice none 0 0]).toArray).size = 36) := Lib.hid fun u => by simp [nmL_length HX.out.ok.src HX.out.ok.dst]
            obtain ⟨ov, hov⟩ : ∃ o, o = addU now 60000 := ⟨_, rfl⟩
            rw [← hov] at H38 HBU
            have HOV := Lib.hid hov
            obtain ⟨DC, hDC⟩ : ∃ D, D = (nmL x.src x.dst x.id ++ [Value.int .u64 (ov : Int), .bool false, .slice none 0 0]).toArray := ⟨_, rfl⟩
            rw [← hDC] at HBU
            have HDC := Lib.hid hDC
            obtain ⟨W4, hW4⟩ : ∃ W, W = w4.alloc (.cells DC 75) := ⟨_, rfl⟩
            have hb45 : Below w4.heap.size w4 W4 := by rw [hW4]; exact (Below.refl _ _).alloc (Nat.le_refl _) _
            have HAB5 := Lib.hid (HAB4.out.step hb45)
            have HX95 := Lib.hid ((hb45.block b9 (lt_of_blk HX94.out)).trans HX94.out)
            have HXD : Hid (W4.heap[w4.heap.size]? = some (.cells DC 75 (0, 0))) := Lib.hid (by rw [hW4]; exact heap_alloc_new w4 _)
            have HW4s : Hid (W4.heap.size = w4.heap.size + 1) := Lib.hid (by rw [hW4]; simp)
            have HW4 := Lib.hid hW4
            have e9 : w4.cell? ⟨b9, 0, none⟩ = some (.pointer none) := by rw [cell_blk HX94.out]; rfl
            have fe9 : (w4.alloc (.cells DC 75)).frozen? ⟨b9, 0, none⟩ = false := by rw [← hW4]; exact frozen_blk HX95.out 0
            have e9b : (w4.alloc (.cells DC 75)).cell? ⟨b9, 0, none⟩ = some (.pointer none) := by rw [← hW4, cell_blk HX95.out]; rfl
            clear hb4 hov hDC hW4 hb45 H35
            go_wp2_with fail
            refine (H38.out).mono ?_
            rintro e w5 ⟨rfl, rfl⟩
            clear H38
            go_upto_region 13 with (first | (refine wpList_build2 rfl 75 0 1 _ _ rfl (.agg (nmL x.src x.dst x.id).toArray) (.int .u64 (ov : Int)) rfl rfl DC HBU.out ?_))
            try rw [← HW4.out]
            have t9 := Turned.setCell HX95.out 0 (.pointer (some ⟨w4.heap.size, 0, none⟩))
            obtain ⟨W5, hW5⟩ : ∃ W, W = W4.setCell ⟨b9, 0, none⟩ (.pointer (some ⟨w4.heap.size, 0, none⟩)) := ⟨_, rfl⟩
            rw [← hW5] at t9 ⊢
            have hlow := HLOW.out
            have hw4l : b9 < w4.heap.size := lt_of_blk HX94.out
            have HAB6 := Lib.hid (HAB5.out.aside t9 (by omega) (by omega) (by omega))
            have HX96 : Hid (W5.heap[b9]? = some (.cells #[.pointer (some ⟨w4.heap.size, 0, none⟩)] 71 (0, 0))) := Lib.hid (t9.get (lt_of_blk HX95.out))
            have HXD6 : Hid (W5.heap[w4.heap.size]? = some (.cells DC 75 (0, 0))) := Lib.hid ((t9.other (by omega)).trans HXD.out)
            have g0 : W5.cell? ⟨pb, 0, none⟩ = some (.slice A1 n c1) := by rw [cell_blk (HP.out.below HAB6.out.old).blk, HRV.out, HNN.out]; rfl
            have g9 : W5.cell? ⟨b9, 0, none⟩ = some (.pointer (some ⟨w4.heap.size, 0, none⟩)) := by rw [cell_blk HX96.out]; rfl
            clear e9 fe9 e9b t9 hW5 d0
            obtain ⟨bd, hbd⟩ : ∃ b, b = w4.heap.size := ⟨_, rfl⟩
            rw [← hbd] at HX96 HXD6 g9 ⊢
            have HBD := Lib.hid hbd
            clear hbd
            obtain ⟨W6, hW6⟩ : ∃ W, W = W5.drew := ⟨_, rfl⟩
            have h56 : Below W5.heap.size W5 W6 := by rw [hW6]; exact (Below.refl _ _).drew
            have HAB7 := Lib.hid (HAB6.out.step h56)
            have HX97 := Lib.hid ((h56.block b9 (lt_of_blk HX96.out)).trans HX96.out)
            have HXD7 := Lib.hid ((h56.block bd (lt_of_blk HXD6.out)).trans HXD6.out)
            have g6 : W6.cell? ⟨pb, 0, none⟩ = some (.slice A1 n c1) := by rw [cell_blk (HP.out.below HAB7.out.old).blk, HRV.out, HNN.out]; rfl
            have h67 : Below W6.heap.size W6 (W6.alloc (.cells #[.pointer (some ⟨bd, 0, none⟩)] 71)) := (Below.refl _ _).alloc (Nat.le_refl _) _
            have g7 : (W6.alloc (.cells #[.pointer (some ⟨bd, 0, none⟩)] 71)).cell? ⟨pb, 0, none⟩ = some (.slice A1 n c1) := (h67.cell (p := ⟨pb, 0, none⟩) (lt_of_cell g6)).trans g6
            have HS7 : Hid ((W6.alloc (.cells #[.pointer (some ⟨bd, 0, none⟩)] 71)).heap[b9]? = some (.cells #[.pointer (some ⟨bd, 0, none⟩)] 71 (0, 0))) := Lib.hid ((h67.block b9 (lt_of_blk HX97.out)).trans HX97.out)
            have HROW : Hid ((W6.alloc (.cells #[.pointer (some ⟨bd, 0, none⟩)] 71)).ownsRow 0 71 1 (.slice A1 n c1) n (D.map ptrTo)) := Lib.hid (by
              have := (HP.out.below (HAB7.out.step h67).old).row
              rw [HRV.out, ← HNN.out] at this
              exact this)
            have HNR : Hid (Value.ownBlock (.slice A1 n c1) = rv.ownBlock) := Lib.hid (by rw [HRV.out, HNN.out])
            have HC2 : Hid (∀ j u, ([.pointer (some ⟨bd, 0, none⟩)] : List Value)[j]? = some u → (W6.alloc (.cells #[.pointer (some ⟨bd, 0, none⟩)] 71)).cell? ((⟨W6.heap.size, 0, none⟩ : Addr).add j) = some u) := Lib.hid (by
              intro j u hj
              rw [Addr.add_mid, Nat.zero_add]
              have c := cell_blk (heap_alloc_new W6 (.cells #[.pointer (some ⟨bd, 0, none⟩)] 71)) j
              exact c.trans (by simpa using hj))
            have HC1 : Hid (∀ u ∈ ([.pointer (some ⟨bd, 0, none⟩)] : List Value), u.oneCell' = true) := Lib.hid (by intro u hu; rw [List.mem_singleton] at hu; subst hu; rfl)
            have HBD9 : Hid (b9 < bd) := Lib.hid (by have := HBD.out; omega)
            have HN5 : Hid (D.length ≠ 4) := Lib.hid (by rw [← HNN.out]; exact HN4.out)
            obtain ⟨i71, hi, hz0, hz1, hz2⟩ := info_parts info71
            have hS : W6.heap[b9]? = some (.cells #[.pointer (some ⟨bd, 0, none⟩)] 71 (0, 0)) := HX97.out
            rw [hW6] at hS
            clear h67 h56 g0 g9
            refine wp_region_held_drew (S := fun W => W.heap[b9]? = some (.cells #[.pointer (some ⟨bd, 0, none⟩)] 71 (0, 0))) (by kernel_rfl) hS ?_
            rw [← hW6]
            clear hS hW6
            intro HS
            refine wpAnyH_take (i := 0) (v := ?_) rfl (by kernel_rfl) (by kernel_rfl) (by kernel_rfl) (fun _ _ _ h => h) (Or.inl ⟨by go_simp, ?hy⟩) HS ?_
            case hy => intro W hW; go_simp; (try with_reducible rfl)
            try simp only [List.getElem_toArray, List.getElem_cons_zero, List.getElem_cons_succ, Act.put, List.setIfInBounds_toArray, List.set_cons_zero, List.set_cons_succ]
            refine wpAnyH_take (i := 1) (v := ?_) rfl (by kernel_rfl) (by kernel_rfl) (by kernel_rfl) (fun _ _ _ h => h) (Or.inl ⟨by go_simp, ?hy⟩) HS ?_
            case hy => intro W hW; go_simp; (try with_reducible rfl)
            try simp only [List.getElem_toArray, List.getElem_cons_zero, List.getElem_cons_succ, Act.put, List.setIfInBounds_toArray, List.set_cons_zero, List.set_cons_succ]
            refine wpAnyH_take (i := 2) (v := ?_) rfl (by kernel_rfl) (by kernel_rfl) (by kernel_rfl) (fun _ _ _ h => h) (Or.inl ⟨by go_simp, ?hy⟩) HS ?_
            case hy => intro W hW; go_simp; (try with_reducible rfl)
            try simp only [List.getElem_toArray, List.getElem_cons_zero, List.getElem_cons_succ, Act.put, List.setIfInBounds_toArray, List.set_cons_zero, List.set_cons_succ]
            refine wpAnyH_take (i := 3) (v := ?_) rfl (by kernel_rfl) (by kernel_rfl) (by kernel_rfl) (fun _ _ _ h => h) (Or.inl ⟨by go_simp, ?hy⟩) HS ?_
            case hy => intro W hW; go_simp; (try with_reducible rfl)
            try simp only [List.getElem_toArray, List.getElem_cons_zero, List.getElem_cons_succ, Act.put, List.setIfInBounds_toArray, List.set_cons_zero, List.set_cons_succ]
            refine wpAnyH_take (i := 5) (v := ?_) rfl (by kernel_rfl) (by kernel_rfl) (by kernel_rfl) (fun _ _ _ h => h) (Or.inl ⟨by go_simp, ?hy⟩) HS ?_
            case hy => intro W hW; have d := cell_blk hW 0; go_simp; (try with_reducible rfl)
            try simp only [List.getElem_toArray, List.getElem_cons_zero, List.getElem_cons_succ, Act.put, List.setIfInBounds_toArray, List.set_cons_zero, List.set_cons_succ]
            refine wpAnyH_ready (rs := [4, 6]) (by kernel_rfl) (by simp) ?_
            refine AllReadyH.cons rfl (fun K hK => ?_) (AllReadyH.cons rfl (fun K hK => ?_) AllReadyH.nil)
            · rw [if_pos (by kernel_rfl)]
              simp only [List.getElem_toArray, List.getElem_cons_zero, List.getElem_cons_succ]
              go_simp
              refine hK.out _ _ HS (fun HS => ?_)
              clear hK
              try simp only [List.getElem_toArray, List.getElem_cons_zero, List.getElem_cons_succ, Act.put, List.setIfInBounds_toArray, List.set_cons_zero, List.set_cons_succ]
              refine wpAnyH_ready (rs := [6]) (by kernel_rfl) (by simp) ?_
              refine AllReadyH.cons rfl (fun K hK => ?_) AllReadyH.nil
              rw [if_pos (by kernel_rfl)]
              simp only [List.getElem_toArray, List.getElem_cons_zero, List.getElem_cons_succ]
              go_simp
              refine hK.out _ _ HS7.out (fun HS => ?_)
              clear hK
              try simp only [List.getElem_toArray, List.getElem_cons_zero, List.getElem_cons_succ, Act.put, List.setIfInBounds_toArray, List.set_cons_zero, List.set_cons_succ]
              refine wpAnyH_ready (rs := [7]) (by kernel_rfl) (by simp) ?_
              refine AllReadyH.cons rfl (fun K hK => ?_) AllReadyH.nil
              rw [if_pos (by kernel_rfl)]
              simp only [List.getElem_toArray, List.getElem_cons_zero, List.getElem_cons_succ]
              refine wp_append_own2 _ _ _ 56 rfl 0 71 i71 (.pointer none) 1 8 Try.underlying56 hi hz0 hz1 hz2 rfl (by decide) (.slice A1 n c1) n (D.map ptrTo) rfl HROW.out ⟨W6.heap.size, 0, none⟩ 1 1 [.pointer (some ⟨bd, 0, none⟩)] (by decide) rfl rfl HC2.out HC1.out (by unfold maxLen; omega) (by omega) (Nat.zero_le _) ?_
              intro v' w8 ho hg hwh
              obtain ⟨hb8, hb9, hmid, hb10⟩ := mid_fresh (now := now) HP.out HX.out.ok HAB7.out HX97.out (by have := HXD7.out; rw [HDC.out] at this; exact this) HLOW.out HBD9.out HOV.out HN.out HN5.out HR.out.abs HMB.out.symm (by rw [← HNN.out]; exact ho) (by rw [← HNR.out]; exact hg) (by rw [← HNR.out]; exact hwh)
              obtain ⟨q2, c2, hv2, -⟩ := own_slice2 ho
              rw [hv2] at hmid hb10 ⊢
              have k8 : w8.cell? ⟨pb, 0, none⟩ = some (.slice A1 n c1) := by rw [cell_blk hb8, HRV.out, HNN.out]; rfl
              have f8 := frozen_blk hb8 0
              have HMID := Lib.hid hmid
              have HB10 := Lib.hid hb10
              clear ho hg hwh hv2 hmid hb10 hb8
              refine hK.out _ _ hb9 (fun HS => ?_)
              clear hK
              try simp only [List.getElem_toArray, List.getElem_cons_zero, List.getElem_cons_succ, Act.put, List.setIfInBounds_toArray, List.set_cons_zero, List.set_cons_succ]
              refine wpAnyH_take (i := 8) (v := ?_) rfl (by kernel_rfl) (by kernel_rfl) (by kernel_rfl) (fun _ _ _ h => h) (Or.inl ⟨by go_simp, ?hy⟩) HS ?_
              case hy => intro W hW; go_simp; (try with_reducible rfl)
              try simp only [List.getElem_toArray, List.getElem_cons_zero, List.getElem_cons_succ, Act.put, List.setIfInBounds_toArray, List.set_cons_zero, List.set_cons_succ]
              refine wpAnyH_take (i := 9) (v := ?_) rfl (by kernel_rfl) (by kernel_rfl) (by kernel_rfl) (fun _ _ _ h => h) (Or.inl ⟨by go_simp, ?hy⟩) HS ?_
              case hy => intro W hW; go_simp; (try with_reducible rfl)
              try simp only [List.getElem_toArray, List.getElem_cons_zero, List.getElem_cons_succ, Act.put, List.setIfInBounds_toArray, List.set_cons_zero, List.set_cons_succ]
              refine wpAnyH_ready (rs := [10]) (by kernel_rfl) (by simp) ?_
              refine AllReadyH.cons rfl (fun K hK => ?_) AllReadyH.nil
              rw [if_pos (by kernel_rfl)]
              simp only [List.getElem_toArray, List.getElem_cons_zero, List.getElem_cons_succ]
              go_simp
              refine hK.out _ _ HB10.out (fun HS => ?_)
              clear hK
              try simp only [List.getElem_toArray, List.getElem_cons_zero, List.getElem_cons_succ, Act.put, List.setIfInBounds_toArray, List.set_cons_zero, List.set_cons_succ]
              refine wpAnyH_done (by kernel_rfl) ?_ _
              go_wp2_with fail
              go_meet
              exact ⟨_, _, _, _, HMID.out⟩
            · rw [if_pos (by kernel_rfl)]
              simp only [List.getElem_toArray, List.getElem_cons_zero, List.getElem_cons_succ]
              go_simp
              refine hK.out _ _ HS7.out (fun HS => ?_)
              clear hK
              try simp only [List.getElem_toArray, List.getElem_cons_zero, List.getElem_cons_succ, Act.put, List.setIfInBounds_toArray, List.set_cons_zero, List.set_cons_succ]
              refine wpAnyH_ready (rs := [4]) (by kernel_rfl) (by simp) ?_
              refine AllReadyH.cons rfl (fun K hK => ?_) AllReadyH.nil
              rw [if_pos (by kernel_rfl)]
              simp only [List.getElem_toArray, List.getElem_cons_zero, List.getElem_cons_succ]
              go_simp
              refine hK.out _ _ HS (fun HS => ?_)
              clear hK
              try simp only [List.getElem_toArray, List.getElem_cons_zero, List.getElem_cons_succ, Act.put, List.setIfInBounds_toArray, List.set_cons_zero, List.set_cons_succ]
              refine wpAnyH_ready (rs := [7]) (by kernel_rfl) (by simp) ?_
              refine AllReadyH.cons rfl (fun K hK => ?_) AllReadyH.nil
              rw [if_pos (by kernel_rfl)]
              simp only [List.getElem_toArray, List.getElem_cons_zero, List.getElem_cons_succ]
              refine wp_append_own2 _ _ _ 56 rfl 0 71 i71 (.pointer none) 1 8 Try.underlying56 hi hz0 hz1 hz2 rfl (by decide) (.slice A1 n c1) n (D.map ptrTo) rfl HROW.out ⟨W6.heap.size, 0, none⟩ 1 1 [.pointer (some ⟨bd, 0, none⟩)] (by decide) rfl rfl HC2.out HC1.out (by unfold maxLen; omega) (by omega) (Nat.zero_le _) ?_
              intro v' w8 ho hg hwh
              obtain ⟨hb8, hb9, hmid, hb10⟩ := mid_fresh (now := now) HP.out HX.out.ok HAB7.out HX97.out (by have := HXD7.out; rw [HDC.out] at this; exact this) HLOW.out HBD9.out HOV.out HN.out HN5.out HR.out.abs HMB.out.symm (by rw [← HNN.out]; exact ho) (by rw [← HNR.out]; exact hg) (by rw [← HNR.out]; exact hwh)
              obtain ⟨q2, c2, hv2, -⟩ := own_slice2 ho
              rw [hv2] at hmid hb10 ⊢
              have k8 : w8.cell? ⟨pb, 0, none⟩ = some (.slice A1 n c1) := by rw [cell_blk hb8, HRV.out, HNN.out]; rfl
              have f8 := frozen_blk hb8 0
              have HMID := Lib.hid hmid
              have HB10 := Lib.hid hb10
              clear ho hg hwh hv2 hmid hb10 hb8
              refine hK.out _ _ hb9 (fun HS => ?_)
              clear hK
              try simp only [List.getElem_toArray, List.getElem_cons_zero, List.getElem_cons_succ, Act.put, List.setIfInBounds_toArray, List.set_cons_zero, List.set_cons_succ]
              refine wpAnyH_take (i := 8) (v := ?_) rfl (by kernel_rfl) (by kernel_rfl) (by kernel_rfl) (fun _ _ _ h => h) (Or.inl ⟨by go_simp, ?hy⟩) HS ?_
              case hy => intro W hW; go_simp; (try with_reducible rfl)
              try simp only [List.getElem_toArray, List.getElem_cons_zero, List.getElem_cons_succ, Act.put, List.setIfInBounds_toArray, List.set_cons_zero, List.set_cons_succ]
              refine wpAnyH_take (i := 9) (v := ?_) rfl (by kernel_rfl) (by kernel_rfl) (by kernel_rfl) (fun _ _ _ h => h) (Or.inl ⟨by go_simp, ?hy⟩) HS ?_
              case hy => intro W hW; go_simp; (try with_reducible rfl)
              try simp only [List.getElem_toArray, List.getElem_cons_zero, List.getElem_cons_succ, Act.put, List.setIfInBounds_toArray, List.set_cons_zero, List.set_cons_succ]
              refine wpAnyH_ready (rs := [10]) (by kernel_rfl) (by simp) ?_
              refine AllReadyH.cons rfl (fun K hK => ?_) AllReadyH.nil
              rw [if_pos (by kernel_rfl)]
              simp only [List.getElem_toArray, List.getElem_cons_zero, List.getElem_cons_succ]
              go_simp
              refine hK.out _ _ HB10.out (fun HS => ?_)
              clear hK
              try simp only [List.getElem_toArray, List.getElem_cons_zero, List.getElem_cons_succ, Act.put, List.setIfInBounds_toArray, List.set_cons_zero, List.set_cons_succ]
              refine wpAnyH_done (by kernel_rfl) ?_ _
              go_wp2_with fail
              go_meet
              exact ⟨_, _, _, _, HMID.out⟩
      | some k =>
        obtain ⟨d, hd, hdt, hdn⟩ := id HR.out
        have e : po = some ⟨d.blk, 0, none⟩ := by
          have := HPO.out
          simp only [ptrK, hd] at this
          exact (Value.pointer.inj this).symm
        subst e
        have HPO3 := Lib.hid (HP.out.below HAB3.out.old)
        have HDA := Lib.hid (HPO3.out.each d (List.mem_of_getElem? hd))
        have HD := Lib.hid hd
        have hdb : d.blk < w.heap.size := lt_of_blk (HP.out.each d (List.mem_of_getElem? hd)).blk
        have HSD : Hid ((D.map Dg.abs)[k]? = some d.abs) := Lib.hid (by rw [List.getElem?_map, hd]; rfl)
        obtain ⟨db, hdbe⟩ : ∃ b, b = d.blk := ⟨_, rfl⟩
        rw [← hdbe] at d9 hdb HX9 HX93 ⊢
        have HDB := Lib.hid hdbe
        clear hd hdt hdn hdbe
        cases mb with
        | false =>
          have H37 := Lib.hid (spoil37 w3 HDA.out.blk (by rw [List.size_toArray]; exact Dg.len HDA.out))
          rw [← HDB.out] at H37
          go_wp2_with fail
          refine (H37.out).mono ?_
          rintro e w5 ⟨rfl, ht⟩
          have hlow := HLOW.out
          have ht' : Turned d.blk (.cells d.spoiled.cells.toArray 75 (0, 0)) w3 w5 := by rw [← spoiled_cells HDA.out]; rw [HDB.out] at ht; exact ht
          have HT := Lib.hid ht'
          have HX65 : Hid (w5.heap[b6]? = some (.cells zeroP.toArray 43 (0, 0))) := Lib.hid ((ht.other (by omega)).trans HAB3.out.x6)
          clear ht ht' H37
          have R6 := Lib.hid (row_of HX65.out)
          go_wp2_with (first | (refine wpList_load_mid rfl 43 (.tmp 6) ?ho b6 0 ?hx zeroP _ ?hr Try.underlying43 rfl ?hi ?_; (case ho => with_reducible rfl); (case hx => rfl); (case hr => exact R6.out); (case hi => rw [HZL.out]; exact HSZ.out)) | (refine wpList_store_row rfl 43 (.tmp 6) (.tmp 38) ?ho b6 zeroP.toArray ?hx ?hy 43 zeroP.toArray HX65.out ?hi ?hc ?h1 ?_; (case ho => with_reducible rfl); (case hx => rfl); (case hy => rfl); (case hi => rw [List.size_toArray, HZL.out]; exact HSZ.out); (case hc => simp only [List.size_toArray, HZL.out, HZL.out]); (case h1 => exact all_oneCell_toArray HZ1.out)))
          have t := Turned.setRow HX65.out zeroP.toArray
          refine bodyPost_ret (results_row_tmp2 Try.results16 _ _ b6 43 _ (0, 0) _ rfl (t.get (lt_of_blk HX65.out)) Try.underlying43 rfl size43') rfl ?_
          exact ⟨rv, _, none, true, zeroP, ((AddMem.below HP.out HAB3.out.old).trans (HPO3.out.spoil HD.out HT.out)).trans (AddMem.below (HPO3.out.spoil HD.out HT.out).pool (t.same HX65.out _)), .inr (.inl ⟨HIS.out.symm, HMB.out.symm, .inr ⟨k, d.abs, HR.out.abs, HSD.out, by rw [set_abs]; rfl⟩, rfl, rfl⟩), rfl, fun _ => rfl, fun y hy => by cases hy⟩
        | true =>
          have c34 : w3.cell? ⟨db, 34, none⟩ = some (.bool d.bad) := by rw [HDB.out]; exact Dg.tail HDA.out 1
          obtain ⟨bad, hbad⟩ : ∃ b, b = d.bad := ⟨_, rfl⟩
          rw [← hbad] at c34
          have HBAD := Lib.hid hbad
          clear hbad
          cases bad with
          | true =>
            have R6 := Lib.hid (row_of HAB3.out.x6)
            go_wp2_with (first | (refine wpList_load_mid rfl 43 (.tmp 6) ?ho b6 0 ?hx zeroP _ ?hr Try.underlying43 rfl ?hi ?_; (case ho => with_reducible rfl); (case hx => rfl); (case hr => exact R6.out); (case hi => rw [HZL.out]; exact HSZ.out)) | (refine wpList_store_row rfl 43 (.tmp 6) (.tmp 58) ?ho b6 zeroP.toArray ?hx ?hy 43 zeroP.toArray HAB3.out.x6 ?hi ?hc ?h1 ?_; (case ho => with_reducible rfl); (case hx => rfl); (case hy => rfl); (case hi => rw [List.size_toArray, HZL.out]; exact HSZ.out); (case hc => simp only [List.size_toArray, HZL.out, HZL.out]); (case h1 => exact all_oneCell_toArray HZ1.out)))
            have t := Turned.setRow HAB3.out.x6 zeroP.toArray
            refine bodyPost_ret (results_row_tmp2 Try.results16 _ _ b6 43 _ (0, 0) _ rfl (t.get (lt_of_blk HAB3.out.x6)) Try.underlying43 rfl size43') rfl ?_
            exact ⟨rv, D, none, true, zeroP, AddMem.below HP.out (HAB3.out.step (t.same HAB3.out.x6 _)).old, .inr (.inr (.inl ⟨HIS.out.symm, HMB.out.symm, ⟨k, d.abs, HR.out.abs, HSD.out, HBAD.out.symm⟩, rfl, rfl, rfl⟩)), rfl, fun _ => rfl, fun y hy => by cases hy⟩
          | false =>
            go_wp2_with fail
            have edb := HDB.out
            subst edb
            go_meet
            refine ⟨rv, D, k, d, AddMem.below HP.out HAB3.out.old, HAB3.out.x5, HAB3.out.x6, ?_, HD.out, HBAD.out.symm, fun i hi => .inl (HP.out.lt hi), HLOW.out, HMB.out.symm, .inl ⟨HR.out.abs, rfl⟩⟩
            exact HX93.out
    case rest =>
      obtain ⟨rv1, D1, k, d, hm⟩ := hcut
      have HM := Lib.hid hm
      have hda := hm.mem.pool.each d (List.mem_of_getElem? hm.get)
      have HDA := Lib.hid hda
      obtain ⟨A2, c2, hv, hP2⟩ := own_pks (B := 0) hda.own (fun e he => ⟨(hda.each e he).1, (hda.each e he).2.1.bs, (hda.each e he).2.2⟩) (by have := hda.many; omega)
      have d35 : wc.cell? ⟨d.blk, 35, none⟩ = some (.slice A2 d.L.length c2) := by rw [← hv]; exact Dg.tail hda 2
      have hbs : Bs wc wc.heap.size A c x.body := HBS.out.kept HB5.out HP.out hm.mem.kept
      have HBS2 := Lib.hid hbs
      have H39 := Lib.hid (judge39 wc HX.out hbs (by have := HL.out; omega) d35 hP2 (Nat.le_refl _))
      have e9 : wc.cell? ⟨b9, 0, none⟩ = some (ptrTo d) := by rw [cell_blk hm.x9]; rfl
      have R5c := Lib.hid (row_of hm.x5)
      have HDD := Lib.hid d35
      have HV := Lib.hid hv
      obtain ⟨db, hdb⟩ : ∃ b, b = d.blk := ⟨_, rfl⟩
      have hptr : ptrTo d = .pointer (some ⟨db, 0, none⟩) := by rw [hdb]; rfl
      rw [hptr] at e9
      rw [← hdb] at H39
      have HDB := Lib.hid hdb
      have HPT := Lib.hid hptr
      obtain ⟨jn, hjn⟩ : ∃ j, j = judgeN (d.L.map (·.pk)) x := ⟨_, rfl⟩
      have HJ := Lib.hid hjn
      have hj3 : jn = 0 ∨ jn = 1 ∨ jn = 2 := by
        rw [hjn]; unfold judgeN; split
        · exact .inr (.inl rfl)
        · split
          · exact .inr (.inr rfl)
          · exact .inl rfl
      clear hda hv hP2 d35 hbs hdb hptr hjn hm c9 HPO HR HX9 HAB0 HAB2 HAB1 R5 R50
      go_wp2_with (first | (refine wpList_load_mid rfl 43 (.tmp 5) ?ho b5 0 ?hx P _ ?hr Try.underlying43 rfl ?hi ?_; (case ho => with_reducible rfl); (case hx => rfl); (case hr => exact R5c.out); (case hi => rw [HLEN.out]; exact HSZ.out)))
      refine (H39.out).mono ?_
      rintro e w1 ⟨rfl, hb1⟩
      rw [← HJ.out]
      have HB1 := Lib.hid hb1
      have HM1 := Lib.hid (HM.out.step hb1)
      have HDA1 := Lib.hid (HM1.out.mem.pool.each d (List.mem_of_getElem? HM1.out.get))
      have e91 : w1.cell? ⟨b9, 0, none⟩ = some (.pointer (some ⟨db, 0, none⟩)) := by rw [cell_blk HM1.out.x9, ← HPT.out]; rfl
      clear hb1 H39 e9
      rcases hj3 with e0 | e0 | e0
      · subst e0
        have c39 : w1.cell? ⟨b5, 39, none⟩ = some (.slice A x.body.length c) := box_cell HM1.out.x5 (HX.out.tail 7)
        have H41 := Lib.hid (clone60 w1 ((HBS2.out.below HB1.out).mono HB1.out.size) (by have := HL.out; omega))
        obtain ⟨m, hm⟩ : ∃ m, m = x.body.length := ⟨_, rfl⟩
        rw [← hm] at c39 H41
        have HMB := Lib.hid hm
        clear hm e91
        go_wp2_with fail
        refine (H41.out).mono ?_
        rintro e w3 ⟨v', rfl, hown, hb3, -⟩
        obtain ⟨A3, c3, rfl, hc3⟩ := own_slice2 hown
        have HM3 := Lib.hid (HM1.out.step hb3)
        have HOWN := Lib.hid hown
        have HB3 := Lib.hid hb3
        have H40 := Lib.hid (clip56 A3 m c3 hc3 w3)
        have d39 : w3.cell? ⟨b5, 39, none⟩ = some (.slice A m c) := (hb3.cell (p := ⟨b5, 39, none⟩) (lt_of_cell c39)).trans c39
        have fd39 := frozen_blk HM3.out.x5 39
        have t5 := Turned.setCell HM3.out.x5 39 (.slice A3 m m)
        have hPe : P = pkV x (.slice A x.body.length c) := HX.out.eq
        rw [hPe, body_set HX.out.ok, HMB.out] at t5
        obtain ⟨P2, hP2⟩ : ∃ P, P = pkV x (.slice A3 x.body.length x.body.length) := ⟨_, rfl⟩
        rw [← hP2] at t5
        have HPA : Hid (PkAt P2 x A3 x.body.length) := Lib.hid ⟨hP2, HX.out.ok⟩
        obtain ⟨W4, hW4⟩ : ∃ W, W = w3.setCell ⟨b5, 39, none⟩ (.slice A3 m m) := ⟨_, rfl⟩
        have hW4' := hW4
        rw [HMB.out] at hW4'
        rw [← hW4'] at t5
        have HT5 := Lib.hid t5
        have HW4 := Lib.hid hW4
        have HP2 := Lib.hid hP2
        clear hown hb3 c39 H41 hc3 t5 hPe hP2 hW4 hW4'
        go_wp2_with fail
        refine (H40.out).mono ?_
        rintro e w4 ⟨rfl, rfl⟩
        clear H40
        go_upto_region 21 with (fail)
        rw [← HW4.out]
        have hw4s : W4.heap.size = w3.heap.size := HT5.out.size
        have hlow := HM3.out.low
        have HM4 := Lib.hid (HM3.out.mem.put HT5.out (by omega) (HM3.out.not (by omega)))
        have HX64 := Lib.hid ((HT5.out.other (k := b6) (by omega)).trans HM3.out.x6)
        have HX94 := Lib.hid ((HT5.out.other (k := b9) (by omega)).trans HM3.out.x9)
        have HX54 := Lib.hid (HT5.out.get (lt_of_blk HM3.out.x5))
        have HGET := Lib.hid HM3.out.get
        have HNOT : Hid (∀ b, w.heap.size ≤ b ∧ b ≤ b9 → ¬ foot pb rv1 D1 b) := Lib.hid fun b hb hf => HM3.out.not hb (.inl hf)
        have HEL : Hid (BodyAt W4 ⟨x, A3, x.body.length⟩ ∧ ∀ g, A3 = some ⟨g, 0, none⟩ → w.heap.size ≤ g ∧ ¬ bods D1 g) := Lib.hid (by
          have hw1 : w.heap.size ≤ w1.heap.size := HM1.out.mem.kept.size
          have ho := HOWN.out
          rw [HMB.out] at ho
          have ho4 : W4.ownsRow w1.heap.size 5 1 (.slice A3 x.body.length c3) x.body.length (row8 x.body) := own_keep ho (fun i hi => HT5.out.other (fun e => by
            have := (ho.lt i hi).1
            have := lt_of_blk HM1.out.x5
            omega))
          obtain ⟨A6, c6, e6, hb6', _⟩ := Bs.own ho4
          cases e6
          refine ⟨⟨⟨hb6'.rd, Nat.le_refl _, fun h => ⟨(hb6'.nil h).1, by show x.body.length = 0; rw [(hb6'.nil h).1]; rfl⟩, by have := HL.out; show x.body.length ≤ maxLen; unfold maxLen; omega⟩, ?_⟩, fun g hg => ?_⟩
          · rcases ho4.2 with ⟨e, _⟩ | ⟨g6, cap6, cur6, e, hb6, hg6, hn6, hx6, hs6, ht6⟩
            · injection e with e1 e2 e3; exact .inl e1
            · injection e with e1 e2 e3
              exact .inr ⟨g6, cur6, e1, hg6, by show x.body.length ≤ cur6.size; omega⟩
          · have h1 := (ho4.lt g (by rw [hg]; rfl)).1
            exact ⟨by omega, fun hb => by have h2 := HM1.out.mem.pool.lt (.inr hb); omega⟩)
        have H32 : Hid (d.L.length ≠ 32) := Lib.hid fun e => by
          have hj := HJ.out
          unfold judgeN at hj
          rw [List.length_map, e] at hj
          split at hj
          · omega
          · simp at hj
        have HDA4 := Lib.hid (HM4.out.pool.each d (List.mem_of_getElem? HGET.out))
        clear HM3 HB1 HBS2 d39 fd39 hw4s hlow
        go_cut [] from 94 (fun wx => ∃ v', AddMem pb rv D w wx rv1 (D1.set k (d.grown v' ⟨x, A3, x.body.length⟩)) ∧ wx.heap[b6]? = some (.cells zeroP.toArray 43 (0, 0)) ∧ wx.heap[b9]? = some (.cells #[ptrTo d] 71 (0, 0)) ∧ ∀ g, v'.ownBlock = some g → d.v.ownBlock = some g ∨ b9 < g)
        case first =>
          obtain ⟨W5, hW5⟩ : ∃ W, W = W4.drew := ⟨_, rfl⟩
          have h45 : Below W4.heap.size W4 W5 := by rw [hW5]; exact (Below.refl _ _).drew
          have HM5 := Lib.hid (HM4.out.trans (AddMem.below HM4.out.pool h45))
          have HX65 := Lib.hid ((h45.block b6 (lt_of_blk HX64.out)).trans HX64.out)
          have HX95 := Lib.hid ((h45.block b9 (lt_of_blk HX94.out)).trans HX94.out)
          have HX55 := Lib.hid ((h45.block b5 (lt_of_blk HX54.out)).trans HX54.out)
          have HEL5 : Hid (BodyAt W5 ⟨x, A3, x.body.length⟩ ∧ ∀ g, A3 = some ⟨g, 0, none⟩ → w.heap.size ≤ g ∧ ¬ bods D1 g) := Lib.hid ⟨HEL.out.1.keep (fun g hg => h45.block g (HEL.out.1.lt hg)) h45.size, HEL.out.2⟩
          have hda5 := HM5.out.pool.each d (List.mem_of_getElem? HGET.out)
          have h56 : Below W5.heap.size W5 (W5.alloc (.cells P2.toArray 43)) := (Below.refl _ _).alloc (Nat.le_refl _) _
          obtain ⟨n, hn⟩ : ∃ n, d.L.length = n := ⟨_, rfl⟩
          have HNL := Lib.hid hn
          have hn32 : n ≤ 32 := by rw [← hn]; exact hda5.many
          have g5 : W5.cell? ⟨db, 35, none⟩ = some (.slice A2 n c2) := by rw [HDB.out, cell_blk hda5.blk, ← hn, ← HV.out]; exact dg35 hda5
          have g6 : (W5.alloc (.cells P2.toArray 43)).cell? ⟨db, 35, none⟩ = some (.slice A2 n c2) := (h56.cell (p := ⟨db, 35, none⟩) (lt_of_cell g5)).trans g5
          have HROW : Hid ((W5.alloc (.cells P2.toArray 43)).ownsRow 0 43 40 (.slice A2 n c2) n (d.L.flatMap El.cells)) := Lib.hid (by
            have := own_below hda5.own h56
            rw [HV.out, hn] at this
            exact this)
          have HPL := Lib.hid HPA.out.len
          have HS58 := Lib.hid h56.size
          have HP2C : Hid ((⟨x, A3, x.body.length⟩ : El).cells = P2) := Lib.hid HPA.out.eq.symm
          have HPO := Lib.hid HPA.out.one
          have HC2 : Hid (∀ j u, P2[j]? = some u → (W5.alloc (.cells P2.toArray 43)).cell? ((⟨W5.heap.size, 0, none⟩ : Addr).add j) = some u) := Lib.hid (by
            intro j u hj
            rw [Addr.add_mid, Nat.zero_add]
            have c := cell_blk (heap_alloc_new W5 (.cells P2.toArray 43)) j
            exact c.trans (by simpa using hj))
          have HS7 : Hid ((W5.alloc (.cells P2.toArray 43)).heap[b9]? = some (.cells #[.pointer (some ⟨db, 0, none⟩)] 71 (0, 0)) ∧ (W5.alloc (.cells P2.toArray 43)).heap[b5]? = some (.cells P2.toArray 43 (0, 0))) := Lib.hid ⟨by rw [← HPT.out]; exact (h56.block b9 (lt_of_blk HX95.out)).trans HX95.out, (h56.block b5 (lt_of_blk HX55.out)).trans HX55.out⟩
          have HFILL : Hid (Instr.fill (fun i => some (i * 40, 40)) ((Array.range (1 * 40)).map ((Value.agg (pkL nilPk none 0).toArray).cells[· % (Value.agg (pkL nilPk none 0).toArray).cells.size]!)) [(0, .agg P2.toArray)] = some P2.toArray) := Lib.hid (by rw [HPA.out.eq, ← pkV_eq]; exact fill43 HX.out.ok.src HX.out.ok.dst rfl)
          obtain ⟨i43, hi, hz0, hz1, hz2⟩ := info_parts info43
          have hS : W5.heap[b9]? = some (.cells #[.pointer (some ⟨db, 0, none⟩)] 71 (0, 0)) ∧ W5.heap[b5]? = some (.cells P2.toArray 43 (0, 0)) := ⟨by rw [← HPT.out]; exact HX95.out, HX55.out⟩
          rw [hW5] at hS
          clear h45 hda5 h56 hn
          refine wp_region_held_drew (S := fun W => W.heap[b9]? = some (.cells #[.pointer (some ⟨db, 0, none⟩)] 71 (0, 0)) ∧ W.heap[b5]? = some (.cells P2.toArray 43 (0, 0))) (by kernel_rfl) hS ?_
          rw [← hW5]
          clear hS hW5
          intro HS
          refine wpAnyH_take (i := 0) (v := ?_) rfl (by kernel_rfl) (by kernel_rfl) (by kernel_rfl) (fun _ _ _ h => h) (Or.inl ⟨by go_simp, ?hy⟩) HS ?_
          case hy => intro W hW; have d := cell_blk hW.1 0; go_simp; (try with_reducible rfl)
          try simp only [List.getElem_toArray, List.getElem_cons_zero, List.getElem_cons_succ, Act.put, List.setIfInBounds_toArray, List.set_cons_zero, List.set_cons_succ]
          refine wpAnyH_take (i := 1) (v := ?_) rfl (by kernel_rfl) (by kernel_rfl) (by kernel_rfl) (fun _ _ _ h => h) (Or.inl ⟨by go_simp, ?hy⟩) HS ?_
          case hy => intro W hW; have d := cell_blk hW.1 0; go_simp; (try with_reducible rfl)
          try simp only [List.getElem_toArray, List.getElem_cons_zero, List.getElem_cons_succ, Act.put, List.setIfInBounds_toArray, List.set_cons_zero, List.set_cons_succ]
          refine wpAnyH_take (i := 2) (v := ?_) rfl (by kernel_rfl) (by kernel_rfl) (by kernel_rfl) (fun _ _ _ h => h) (Or.inl ⟨by go_simp, ?hy⟩) HS ?_
          case hy => intro W hW; go_simp; (try with_reducible rfl)
          try simp only [List.getElem_toArray, List.getElem_cons_zero, List.getElem_cons_succ, Act.put, List.setIfInBounds_toArray, List.set_cons_zero, List.set_cons_succ]
          refine wpAnyH_take (i := 3) (v := ?_) rfl (by kernel_rfl) (by kernel_rfl) (by kernel_rfl) (fun _ _ _ h => h) (Or.inl ⟨by go_simp, ?hy⟩) HS ?_
          case hy => intro W hW; go_simp; (try with_reducible rfl)
          try simp only [List.getElem_toArray, List.getElem_cons_zero, List.getElem_cons_succ, Act.put, List.setIfInBounds_toArray, List.set_cons_zero, List.set_cons_succ]
          refine wpAnyH_take (i := 5) (v := .agg P2.toArray) rfl (by kernel_rfl) (by kernel_rfl) (by kernel_rfl) (fun _ _ _ h => h) (by refine yieldsIf_load_mid ?hw 43 (.tmp 5) ?ho b5 0 ?hx P2 _ (fun W hW => row_of hW.2) Try.underlying43 rfl (by rw [HPL.out]; exact HSZ.out); (case ho => rfl); (case hw => go_simp); (case hx => go_simp)) HS ?_
          try simp only [List.getElem_toArray, List.getElem_cons_zero, List.getElem_cons_succ, Act.put, List.setIfInBounds_toArray, List.set_cons_zero, List.set_cons_succ]
          refine wpAnyH_ready (rs := [4, 6]) (by kernel_rfl) (by simp) ?_
          refine AllReadyH.cons rfl (fun K hK => ?_) (AllReadyH.cons rfl (fun K hK => ?_) AllReadyH.nil)
          · rw [if_pos (by kernel_rfl)]
            simp only [List.getElem_toArray, List.getElem_cons_zero, List.getElem_cons_succ]
            go_simp
            refine hK.out _ _ HS (fun HS => ?_)
            clear hK
            try simp only [List.getElem_toArray, List.getElem_cons_zero, List.getElem_cons_succ, Act.put, List.setIfInBounds_toArray, List.set_cons_zero, List.set_cons_succ]
            refine wpAnyH_ready (rs := [6]) (by kernel_rfl) (by simp) ?_
            refine AllReadyH.cons rfl (fun K hK => ?_) AllReadyH.nil
            rw [if_pos (by kernel_rfl)]
            simp only [List.getElem_toArray, List.getElem_cons_zero, List.getElem_cons_succ]
            refine wp_buildSlice1 46 43 1 0 (.tmp 99) rfl (.agg P2.toArray) rfl P2.toArray i43 _ Try.underlying46 hi hz0 (by rw [hz1]; decide) (by rw [hz1]; decide) (by rw [hz1]; exact HFILL.out) ?_
            refine hK.out _ _ HS7.out (fun HS => ?_)
            clear hK
            try simp only [List.getElem_toArray, List.getElem_cons_zero, List.getElem_cons_succ, Act.put, List.setIfInBounds_toArray, List.set_cons_zero, List.set_cons_succ]
            refine wpAnyH_ready (rs := [7]) (by kernel_rfl) (by simp) ?_
            refine AllReadyH.cons rfl (fun K hK => ?_) AllReadyH.nil
            rw [if_pos (by kernel_rfl)]
            simp only [List.getElem_toArray, List.getElem_cons_zero, List.getElem_cons_succ]
            refine wp_append_own2 _ _ _ 46 rfl 0 43 i43 _ 40 80 Try.underlying46 hi hz0 hz1 hz2 (by kernel_rfl) (by decide) (.slice A2 n c2) n (d.L.flatMap El.cells) rfl HROW.out ⟨W5.heap.size, 0, none⟩ 1 1 P2 (by decide) rfl (by rw [HPL.out]) HC2.out HPO.out (by unfold maxLen; omega) (by omega) (Nat.zero_le _) ?_
            intro v' w8 ho hg hwh
            obtain ⟨hb8, hmid, holds⟩ := mid_grow (e := ⟨x, A3, x.body.length⟩) HM5.out HGET.out HX.out.ok HL.out HEL5.out.1 HEL5.out.2 H32.out (by rw [HNL.out, HP2C.out]; exact ho) (by rw [HV.out, HNL.out]; exact hg) (by rw [HV.out, HNL.out]; exact hwh)
            obtain ⟨q2, cq2, hv2, -⟩ := own_slice2 ho
            have h6 := holds b6 (lt_of_blk HX65.out) (HNOT.out b6 (by have := HLOW.out; omega))
            have h9 := holds b9 (lt_of_blk HX95.out) (HNOT.out b9 (by have := HLOW.out; omega))
            have h5 := holds b5 (lt_of_blk HX55.out) (HNOT.out b5 (by have := HLOW.out; omega))
            have hfw : ∀ g, v'.ownBlock = some g → d.v.ownBlock = some g ∨ b9 < g := fun g hg' => by
              rcases hwh with e | e
              · exact .inl (by rw [HV.out, HNL.out, ← e]; exact hg')
              · rw [e] at hg'
                have := Option.some.inj hg'
                have := lt_of_blk HX95.out
                have := HS58.out
                exact .inr (by omega)
            rw [hv2] at hmid h6 h9 h5 hfw ⊢
            have HFW := Lib.hid hfw
            clear hfw
            rw [← HDB.out] at hb8 hmid h6 h9 h5
            have HMID := Lib.hid hmid
            have HR6 := Lib.hid (h6.1.trans HX65.out)
            have HR9 := Lib.hid (h9.1.trans HX95.out)
            have HR92 := Lib.hid (h9.2.trans HX95.out)
            have HR5 := Lib.hid (h5.1.trans HX55.out)
            have HR52 := Lib.hid (h5.2.trans HX55.out)
            have k8 : w8.cell? ⟨db, 35, none⟩ = some (.slice A2 n c2) := by rw [cell_blk hb8, ← HNL.out, ← HV.out]; exact dg35 HDA4.out
            have f8 := frozen_blk hb8 35
            clear ho hg hwh hv2 hmid hb8 h6 h9 h5 holds
            refine hK.out _ _ ⟨by rw [HR92.out, HPT.out], HR52.out⟩ (fun HS => ?_)
            clear hK
            try simp only [List.getElem_toArray, List.getElem_cons_zero, List.getElem_cons_succ, Act.put, List.setIfInBounds_toArray, List.set_cons_zero, List.set_cons_succ]
            refine wpAnyH_take (i := 8) (v := ?_) rfl (by kernel_rfl) (by kernel_rfl) (by kernel_rfl) (fun _ _ _ h => h) (Or.inl ⟨by go_simp, ?hy⟩) HS ?_
            case hy => intro W hW; go_simp; (try with_reducible rfl)
            try simp only [List.getElem_toArray, List.getElem_cons_zero, List.getElem_cons_succ, Act.put, List.setIfInBounds_toArray, List.set_cons_zero, List.set_cons_succ]
            refine wpAnyH_take (i := 9) (v := ?_) rfl (by kernel_rfl) (by kernel_rfl) (by kernel_rfl) (fun _ _ _ h => h) (Or.inl ⟨by go_simp, ?hy⟩) HS ?_
            case hy => intro W hW; go_simp; (try with_reducible rfl)
            try simp only [List.getElem_toArray, List.getElem_cons_zero, List.getElem_cons_succ, Act.put, List.setIfInBounds_toArray, List.set_cons_zero, List.set_cons_succ]
            refine wpAnyH_ready (rs := [10]) (by kernel_rfl) (by simp) ?_
            refine AllReadyH.cons rfl (fun K hK => ?_) AllReadyH.nil
            rw [if_pos (by kernel_rfl)]
            simp only [List.getElem_toArray, List.getElem_cons_zero, List.getElem_cons_succ]
            go_simp
            refine hK.out _ _ ⟨by rw [HR9.out, HPT.out], HR5.out⟩ (fun HS => ?_)
            clear hK
            try simp only [List.getElem_toArray, List.getElem_cons_zero, List.getElem_cons_succ, Act.put, List.setIfInBounds_toArray, List.set_cons_zero, List.set_cons_succ]
            refine wpAnyH_done (by kernel_rfl) ?_ _
            go_wp2_with fail
            go_meet
            exact ⟨_, HMID.out, HR6.out, HR9.out, HFW.out⟩
          · rw [if_pos (by kernel_rfl)]
            simp only [List.getElem_toArray, List.getElem_cons_zero, List.getElem_cons_succ]
            refine wp_buildSlice1 46 43 1 0 (.tmp 99) rfl (.agg P2.toArray) rfl P2.toArray i43 _ Try.underlying46 hi hz0 (by rw [hz1]; decide) (by rw [hz1]; decide) (by rw [hz1]; exact HFILL.out) ?_
            refine hK.out _ _ HS7.out (fun HS => ?_)
            clear hK
            try simp only [List.getElem_toArray, List.getElem_cons_zero, List.getElem_cons_succ, Act.put, List.setIfInBounds_toArray, List.set_cons_zero, List.set_cons_succ]
            refine wpAnyH_ready (rs := [4]) (by kernel_rfl) (by simp) ?_
            refine AllReadyH.cons rfl (fun K hK => ?_) AllReadyH.nil
            rw [if_pos (by kernel_rfl)]
            simp only [List.getElem_toArray, List.getElem_cons_zero, List.getElem_cons_succ]
            go_simp
            refine hK.out _ _ HS (fun HS => ?_)
            clear hK
            try simp only [List.getElem_toArray, List.getElem_cons_zero, List.getElem_cons_succ, Act.put, List.setIfInBounds_toArray, List.set_cons_zero, List.set_cons_succ]
            refine wpAnyH_ready (rs := [7]) (by kernel_rfl) (by simp) ?_
            refine AllReadyH.cons rfl (fun K hK => ?_) AllReadyH.nil
            rw [if_pos (by kernel_rfl)]
            simp only [List.getElem_toArray, List.getElem_cons_zero, List.getElem_cons_succ]
            refine wp_append_own2 _ _ _ 46 rfl 0 43 i43 _ 40 80 Try.underlying46 hi hz0 hz1 hz2 (by kernel_rfl) (by decide) (.slice A2 n c2) n (d.L.flatMap El.cells) rfl HROW.out ⟨W5.heap.size, 0, none⟩ 1 1 P2 (by decide) rfl (by rw [HPL.out]) HC2.out HPO.out (by unfold maxLen; omega) (by omega) (Nat.zero_le _) ?_
            intro v' w8 ho hg hwh
            obtain ⟨hb8, hmid, holds⟩ := mid_grow (e := ⟨x, A3, x.body.length⟩) HM5.out HGET.out HX.out.ok HL.out HEL5.out.1 HEL5.out.2 H32.out (by rw [HNL.out, HP2C.out]; exact ho) (by rw [HV.out, HNL.out]; exact hg) (by rw [HV.out, HNL.out]; exact hwh)
            obtain ⟨q2, cq2, hv2, -⟩ := own_slice2 ho
            have h6 := holds b6 (lt_of_blk HX65.out) (HNOT.out b6 (by have := HLOW.out; omega))
            have h9 := holds b9 (lt_of_blk HX95.out) (HNOT.out b9 (by have := HLOW.out; omega))
            have h5 := holds b5 (lt_of_blk HX55.out) (HNOT.out b5 (by have := HLOW.out; omega))
            have hfw : ∀ g, v'.ownBlock = some g → d.v.ownBlock = some g ∨ b9 < g := fun g hg' => by
              rcases hwh with e | e
              · exact .inl (by rw [HV.out, HNL.out, ← e]; exact hg')
              · rw [e] at hg'
                have := Option.some.inj hg'
                have := lt_of_blk HX95.out
                have := HS58.out
                exact .inr (by omega)
            rw [hv2] at hmid h6 h9 h5 hfw ⊢
            have HFW := Lib.hid hfw
            clear hfw
            rw [← HDB.out] at hb8 hmid h6 h9 h5
            have HMID := Lib.hid hmid
            have HR6 := Lib.hid (h6.1.trans HX65.out)
            have HR9 := Lib.hid (h9.1.trans HX95.out)
            have HR92 := Lib.hid (h9.2.trans HX95.out)
            have HR5 := Lib.hid (h5.1.trans HX55.out)
            have HR52 := Lib.hid (h5.2.trans HX55.out)
            have k8 : w8.cell? ⟨db, 35, none⟩ = some (.slice A2 n c2) := by rw [cell_blk hb8, ← HNL.out, ← HV.out]; exact dg35 HDA4.out
            have f8 := frozen_blk hb8 35
            clear ho hg hwh hv2 hmid hb8 h6 h9 h5 holds
            refine hK.out _ _ ⟨by rw [HR92.out, HPT.out], HR52.out⟩ (fun HS => ?_)
            clear hK
            try simp only [List.getElem_toArray, List.getElem_cons_zero, List.getElem_cons_succ, Act.put, List.setIfInBounds_toArray, List.set_cons_zero, List.set_cons_succ]
            refine wpAnyH_take (i := 8) (v := ?_) rfl (by kernel_rfl) (by kernel_rfl) (by kernel_rfl) (fun _ _ _ h => h) (Or.inl ⟨by go_simp, ?hy⟩) HS ?_
            case hy => intro W hW; go_simp; (try with_reducible rfl)
            try simp only [List.getElem_toArray, List.getElem_cons_zero, List.getElem_cons_succ, Act.put, List.setIfInBounds_toArray, List.set_cons_zero, List.set_cons_succ]
            refine wpAnyH_take (i := 9) (v := ?_) rfl (by kernel_rfl) (by kernel_rfl) (by kernel_rfl) (fun _ _ _ h => h) (Or.inl ⟨by go_simp, ?hy⟩) HS ?_
            case hy => intro W hW; go_simp; (try with_reducible rfl)
            try simp only [List.getElem_toArray, List.getElem_cons_zero, List.getElem_cons_succ, Act.put, List.setIfInBounds_toArray, List.set_cons_zero, List.set_cons_succ]
            refine wpAnyH_ready (rs := [10]) (by kernel_rfl) (by simp) ?_
            refine AllReadyH.cons rfl (fun K hK => ?_) AllReadyH.nil
            rw [if_pos (by kernel_rfl)]
            simp only [List.getElem_toArray, List.getElem_cons_zero, List.getElem_cons_succ]
            go_simp
            refine hK.out _ _ ⟨by rw [HR9.out, HPT.out], HR5.out⟩ (fun HS => ?_)
            clear hK
            try simp only [List.getElem_toArray, List.getElem_cons_zero, List.getElem_cons_succ, Act.put, List.setIfInBounds_toArray, List.set_cons_zero, List.set_cons_succ]
            refine wpAnyH_done (by kernel_rfl) ?_ _
            go_wp2_with fail
            go_meet
            exact ⟨_, HMID.out, HR6.out, HR9.out, HFW.out⟩
        case rest =>
          obtain ⟨v2, hm2, h6, h9, hfw⟩ := hcut
          obtain ⟨d2, hd2⟩ : ∃ d2, d2 = d.grown v2 ⟨x, A3, x.body.length⟩ := ⟨_, rfl⟩
          rw [← hd2] at hm2
          have HM2 := Lib.hid hm2
          have hkl : k < D1.length := (List.getElem?_eq_some_iff.1 HGET.out).1
          have HG2 : Hid ((D1.set k d2)[k]? = some d2) := Lib.hid (by rw [List.getElem?_set, if_pos rfl, if_pos hkl])
          have hda2 := hm2.pool.each d2 (List.mem_of_getElem? HG2.out)
          have HD2 := Lib.hid hda2
          have hL2 : d2.L.map (·.pk) = d.L.map (·.pk) ++ [x] := by rw [hd2]; simp [Dg.grown]
          have H42 := Lib.hid (whole42 wc hda2 (by rw [hd2]; simp [Dg.grown]))
          have hpt : ptrTo d2 = .pointer (some ⟨db, 0, none⟩) := by rw [hd2, HDB.out]; rfl
          rw [hpt, hL2] at H42
          have e9 : wc.cell? ⟨b9, 0, none⟩ = some (.pointer (some ⟨db, 0, none⟩)) := by rw [cell_blk h9, ← HPT.out]; rfl
          have HX6 := Lib.hid h6; have HX9 := Lib.hid h9
          have HAB2 : Hid (d2.abs = { d.abs with L := d.abs.L ++ [x] }) := Lib.hid (by rw [hd2]; simp [Dg.abs, Dg.grown])
          have HB2 : Hid (d2.blk = db) := Lib.hid (by rw [hd2, HDB.out]; rfl)
          have HJP : Hid (judgeN d.abs.L x = 0) := Lib.hid HJ.out.symm
          have HLW := Lib.hid HM1.out.low
          have HADD : Hid (∀ (S' : List Ds) (out : Option Pk) (dr : Bool), PutS x (D1.map Dg.abs) k d.abs S' out dr → AddS now x (D.map Dg.abs) S' out dr) := Lib.hid fun _ _ _ h => HM1.out.adds HIS.out.symm h
          have HNR9 : Hid (rv1.ownBlock ≠ some b9) := Lib.hid fun e => HM1.out.not (b := b9) (by have := HM1.out.low; omega) (.inl (.inr (.inl e)))
          have HNV6 : Hid (∀ b ∈ D1.set k d2, b.v.ownBlock ≠ some b6) := Lib.hid fun b hb e => by
            obtain ⟨j, hj⟩ := List.getElem?_of_mem hb
            rw [List.getElem?_set] at hj
            have hlow := HM1.out.low
            by_cases hkj : k = j
            · rw [if_pos hkj, if_pos hkl] at hj
              have hbd := (Option.some.inj hj).symm
              rw [hbd, hd2] at e
              rcases hfw b6 e with h | h
              · exact HM1.out.not (b := b6) (by omega) (.inl (.inr (.inr ⟨d, List.mem_of_getElem? HGET.out, .inr h⟩)))
              · omega
            · rw [if_neg hkj] at hj
              exact HM1.out.not (b := b6) (by omega) (.inl (.inr (.inr ⟨b, List.mem_of_getElem? hj, .inr e⟩)))
          clear hm2 hda2 hL2 hpt h6 h9 hd2 hfw HEL HM HDA HDA1 HDA4 HM4 HX64 HX94 HX54 HOWN HB3 HPA HT5 HW4 HP2 HDD R5c
          go_wp2_with fail
          refine (H42.out).mono ?_
          rintro e w4 ⟨hb4, hres⟩
          have HM4 := Lib.hid (HM2.out.trans (AddMem.below HM2.out.pool hb4))
          have HX64 := Lib.hid ((hb4.block b6 (lt_of_blk HX6.out)).trans HX6.out)
          have HX94 := Lib.hid ((hb4.block b9 (lt_of_blk HX9.out)).trans HX9.out)
          have HB4 := Lib.hid hb4
          rcases hres with ⟨hno, rfl⟩ | ⟨hyes, l, y, A4, c4, hperm, hup, hjoin, rfl, hyok, hybody, hyfr, hyl⟩
          · have HNO := Lib.hid hno
            clear hb4 hno H42 e9
            go_upto_region 25 with (first | (refine wpList_store_row rfl 43 (.tmp 6) (.tmp 107) ?ho b6 zeroP.toArray ?hx ?hy 43 zeroP.toArray HX64.out ?hi ?hc ?h1 ?_; (case ho => with_reducible rfl); (case hx => rfl); (case hy => rfl); (case hi => rw [List.size_toArray, HZL.out]; exact HSZ.out); (case hc => simp only [List.size_toArray, HZL.out, HZL.out]); (case h1 => exact all_oneCell_toArray HZ1.out)))
            have t := Turned.setRow HX64.out zeroP.toArray
            obtain ⟨W5, hW5⟩ : ∃ W, W = w4.setRow b6 zeroP.toArray := ⟨_, rfl⟩
            rw [← hW5] at t ⊢
            have HX65 := Lib.hid (t.get (lt_of_blk HX64.out))
            have HB45 := Lib.hid (t.same HX64.out w4.heap.size)
            clear t hW5
            have R6 := Lib.hid (row_of HX65.out)
            go_wp2_with (first | (refine wpList_load_mid rfl 43 (.tmp 6) ?ho b6 0 ?hx zeroP _ ?hr Try.underlying43 rfl ?hi ?_; (case ho => with_reducible rfl); (case hx => rfl); (case hr => exact R6.out); (case hi => rw [HZL.out]; exact HSZ.out)) | (refine wpList_store_row rfl 43 (.tmp 6) (.tmp 119) ?ho b6 zeroP.toArray ?hx ?hy 43 zeroP.toArray HX65.out ?hi ?hc ?h1 ?_; (case ho => with_reducible rfl); (case hx => rfl); (case hy => rfl); (case hi => rw [List.size_toArray, HZL.out]; exact HSZ.out); (case hc => simp only [List.size_toArray, HZL.out, HZL.out]); (case h1 => exact all_oneCell_toArray HZ1.out)))
            have t := Turned.setRow HX65.out zeroP.toArray
            refine bodyPost_ret (results_row_tmp2 Try.results16 _ _ b6 43 _ (0, 0) _ rfl (t.get (lt_of_blk HX65.out)) Try.underlying43 rfl size43') rfl ?_
            have hm5 := HM4.out.trans (AddMem.below HM4.out.pool HB45.out)
            exact ⟨rv1, _, none, false, zeroP, hm5.trans (AddMem.below hm5.pool (t.same HX65.out _)), HADD.out _ _ _ (.inr (.inr (.inl ⟨HJP.out, HNO.out, by rw [set_abs, HAB2.out], rfl, rfl⟩))), rfl, fun _ => rfl, fun y hy => by cases hy⟩
          · obtain ⟨Y, hY⟩ : ∃ Y, Y = pkL y A4 c4 := ⟨_, rfl⟩
            rw [← hY]
            have hya : PkAt Y y A4 c4 := ⟨hY, hyok⟩
            have HYL := Lib.hid hya.len
            have HYO := Lib.hid hya.one
            have HY := Lib.hid hY
            have HYES := Lib.hid hyes
            have HJOIN : Hid (∃ l, l.Perm (d.abs.L ++ [x]) ∧ (l.Pairwise fun a b => frm a ≤ frm b) ∧ (some y : Option Pk) = joinP l ∧ (some y : Option Pk) ≠ none) := Lib.hid ⟨l, hperm, hup, hjoin.symm, by simp⟩
            have t := Turned.setRow HX64.out Y.toArray
            obtain ⟨W5, hW5⟩ : ∃ W, W = w4.setRow b6 Y.toArray := ⟨_, rfl⟩
            rw [← hW5] at t
            have hn46 := HM4.out.pool.not43 HX64.out HNV6.out
            have HM5 := Lib.hid (HM4.out.put t (by have := HLW.out; omega) hn46)
            have HX65 := Lib.hid (t.get (lt_of_blk HX64.out))
            have HX95 := Lib.hid ((t.other (k := b9) (by have := HLW.out; omega)).trans HX94.out)
            have HYB : Hid (BodyAt W5 ⟨y, A4, c4⟩) := Lib.hid (hybody.keep (fun g hg => t.other (fun e => by
              obtain ⟨cur, hc⟩ := body_type hybody hg
              rw [e, HX64.out] at hc; cases hc)) (by rw [t.size]; exact Nat.le_refl _))
            have HYF : Hid (∀ g, A4 = some ⟨g, 0, none⟩ → wc.heap.size ≤ g) := Lib.hid hyfr
            have HYOK := Lib.hid hyok
            have HYLE := Lib.hid hyl
            have HW5 := Lib.hid hW5
            clear hb4 hyes H42 e9 hY hya hperm hup hjoin hyok hybody hyfr hyl t hW5 hn46
            have hne2 : D1.set k d2 ≠ [] := fun e => by have := HG2.out; rw [e] at this; simp at this
            obtain ⟨D2, hD2⟩ : ∃ D, D = D1.set k d2 := ⟨_, rfl⟩
            rw [← hD2] at HM5 HM4 HM2 HG2 hne2 HNV6
            have HD2E := Lib.hid hD2
            have hrow := HM5.out.pool.row
            rcases hrow.2 with ⟨_, hl0⟩ | ⟨g, cap, cur, hrv, _, hg, hn5, hmx, hsz, htk⟩
            · exact absurd (List.length_eq_zero_iff.1 hl0) hne2
            · have hcut0 : RowCut g cap D2 (fun o => o.blk == db) 0 W5 := ⟨cur, hg, by rw [hsz, Nat.mul_one], fun i d' hi => by simp at hi, fun i d' _ hi => by
                have h1 : (D2.map ptrTo)[i]? = some (ptrTo d') := by rw [List.getElem?_map, hi]; rfl
                rw [← htk, Nat.mul_one, List.getElem?_take] at h1
                split at h1
                · simpa using h1
                · cases h1⟩
              have hgk : Kd W5 g 71 := ⟨_, _, hg⟩
              have hb9g : b9 ≠ g := fun e => HNR9.out (by rw [hrv, e]; rfl)
              have H27 := Lib.hid (del27_43 (A := some ⟨g, 0, none⟩) (p := b9) (cap := cap) (t := fun o => o.blk == db) (fun _ W => Kept (fun i => i = g) W5 W) W5 (fun _ => ⟨rfl, hcut0⟩) (Kept.refl _ _) (by have := HM5.out.pool.four; omega) hn5 hmx
                (fun _ W W' cs hk ht => hk.trans (G := fun i => i = g) (Kept.of_turned ht rfl) (fun i _ h => h))
                (fun i d' W hi hk hgl => by
                  have hkb9 : W.heap[b9]? = some (.cells #[ptrTo d] 71 (0, 0)) := (hk.block b9 (lt_of_blk HX95.out) hb9g).trans HX95.out
                  have hd' := HM5.out.pool.each d' (List.mem_of_getElem? hi)
                  have hdb' := HM5.out.pool.each d2 (List.mem_of_getElem? HG2.out)
                  have h1 : W.heap[d'.blk]? = _ := (hk.block d'.blk (lt_of_blk hd'.blk) (fun e => by have := (e ▸ hd'.kdb : Kd W5 g 75).one hgk; omega)).trans hd'.blk
                  have h2 : W.heap[d2.blk]? = _ := (hk.block d2.blk (lt_of_blk hdb'.blk) (fun e => by have := (e ▸ hdb'.kdb : Kd W5 g 75).one hgk; omega)).trans hdb'.blk
                  rw [HB2.out] at h2
                  refine (clos43 W (by rw [cell_blk hkb9, HPT.out]; rfl) h1 h2).mono ?_
                  rintro e w' ⟨rfl, hb⟩
                  exact ⟨rfl, hk.trans (G := fun i => i = g) (Kept.of_below hb (Nat.le_refl _)) (fun i _ h => h), hb.block g hgl⟩))
              have HRV := Lib.hid hrv
              have HG := Lib.hid hg
              have c50 : W5.cell? ⟨pb, 0, none⟩ = some (.slice (some ⟨g, 0, none⟩) D2.length cap) := by rw [cell_blk HM5.out.pool.blk, hrv]; rfl
              obtain ⟨n2, hn2⟩ : ∃ n, n = D2.length := ⟨_, rfl⟩
              rw [← hn2] at c50 H27
              clear hcut0 hgk hrv hg hn5 hmx hsz htk hrow hne2 hn2 hD2
              go_upto_region 23 with (first | (refine wpList_store_row rfl 43 (.tmp 6) (.tmp 107) ?ho b6 Y.toArray ?hx ?hy 43 zeroP.toArray HX64.out ?hi ?hc ?h1 ?_; (case ho => with_reducible rfl); (case hx => rfl); (case hy => rfl); (case hi => rw [List.size_toArray, HYL.out]; exact HSZ.out); (case hc => simp only [List.size_toArray, HYL.out, HZL.out]); (case h1 => exact all_oneCell_toArray HYO.out)))
              rw [← HW5.out]
              go_wp2_with fail
              refine (H27.out).mono ?_
              rintro e w6 ⟨v6, rfl, hk6, hr6⟩
              have htt : (d2.blk == db) = true := by rw [HB2.out]; simp
              rcases hr6 with ⟨_, hno, _⟩ | ⟨_, hv6, ho6⟩
              · have := hno d2 (List.mem_of_getElem? HG2.out)
                rw [htt] at this; cases this
              · have hd2b := HM5.out.pool.each d2 (List.mem_of_getElem? HG2.out)
                have hgk : Kd W5 g 71 := ⟨_, _, HG.out⟩
                have hpg : pb ≠ g := fun e => by have := (e ▸ HM5.out.pool.kdp : Kd W5 g 58).one hgk; omega
                have hb6g : b6 ≠ g := fun e => by
                  have h1 := HX65.out
                  rw [e, HG.out] at h1; cases h1
                have hpb6 : pb ≠ b6 := fun e => by
                  have h1 := HM5.out.pool.blk
                  rw [e, HX65.out] at h1; cases h1
                have hx66 : w6.heap[b6]? = some (.cells Y.toArray 43 (0, 0)) := (hk6.block b6 (lt_of_blk HX65.out) hb6g).trans HX65.out
                have hp6 : w6.heap[pb]? = some (.cells #[rv1, .bool true] 58 (0, 0)) := (hk6.block pb (lt_of_blk HM5.out.pool.blk) hpg).trans HM5.out.pool.blk
                have c60 : w6.cell? ⟨pb, 0, none⟩ = some rv1 := by rw [cell_blk hp6]; rfl
                have f60 := frozen_blk hp6 0
                have t6 := Turned.setCell hp6 0 v6
                have hset : (#[rv1, Value.bool true] : Array Value).setIfInBounds 0 v6 = #[v6, .bool true] := rfl
                rw [hset] at t6
                obtain ⟨W7, hW7⟩ : ∃ W, W = w6.setCell ⟨pb, 0, none⟩ v6 := ⟨_, rfl⟩
                rw [← hW7] at t6
                have ho7 : W7.ownsRow 0 71 1 v6 (D2.filter fun o => !(o.blk == db)).length ((D2.filter fun o => !(o.blk == db)).map ptrTo) := own_mono (own_keep ho6 (fun i hi => t6.other (fun e => hpg (by rw [hv6] at hi; exact e.symm.trans (Option.some.inj hi).symm)))) (Nat.zero_le _)
                have hk7 : Kept (fun i => i = pb ∨ rv1.ownBlock = some i) W5 W7 := (hk6.mono (G := fun i => i = pb ∨ rv1.ownBlock = some i) (fun i _ e => .inr (by rw [HRV.out, e]; rfl))).trans (G := fun i => i = pb ∨ rv1.ownBlock = some i) (Kept.of_turned t6 (.inl rfl)) (fun i _ h => h)
                have hdel := HM5.out.pool.del (t := fun o => !(o.blk == db)) hk7 (t6.get (lt_of_blk hp6)) ho7 (fun i hi => by rw [hv6] at hi; rw [HRV.out]; exact hi)
                have HX67 := Lib.hid ((t6.other hpb6.symm).trans hx66)
                have HM7 := Lib.hid (HM5.out.trans hdel)
                have HYB7 : Hid (BodyAt W7 ⟨y, A4, c4⟩) := Lib.hid (HYB.out.keep (fun i hi => by
                  obtain ⟨cu, hc⟩ := body_type HYB.out hi
                  refine (t6.other (fun e => ?_)).trans (hk6.block i (lt_of_blk hc) (fun e => ?_))
                  · rw [e, HM5.out.pool.blk] at hc; cases hc
                  · rw [e, HG.out] at hc; cases hc) (by have := hk6.size; have := t6.size; omega))
                have HER : Hid ((D2.filter fun o => !(o.blk == db)).map Dg.abs = (D1.map Dg.abs).eraseIdx k) := Lib.hid (by
                  have h1 := filter_erase HM5.out.pool.blks HG2.out
                  rw [HB2.out] at h1
                  rw [h1, map_erase, HD2E.out, set_abs, set_erase])
                have HNB : Hid (∀ i, bods (D2.filter fun o => !(o.blk == db)) i → i < wc.heap.size) := Lib.hid fun i ⟨b, hb, hi⟩ => HM2.out.pool.lt (.inr ⟨b, (List.mem_filter.1 hb).1, hi⟩)
                have HW7 := Lib.hid hW7
                have HOK6 : Hid (v6 = .slice (some ⟨g, 0, none⟩) (D2.filter fun o => !(o.blk == db)).length cap) := Lib.hid hv6
                rw [HRV.out] at c60
                obtain ⟨D3, hD3⟩ : ∃ D, D = D2.filter fun o => !(o.blk == db) := ⟨_, rfl⟩
                rw [← hD3] at HM7 HER HNB HOK6
                obtain ⟨n3, hn3⟩ : ∃ n, n = D3.length := ⟨_, rfl⟩
                rw [← hn3] at HOK6
                rw [HOK6.out] at HW7 HM7 ⊢
                clear hk6 hv6 ho6 hd2b hgk hpg hb6g hpb6 hx66 hp6 t6 hset hW7 ho7 hk7 hdel hD3 hn3 htt H27 c50
                go_upto_region 25 with (fail)
                rw [← HW7.out]
                have R67 := Lib.hid (row_of HX67.out)
                go_wp2_with (first | (refine wpList_load_mid rfl 43 (.tmp 6) ?ho b6 0 ?hx Y _ ?hr Try.underlying43 rfl ?hi ?_; (case ho => with_reducible rfl); (case hx => rfl); (case hr => exact R67.out); (case hi => rw [HYL.out]; exact HSZ.out)) | (refine wpList_store_row rfl 43 (.tmp 6) (.tmp 119) ?ho b6 Y.toArray ?hx ?hy 43 Y.toArray HX67.out ?hi ?hc ?h1 ?_; (case ho => with_reducible rfl); (case hx => rfl); (case hy => rfl); (case hi => rw [List.size_toArray, HYL.out]; exact HSZ.out); (case hc => simp only [List.size_toArray, HYL.out, HYL.out]); (case h1 => exact all_oneCell_toArray HYO.out)))
                have t := Turned.setRow HX67.out Y.toArray
                have hfin := AddMem.below HM7.out.pool (t.same HX67.out W7.heap.size)
                refine bodyPost_ret (results_row_tmp2 Try.results16 _ _ b6 43 _ (0, 0) _ rfl (t.get (lt_of_blk HX67.out)) Try.underlying43 rfl (by rw [List.size_toArray, HYL.out]; exact HSZ.out)) rfl ?_
                refine ⟨_, D3, some y, false, Y, HM7.out.trans hfin, HADD.out _ _ _ (.inr (.inr (.inr ⟨HJP.out, HYES.out, HER.out, HJOIN.out, rfl⟩))), rfl, fun e => (by cases e), fun y' hy' => ?_⟩
                have e := Option.some.inj hy'
                subst e
                refine ⟨A4, c4, HY.out, HYOK.out, HYB7.out.keep (fun i hi => ?_) hfin.kept.size, fun i hi => ?_, HYLE.out⟩
                · refine t.other (fun e => ?_)
                  obtain ⟨cu, hc⟩ := body_type HYB7.out hi
                  rw [e, HX67.out] at hc; cases hc
                · have h1 := HYF.out i hi
                  have h2 := HM2.out.kept.size
                  exact ⟨by omega, fun hb => by have := HNB.out i hb; omega⟩
      · subst e0
        have R6 := Lib.hid (row_of HM1.out.x6)
        go_wp2_with (first | (refine wpList_load_mid rfl 43 (.tmp 6) ?ho b6 0 ?hx zeroP _ ?hr Try.underlying43 rfl ?hi ?_; (case ho => with_reducible rfl); (case hx => rfl); (case hr => exact R6.out); (case hi => rw [HZL.out]; exact HSZ.out)) | (refine wpList_store_row rfl 43 (.tmp 6) (.tmp 83) ?ho b6 zeroP.toArray ?hx ?hy 43 zeroP.toArray HM1.out.x6 ?hi ?hc ?h1 ?_; (case ho => with_reducible rfl); (case hx => rfl); (case hy => rfl); (case hi => rw [List.size_toArray, HZL.out]; exact HSZ.out); (case hc => simp only [List.size_toArray, HZL.out, HZL.out]); (case h1 => exact all_oneCell_toArray HZ1.out)))
        have t := Turned.setRow HM1.out.x6 zeroP.toArray
        refine bodyPost_ret (results_row_tmp2 Try.results16 _ _ b6 43 _ (0, 0) _ rfl (t.get (lt_of_blk HM1.out.x6)) Try.underlying43 rfl size43') rfl ?_
        exact ⟨rv1, D1, none, false, zeroP, (HM1.out.step (t.same HM1.out.x6 _)).mem, HM1.out.adds HIS.out.symm (.inl ⟨HJ.out.symm, rfl, rfl, rfl⟩), rfl, fun _ => rfl, fun y hy => by cases hy⟩
      · subst e0
        have H37 := Lib.hid (spoil37 w1 HDA1.out.blk (by rw [List.size_toArray]; exact Dg.len HDA1.out))
        rw [← HDB.out] at H37
        go_wp2_with fail
        refine (H37.out).mono ?_
        rintro e w5 ⟨rfl, ht⟩
        have ht' : Turned d.blk (.cells d.spoiled.cells.toArray 75 (0, 0)) w1 w5 := by rw [← spoiled_cells HDA1.out]; rw [HDB.out] at ht; exact ht
        have HT := Lib.hid ht'
        have hn6 : b6 ≠ db := fun e => HM1.out.not (b := b6) (by have := HM1.out.low; omega) (.inl (.inr (.inr ⟨d, List.mem_of_getElem? HM1.out.get, .inl (e.trans HDB.out)⟩)))
        have HX65 : Hid (w5.heap[b6]? = some (.cells zeroP.toArray 43 (0, 0))) := Lib.hid ((ht.other hn6).trans HM1.out.x6)
        clear ht ht' H37 hn6
        have R6 := Lib.hid (row_of HX65.out)
        go_wp2_with (first | (refine wpList_load_mid rfl 43 (.tmp 6) ?ho b6 0 ?hx zeroP _ ?hr Try.underlying43 rfl ?hi ?_; (case ho => with_reducible rfl); (case hx => rfl); (case hr => exact R6.out); (case hi => rw [HZL.out]; exact HSZ.out)) | (refine wpList_store_row rfl 43 (.tmp 6) (.tmp 88) ?ho b6 zeroP.toArray ?hx ?hy 43 zeroP.toArray HX65.out ?hi ?hc ?h1 ?_; (case ho => with_reducible rfl); (case hx => rfl); (case hy => rfl); (case hi => rw [List.size_toArray, HZL.out]; exact HSZ.out); (case hc => simp only [List.size_toArray, HZL.out, HZL.out]); (case h1 => exact all_oneCell_toArray HZ1.out)))
        have t := Turned.setRow HX65.out zeroP.toArray
        refine bodyPost_ret (results_row_tmp2 Try.results16 _ _ b6 43 _ (0, 0) _ rfl (t.get (lt_of_blk HX65.out)) Try.underlying43 rfl size43') rfl ?_
        have hsp := HM1.out.mem.pool.spoil HM1.out.get HT.out
        exact ⟨rv1, _, none, true, zeroP, (HM1.out.mem.trans hsp).trans (AddMem.below hsp.pool (t.same HX65.out _)), HM1.out.adds HIS.out.symm (.inr (.inl ⟨HJ.out.symm, by rw [set_abs]; rfl, rfl, rfl⟩)), rfl, fun _ => rfl, fun y hy => by cases hy⟩
end Go.Proofs.Ytjldcblklbikaaa
