/- Several texts in one: MixP, MixB, MixA. No condition beyond those that each part names. -/
import Derived.Test.YtfolamkjlgpgmaaGreatDoorRdP
import Derived.Test.YtfolamkjlgpgmaaGreatDoorStrips
import Derived.Handy
/- Spans of several types painted over, and what stays of others. No program in sight. No condition. (Printed by gMix.py.) -/
namespace Go.Proofs.YtfolamkjlgpgmaaGreatDoor
open Go.RowKit
set_option linter.unusedVariables false
set_option linter.unusedSimpArgs false
structure Gs where
  adr : Option Addr
  len : Nat
  cap : Nat
  T : Nat
  k : Nat
def paintF (cs : Array Value) (a b : Nat) (f : Nat → Value) : Array Value := cs.mapIdx fun i x => if a ≤ i ∧ i < b then f i else x
theorem paintF_size (cs : Array Value) (a b : Nat) (f : Nat → Value) : (paintF cs a b f).size = cs.size := by simp [paintF]
theorem paintF_get (cs : Array Value) (a b : Nat) (f : Nat → Value) (i : Nat) : (paintF cs a b f)[i]? = cs[i]?.map fun x => if a ≤ i ∧ i < b then f i else x := by simp [paintF]
theorem paintF_none (cs : Array Value) (a : Nat) (f : Nat → Value) : paintF cs a a f = cs := by
  apply Array.ext_getElem?
  intro i
  rw [paintF_get]
  cases cs[i]? with
  | none => rfl
  | some x => simp only [Option.map_some]; rw [if_neg (by omega)]
theorem paintF_one {cs : Array Value} {a b : Nat} {f : Nat → Value} (h : a ≤ b) : (paintF cs a b f).setIfInBounds b (f b) = paintF cs a (b + 1) f := by
  apply Array.ext_getElem?
  intro i
  rw [Array.getElem?_setIfInBounds, paintF_get, paintF_get, paintF_size]
  by_cases hi : b = i
  · subst hi
    rw [if_pos rfl]
    by_cases hs : b < cs.size
    · rw [if_pos hs, Array.getElem?_eq_getElem hs]
      simp only [Option.map_some]; rw [if_pos (by omega)]
    · rw [if_neg hs, Array.getElem?_eq_none (by omega)]; rfl
  · rw [if_neg hi]
    cases cs[i]? with
    | none => rfl
    | some x => simp only [Option.map_some]; congr 1; by_cases hc : a ≤ i ∧ i < b
                · rw [if_pos hc, if_pos (by omega)]
                · rw [if_neg hc, if_neg (by omega)]
theorem paintF_over {cs : Array Value} {a : Nat} {f : Nat → Value} : ∀ (vs : List Value) (b : Nat), a ≤ b → (∀ j v, vs[j]? = some v → v = f (b + j)) → overW (paintF cs a b f) b vs = paintF cs a (b + vs.length) f
  | [], b, _, _ => rfl
  | v :: vs, b, h, hv => by
    unfold overW
    have e0 : v = f b := hv 0 v rfl
    rw [e0, paintF_one h, paintF_over vs (b + 1) (by omega) (fun j u hu => by
      have := hv (j + 1) u (by simpa using hu)
      rw [this]; congr 1; omega)]
    rw [List.length_cons]; congr 1; omega
/-- its cells stand in a block from lo on, below hi -/
structure GsIn (lo hi : Nat) (w : World) (x : Gs) : Prop where
  fit : x.len ≤ x.cap
  max : x.cap * x.k ≤ 9223372036854775807
  at_ : (x.adr = none ∧ x.cap = 0) ∨ ∃ g o cs, x.adr = some ⟨g, o, none⟩ ∧ lo ≤ g ∧ g < hi ∧ w.heap[g]? = some (.cells cs x.T (0, 0)) ∧ o + x.cap * x.k ≤ cs.size
/-- its cells from a to b hold f -/
def GsIs (w : World) (x : Gs) (a b : Nat) (f : Nat → Value) : Prop := ∀ g o, x.adr = some ⟨g, o, none⟩ → ∀ i, a ≤ i → i < b → w.cell? ⟨g, o + i, none⟩ = some (f i)
/-- w' is w, the cells from a to b of x painted by f; what was drawn aside -/
structure Gp (x : Gs) (a b : Nat) (f : Nat → Value) (w w' : World) : Prop where
  os : w'.os = w.os
  tape : w'.tape = w.tape
  output : w'.output = w.output
  size : w.heap.size ≤ w'.heap.size
  turn : ∀ g o cs, x.adr = some ⟨g, o, none⟩ → w.heap[g]? = some (.cells cs x.T (0, 0)) → w'.heap[g]? = some (.cells (paintF cs (o + a) (o + b) (fun i => f (i - o))) x.T (0, 0))
  other : ∀ j, j < w.heap.size → (∀ o, x.adr ≠ some ⟨j, o, none⟩) → w'.heap[j]? = w.heap[j]?
theorem Gp.start (x : Gs) (a : Nat) (f : Nat → Value) {w w' : World} (h : Below w.heap.size w w') : Gp x a a f w w' := ⟨h.os, h.tape, h.output, h.size, fun g o cs _ h2 => by rw [paintF_none, h.block g (lt_of_blk h2)]; exact h2, fun k hk _ => h.block k hk⟩
theorem Gp.drewN {x : Gs} {a b : Nat} {f : Nat → Value} {w w' : World} (h : Gp x a b f w w') (j : Nat) : Gp x a b f w (w'.drewN j) := ⟨h.os, h.tape, h.output, h.size, h.turn, h.other⟩
theorem Gp.many {x : Gs} {a b lo hi g o : Nat} {f : Nat → Value} {w w' : World} (h : Gp x a b f w w') (hab : a ≤ b) (hx : GsIn lo hi w x) (hA : x.adr = some ⟨g, o, none⟩) (vs : List Value) (hv : ∀ j v, vs[j]? = some v → v = f (b + j)) : Gp x a (b + vs.length) f w (w'.setCells g (o + b) vs) := by
  rcases hx.at_ with ⟨h1, _⟩ | ⟨g1, o1, cs, h1, h2, h3, h4, h5⟩
  · rw [h1] at hA; cases hA
  rw [h1] at hA; cases hA
  have t := Turned.setCells vs (o + b) (h.turn _ _ _ h1 h4)
  rw [paintF_over vs (o + b) (by omega) (fun j v hj => by rw [hv j v hj]; congr 1; omega), Nat.add_assoc] at t
  refine ⟨t.os.trans h.os, t.tape.trans h.tape, t.output.trans h.output, by rw [t.size]; exact h.size, fun g2 o2 cs2 e1 e2 => ?_, fun k hs hk => ?_⟩
  · rw [h1] at e1; cases e1
    rw [h4] at e2; cases e2
    exact t.get (by have := lt_of_blk h4; have := h.size; omega)
  · rw [t.other (fun e => hk o (by rw [h1, e])), h.other k hs hk]
theorem Gp.below {x : Gs} {a b lo hi : Nat} {f : Nat → Value} {w w' : World} (h : Gp x a b f w w') (hx : GsIn lo hi w x) (hlo : lo ≤ w.heap.size) : Below lo w w' := by
  refine ⟨h.os, h.tape, h.output, h.size, fun k hk => h.other k (by omega) (fun o e => ?_)⟩
  rcases hx.at_ with ⟨h1, _⟩ | ⟨g1, o1, cs, h1, h2, h3, h4, h5⟩
  · rw [h1] at e; cases e
  · rw [h1] at e; cases e; omega
theorem Gp.span {x y : Gs} {a b lo2 hi2 : Nat} {f : Nat → Value} {w w' : World} (h : Gp x a b f w w') (hy : GsIn lo2 hi2 w y) (hT : x.T = y.T ∨ ∀ g o o2, x.adr = some ⟨g, o, none⟩ → y.adr ≠ some ⟨g, o2, none⟩) : GsIn lo2 hi2 w' y := by
  refine ⟨hy.fit, hy.max, ?_⟩
  rcases hy.at_ with h1 | ⟨g, o, cs, h1, h2, h3, h4, h5⟩
  · exact .inl h1
  · by_cases hx : ∃ o2, x.adr = some ⟨g, o2, none⟩
    · obtain ⟨o2, hx⟩ := hx
      rcases hT with hT | hT
      · exact .inr ⟨g, o, _, h1, h2, h3, by rw [← hT] at h4 ⊢; exact h.turn g o2 cs hx h4, by rw [paintF_size]; exact h5⟩
      · exact absurd h1 (hT g o2 o hx)
    · exact .inr ⟨g, o, cs, h1, h2, h3, (h.other g (lt_of_blk h4) (fun o2 e => hx ⟨o2, e⟩)).trans h4, h5⟩
theorem Gp.is {x : Gs} {a b lo hi : Nat} {f : Nat → Value} {w w' : World} (h : Gp x a b f w w') (hx : GsIn lo hi w x) (hb : b ≤ x.cap * x.k) : GsIs w' x a b f := by
  intro g o hA k hk1 hk2
  rcases hx.at_ with ⟨h1, _⟩ | ⟨g1, o1, cs, h1, h2, h3, h4, h5⟩
  · rw [h1] at hA; cases hA
  rw [h1] at hA; cases hA
  rw [cell_blk (h.turn _ _ _ h1 h4), paintF_get, Array.getElem?_eq_getElem (by omega)]
  simp only [Option.map_some]; rw [if_pos (by omega), Nat.add_sub_cancel_left]
/-- what stands in other blocks, or ahead, stays -/
theorem Gp.keep {x y : Gs} {a b c d lo hi : Nat} {f u : Nat → Value} {w w' : World} (h : Gp x a b f w w') (hx : GsIn lo hi w x) (hy : GsIs w y c d u)
    (hd : ∀ g o o2, x.adr = some ⟨g, o, none⟩ → y.adr = some ⟨g, o2, none⟩ → o + b ≤ o2 + c ∨ o2 + d ≤ o + a) : GsIs w' y c d u := by
  intro g o hA k hk1 hk2
  have h0 := hy g o hA k hk1 hk2
  by_cases he : ∃ o2, x.adr = some ⟨g, o2, none⟩
  · obtain ⟨o2, he⟩ := he
    rcases hx.at_ with ⟨h1, _⟩ | ⟨g1, o1, cs, h1, h2, h3, h4, h5⟩
    · rw [h1] at he; cases he
    have he2 := he
    rw [h1] at he2; cases he2
    have := hd _ _ _ he hA
    rw [cell_blk h4] at h0
    rw [cell_blk (h.turn _ _ _ h1 h4), paintF_get, h0]
    simp only [Option.map_some]; rw [if_neg (by omega)]
  · refine Eq.trans ?_ h0
    simp only [World.cell?, h.other g (lt_of_cell h0) (fun o2 e => he ⟨o2, e⟩)]
theorem GsIs.step {w w' : World} {x : Gs} {a b : Nat} {f : Nat → Value} (h : GsIs w x a b f) (hb : Below w.heap.size w w') : GsIs w' x a b f := fun g o hA k k1 k2 => by
  have := h g o hA k k1 k2
  exact (hb.cell (p := ⟨g, o + k, none⟩) (lt_of_cell this)).trans this
theorem GsIn.step {lo hi : Nat} {w w' : World} {x : Gs} (h : GsIn lo hi w x) (hb : Below w.heap.size w w') : GsIn lo hi w' x := by
  refine ⟨h.fit, h.max, ?_⟩
  rcases h.at_ with h1 | ⟨g, o, cs, h1, h2, h3, h4, h5⟩
  · exact .inl h1
  · exact .inr ⟨g, o, cs, h1, h2, h3, (hb.block g (lt_of_blk h4)).trans h4, h5⟩
theorem GsIn.apart {lo hi : Nat} {w : World} {x y : Gs} (h : GsIn lo hi w x) (k : GsIn lo hi w y) (hT : x.T ≠ y.T) : ∀ g o o2, x.adr = some ⟨g, o, none⟩ → y.adr ≠ some ⟨g, o2, none⟩ := by
  intro g o o2 hx hy
  rcases h.at_ with ⟨h1, _⟩ | ⟨g1, o1, cs, h1, h2, h3, h4, h5⟩
  · rw [h1] at hx; cases hx
  rw [h1] at hx; cases hx
  rcases k.at_ with ⟨k1, _⟩ | ⟨g1, o1, cs, k1, k2, k3, k4, k5⟩
  · rw [k1] at hy; cases hy
  rw [k1] at hy; cases hy
  rw [h4] at k4
  simp only [Option.some.injEq, Obj.cells.injEq] at k4
  exact hT k4.2.1
def FillG (x : Gs) (a b : Nat) (f : Nat → Value) (w : World) (e : Ending) (w' : World) : Prop := e = .returned (.tuple #[]) ∧ Gp x a b f w w'
/-- painted, and the box stands -/
structure GPb (x : Gs) (a b : Nat) (f : Nat → Value) (w w' : World) (p : Nat) (o : Obj) : Prop where
  pnt : Gp x a b f w w'
  box : w'.heap[p]? = some o
theorem GPb.many {x : Gs} {a b lo hi g o p : Nat} {f : Nat → Value} {w w' : World} {ob : Obj} (h : GPb x a b f w w' p ob) (hab : a ≤ b) (hx : GsIn lo hi w x) (hA : x.adr = some ⟨g, o, none⟩) (hp : w.heap.size ≤ p) (vs : List Value) (hv : ∀ j v, vs[j]? = some v → v = f (b + j)) : GPb x a (b + vs.length) f w (w'.setCells g (o + b) vs) p ob := by
  refine ⟨h.pnt.many hab hx hA vs hv, ?_⟩
  rcases hx.at_ with ⟨h1, _⟩ | ⟨g1, o1, cs, h1, h2, h3, h4, h5⟩
  · rw [h1] at hA; cases hA
  rw [h1] at hA; cases hA
  have := lt_of_blk h4
  exact (Turned.setCells vs (o + b) (h.pnt.turn _ _ _ h1 h4)).keep h.box (by omega)
theorem GPb.one {x : Gs} {a b lo hi g o p : Nat} {v : Value} {w w' : World} {ob : Obj} (h : GPb x a b (fun _ => v) w w' p ob) (hab : a ≤ b) (hx : GsIn lo hi w x) (hA : x.adr = some ⟨g, o, none⟩) (hp : w.heap.size ≤ p) : GPb x a (b + 1) (fun _ => v) w (w'.setCell ⟨g, o + b, none⟩ v) p ob :=
  h.many hab hx hA hp [v] (fun j u hu => by
    have : u ∈ [v] := List.mem_of_getElem? hu
    simpa using this)
theorem Gp.there {x : Gs} {a b lo hi g o : Nat} {f : Nat → Value} {w w' : World} (h : Gp x a b f w w') (hx : GsIn lo hi w x) (hA : x.adr = some ⟨g, o, none⟩) {k n : Nat} (hk : k + n ≤ x.cap * x.k) : w'.there g (o + k) n := by
  rcases hx.at_ with ⟨h1, _⟩ | ⟨g1, o1, cs, h1, h2, h3, h4, h5⟩
  · rw [h1] at hA; cases hA
  rw [h1] at hA; cases hA
  exact there_blk (h.turn _ _ _ h1 h4) (by rw [paintF_size]; omega)
theorem Gp.cell {x : Gs} {a b lo hi g o : Nat} {f : Nat → Value} {w w' : World} (h : Gp x a b f w w') (hx : GsIn lo hi w x) (hA : x.adr = some ⟨g, o, none⟩) {k : Nat} (hk : k < x.cap * x.k) : ∃ u, w'.cell? ⟨g, o + k, none⟩ = some u ∧ w'.frozen? ⟨g, o + k, none⟩ = false := by
  have := h.there hx hA (k := k) (n := 1) hk 0 (by decide)
  obtain ⟨u, hu⟩ := Option.isSome_iff_exists.1 this.1
  exact ⟨u, hu, this.2⟩
/-- the box stands, and the span is as it is filled -/
structure GKb (x : Gs) (m : Nat) (f f2 : Nat → Value) (w w' : World) (p : Nat) (o : Obj) : Prop where
  below : Below p w w'
  box : w'.heap[p]? = some o
  ins : GsIs w' x 0 m f
  outs : GsIs w' x m (x.cap * x.k) f2
theorem GKb.drewN {x : Gs} {m : Nat} {f f2 : Nat → Value} {w w' : World} {p : Nat} {o : Obj} (h : GKb x m f f2 w w' p o) (j : Nat) : GKb x m f f2 w (w'.drewN j) p o := ⟨h.below.trans ⟨rfl, rfl, rfl, Nat.le_refl _, fun _ _ => rfl⟩, h.box, h.ins, h.outs⟩
end Go.Proofs.YtfolamkjlgpgmaaGreatDoor


/- Strips of bytes and of texts: filled, and kept: the walks. No condition. (Printed by gMix.py.) -/
namespace Go.Proofs.YtfolamkjlgpgmaaGreatDoor
open Go.RowKit
set_option linter.unusedVariables false
set_option linter.unusedSimpArgs false
set_option maxRecDepth 100000 in
set_option maxHeartbeats 1000000 in
theorem fillB {A : Option Addr} {n c lo hi : Nat} (s r : Int) (w : World) (hx : GsIn lo hi w ⟨A, n, c, 5, 1⟩) :
    Calls Tryz.prog 129 #[.agg #[.slice A n c, .int .u8 s, .int .u8 r]] w (FillG ⟨A, n, c, 5, 1⟩ 0 n (fun _ => .int .u8 s) w) := by
  have hfit : n ≤ c := hx.fit
  have hmax : c * 1 ≤ 9223372036854775807 := hx.max
  have HX := Lib.hid hx
  clear hx
  go_enter Tryz.func129, Tryz.ntmps129
  go_wp2_with fail
  obtain ⟨p, hp⟩ : ∃ p, p = w.heap.size := ⟨_, rfl⟩
  have HP0 : Hid (GPb ⟨A, n, c, 5, 1⟩ 0 0 (fun _ => .int .u8 s) w (w.alloc (.cells #[.slice A n c, .int .u8 s, .int .u8 r] 100)) w.heap.size (.cells #[.slice A n c, .int .u8 s, .int .u8 r] 100 (0, 0))) := Lib.hid ⟨Gp.start _ _ _ ((Below.refl _ _).alloc (Nat.le_refl _) _), heap_alloc_new _ _⟩
  rw [← hp] at HP0 ⊢
  have NP := Lib.hid hp; clear hp
  go_loopw [2] (fun i wr => ∃ k : Nat, k ≤ n ∧ i = .int .i64 k ∧ GPb ⟨A, n, c, 5, 1⟩ 0 k (fun _ => .int .u8 s) w wr p (.cells #[.slice A n c, .int .u8 s, .int .u8 r] 100 (0, 0))) (fun i _ => n - (intOf i).toNat)
  case atStart => exact ⟨0, Nat.zero_le _, rfl, HP0.out⟩
  case round =>
    clear HP0
    obtain ⟨k, hk, rfl, hB⟩ := hrel
    have b0 := cell_blk hB.box 0
    have b1 := cell_blk hB.box 1
    simp only [List.getElem?_toArray, List.getElem?_cons_zero, List.getElem?_cons_succ] at b0 b1
    by_cases hlt : k < n
    · obtain ⟨g, o, hA⟩ : ∃ g o, A = some ⟨g, o, none⟩ := by
        rcases HX.out.at_ with ⟨h1, h2⟩ | ⟨g, o, cs, h1, _⟩
        · have : c = 0 := h2
          omega
        · exact ⟨g, o, h1⟩
      subst hA
      obtain ⟨u, c0, f0⟩ := hB.pnt.cell HX.out rfl (k := k) (by show k < c * 1; omega)
      have HN := Lib.hid (hB.one (Nat.zero_le _) HX.out rfl (by rw [NP.out]; exact Nat.le_refl _))
      have hpg : p ≠ g := by
        rcases HX.out.at_ with ⟨h1, _⟩ | ⟨g1, o1, cs, h1, h2, h3, h4, h5⟩
        · cases h1
        · cases h1; have := lt_of_blk h4; rw [NP.out]; omega
      clear hB
      go_wp2_with fail
      go_roundw
      case rel => exact ⟨k + 1, by omega, by go_num, HN.out⟩
      case measure => simp [intOf]; omega
    · obtain rfl : k = n := by omega
      have HN := Lib.hid hB
      clear hB
      go_wp2_with fail
      go_end0
      exact ⟨rfl, HN.out.pnt⟩
set_option maxRecDepth 100000 in
set_option maxHeartbeats 1000000 in
theorem roomB {A : Option Addr} {n c lo hi : Nat} (s r : Int) (w : World) (hx : GsIn lo hi w ⟨A, n, c, 5, 1⟩) :
    Calls Tryz.prog 130 #[.agg #[.slice A n c, .int .u8 s, .int .u8 r]] w (FillG ⟨A, n, c, 5, 1⟩ n c (fun _ => .int .u8 r) w) := by
  have hfit : n ≤ c := hx.fit
  have hmax : c * 1 ≤ 9223372036854775807 := hx.max
  have HX := Lib.hid hx
  clear hx
  have HP0 : Hid (GPb ⟨A, n, c, 5, 1⟩ n n (fun _ => .int .u8 r) w (w.alloc (.cells #[.slice A n c, .int .u8 s, .int .u8 r] 100)) w.heap.size (.cells #[.slice A n c, .int .u8 s, .int .u8 r] 100 (0, 0))) := Lib.hid ⟨Gp.start _ _ _ ((Below.refl _ _).alloc (Nat.le_refl _) _), heap_alloc_new _ _⟩
  have hA : (A = none ∧ n = 0 ∧ c = 0) ∨ ∃ g o, A = some ⟨g, o, none⟩ := by
    rcases HX.out.at_ with ⟨h1, h2⟩ | ⟨g, o, cs, h1, _⟩
    · have h2 : c = 0 := h2
      exact .inl ⟨h1, by omega, h2⟩
    · exact .inr ⟨g, o, h1⟩
  go_enter Tryz.func130, Tryz.ntmps130
  rcases hA with ⟨rfl, rfl, rfl⟩ | ⟨g, o, rfl⟩
  · go_wp2_with fail
    go_loop [3] (fun i => i = .int .i64 0) (fun i => 0)
    case atStart => rfl
    case round =>
      obtain rfl := hrel
      go_wp2_with fail
      go_end0
      exact ⟨rfl, HP0.out.pnt⟩
  · by_cases hcn : c = n
    · subst hcn
      go_wp2_with fail
      go_loop [3] (fun i => i = .int .i64 0) (fun i => 0)
      case atStart => rfl
      case round =>
        obtain rfl := hrel
        go_wp2_with fail
        go_end0
        exact ⟨rfl, HP0.out.pnt⟩
    · go_wp2_with fail
      obtain ⟨p, hp⟩ : ∃ p, p = w.heap.size := ⟨_, rfl⟩
      rw [← hp] at HP0 ⊢
      have NP := Lib.hid hp; clear hp
      have hpg : p ≠ g := by
        rcases HX.out.at_ with ⟨h1, _⟩ | ⟨g1, o1, cs, h1, h2, h3, h4, h5⟩
        · cases h1
        · cases h1; have := lt_of_blk h4; rw [NP.out]; omega
      go_loopw [3] (fun i wr => ∃ k : Nat, n + k ≤ c ∧ i = .int .i64 k ∧ GPb ⟨some ⟨g, o, none⟩, n, c, 5, 1⟩ n (n + k) (fun _ => .int .u8 r) w wr p (.cells #[.slice (some ⟨g, o, none⟩) n c, .int .u8 s, .int .u8 r] 100 (0, 0))) (fun i _ => c - n - (intOf i).toNat)
      case atStart => exact ⟨0, hfit, rfl, HP0.out⟩
      case round =>
        clear HP0
        obtain ⟨k, hk, rfl, hB⟩ := hrel
        have b2 := cell_blk hB.box 2
        simp only [List.getElem?_toArray, List.getElem?_cons_zero, List.getElem?_cons_succ] at b2
        by_cases hlt : n + k < c
        · obtain ⟨u, c0, f0⟩ := hB.pnt.cell HX.out rfl (k := n + k) (by show n + k < c * 1; omega)
          have HN := Lib.hid (hB.one (Nat.le_add_right _ _) HX.out rfl (by rw [NP.out]; exact Nat.le_refl _))
          rw [← Nat.add_assoc] at c0 f0 HN
          clear hB
          go_wp2_with fail
          go_roundw
          case rel => exact ⟨k + 1, by omega, by go_num, HN.out⟩
          case measure => simp [intOf]; omega
        · have e : n + k = c := by omega
          rw [e] at hB
          have HN := Lib.hid hB
          clear hB
          go_wp2_with fail
          go_end0
          exact ⟨rfl, HN.out.pnt⟩
set_option maxRecDepth 100000 in
set_option maxHeartbeats 1000000 in
theorem keptB {A : Option Addr} {n c lo hi : Nat} (s r : Int) (w : World) (hx : GsIn lo hi w ⟨A, n, c, 5, 1⟩) (hs : GsIs w ⟨A, n, c, 5, 1⟩ 0 n (fun _ => .int .u8 s)) (hr : GsIs w ⟨A, n, c, 5, 1⟩ n (c * 1) (fun _ => .int .u8 r)) :
    Calls Tryz.prog 131 #[.agg #[.slice A n c, .int .u8 s, .int .u8 r]] w (KeptPost w) := by
  have hfit : n ≤ c := hx.fit
  have hmax : c * 1 ≤ 9223372036854775807 := hx.max
  have hA : (A = none ∧ n = 0 ∧ c = 0) ∨ ∃ g o, A = some ⟨g, o, none⟩ := by
    rcases hx.at_ with ⟨h1, h2⟩ | ⟨g, o, cs, h1, _⟩
    · have h2 : c = 0 := h2
      exact .inl ⟨h1, by omega, h2⟩
    · exact .inr ⟨g, o, h1⟩
  have hal : Below w.heap.size w (w.alloc (.cells #[.slice A n c, .int .u8 s, .int .u8 r] 100)) := (Below.refl _ _).alloc (Nat.le_refl _) _
  have HP0 : Hid (GKb ⟨A, n, c, 5, 1⟩ n (fun _ => .int .u8 s) (fun _ => .int .u8 r) w (w.alloc (.cells #[.slice A n c, .int .u8 s, .int .u8 r] 100)) w.heap.size (.cells #[.slice A n c, .int .u8 s, .int .u8 r] 100 (0, 0))) := Lib.hid ⟨hal, heap_alloc_new _ _, hs.step hal, hr.step hal⟩
  have ts : (s != s) = false := by simp
  have tr : (r != r) = false := by simp
  clear hx hs hr hal
  go_enter Tryz.func131, Tryz.ntmps131
  go_wp2_with fail
  obtain ⟨p, hp⟩ : ∃ p, p = w.heap.size := ⟨_, rfl⟩
  rw [← hp] at HP0 ⊢
  have NP := Lib.hid hp; clear hp
  go_loopw [3] (fun i wr => ∃ k : Nat, k ≤ n ∧ i = .int .i64 k ∧ GKb ⟨A, n, c, 5, 1⟩ n (fun _ => .int .u8 s) (fun _ => .int .u8 r) w wr p (.cells #[.slice A n c, .int .u8 s, .int .u8 r] 100 (0, 0))) (fun i _ => n - (intOf i).toNat)
  case atStart => exact ⟨0, Nat.zero_le _, rfl, HP0.out⟩
  case round =>
    clear HP0
    obtain ⟨k, hk, rfl, hB⟩ := hrel
    have b0 := cell_blk hB.box 0
    have b1 := cell_blk hB.box 1
    simp only [List.getElem?_toArray, List.getElem?_cons_zero, List.getElem?_cons_succ] at b0 b1
    have HB := Lib.hid hB
    clear hB
    by_cases hlt : k < n
    · rcases hA with ⟨rfl, rfl, rfl⟩ | ⟨g, o, rfl⟩
      · omega
      · have c0 := HB.out.ins g o rfl k (Nat.zero_le _) hlt
        go_wp2_with fail
        go_quiet (fail)
        go_wp2_with fail
        go_roundw
        case rel => exact ⟨k + 1, by omega, by go_num, HB.out.drewN _⟩
        case measure => simp [intOf]; omega
    · obtain rfl : k = n := by omega
      rcases hA with ⟨rfl, rfl, rfl⟩ | ⟨g, o, rfl⟩
      · go_wp2_with fail
        go_loop [5] (fun i => i = .int .i64 0) (fun i => 0)
        case atStart => rfl
        case round =>
          obtain rfl := hrel
          go_wp2_with fail
          go_ret
          exact ⟨rfl, by rw [← NP.out]; exact HB.out.below⟩
      · by_cases hcn : c = k
        · subst hcn
          go_wp2_with fail
          go_loop [5] (fun i => i = .int .i64 0) (fun i => 0)
          case atStart => rfl
          case round =>
            obtain rfl := hrel
            go_wp2_with fail
            go_ret
            exact ⟨rfl, by rw [← NP.out]; exact HB.out.below⟩
        · go_wp2_with fail
          go_loopw [5] (fun i wr => ∃ j : Nat, k + j ≤ c ∧ i = .int .i64 j ∧ GKb ⟨some ⟨g, o, none⟩, k, c, 5, 1⟩ k (fun _ => .int .u8 s) (fun _ => .int .u8 r) w wr p (.cells #[.slice (some ⟨g, o, none⟩) k c, .int .u8 s, .int .u8 r] 100 (0, 0))) (fun i _ => c - k - (intOf i).toNat)
          case atStart => exact ⟨0, hfit, rfl, HB.out⟩
          case round =>
            clear HB b0 b1
            obtain ⟨j, hj, rfl, hB⟩ := hrel
            have b2 := cell_blk hB.box 2
            simp only [List.getElem?_toArray, List.getElem?_cons_zero, List.getElem?_cons_succ] at b2
            have HB := Lib.hid hB
            clear hB
            by_cases hlt : k + j < c
            · have c0 := HB.out.outs g o rfl (k + j) (Nat.le_add_right _ _) (by show k + j < c * 1; omega)
              rw [← Nat.add_assoc] at c0
              go_wp2_with fail
              go_quiet (fail)
              go_wp2_with fail
              go_roundw
              case rel => exact ⟨j + 1, by omega, by go_num, HB.out.drewN _⟩
              case measure => simp [intOf]; omega
            · go_wp2_with fail
              go_ret
              exact ⟨rfl, by rw [← NP.out]; exact HB.out.below⟩
set_option maxRecDepth 100000 in
set_option maxHeartbeats 1000000 in
theorem fillT {A : Option Addr} {n c lo hi : Nat} (s r : ByteArray) (w : World) (hx : GsIn lo hi w ⟨A, n, c, 9, 1⟩) :
    Calls Tryz.prog 135 #[.agg #[.slice A n c, .string s, .string r]] w (FillG ⟨A, n, c, 9, 1⟩ 0 n (fun _ => .string s) w) := by
  have hfit : n ≤ c := hx.fit
  have hmax : c * 1 ≤ 9223372036854775807 := hx.max
  have HX := Lib.hid hx
  clear hx
  go_enter Tryz.func135, Tryz.ntmps135
  go_wp2_with fail
  obtain ⟨p, hp⟩ : ∃ p, p = w.heap.size := ⟨_, rfl⟩
  have HP0 : Hid (GPb ⟨A, n, c, 9, 1⟩ 0 0 (fun _ => .string s) w (w.alloc (.cells #[.slice A n c, .string s, .string r] 105)) w.heap.size (.cells #[.slice A n c, .string s, .string r] 105 (0, 0))) := Lib.hid ⟨Gp.start _ _ _ ((Below.refl _ _).alloc (Nat.le_refl _) _), heap_alloc_new _ _⟩
  rw [← hp] at HP0 ⊢
  have NP := Lib.hid hp; clear hp
  go_loopw [2] (fun i wr => ∃ k : Nat, k ≤ n ∧ i = .int .i64 k ∧ GPb ⟨A, n, c, 9, 1⟩ 0 k (fun _ => .string s) w wr p (.cells #[.slice A n c, .string s, .string r] 105 (0, 0))) (fun i _ => n - (intOf i).toNat)
  case atStart => exact ⟨0, Nat.zero_le _, rfl, HP0.out⟩
  case round =>
    clear HP0
    obtain ⟨k, hk, rfl, hB⟩ := hrel
    have b0 := cell_blk hB.box 0
    have b1 := cell_blk hB.box 1
    simp only [List.getElem?_toArray, List.getElem?_cons_zero, List.getElem?_cons_succ] at b0 b1
    by_cases hlt : k < n
    · obtain ⟨g, o, hA⟩ : ∃ g o, A = some ⟨g, o, none⟩ := by
        rcases HX.out.at_ with ⟨h1, h2⟩ | ⟨g, o, cs, h1, _⟩
        · have : c = 0 := h2
          omega
        · exact ⟨g, o, h1⟩
      subst hA
      obtain ⟨u, c0, f0⟩ := hB.pnt.cell HX.out rfl (k := k) (by show k < c * 1; omega)
      have HN := Lib.hid (hB.one (Nat.zero_le _) HX.out rfl (by rw [NP.out]; exact Nat.le_refl _))
      have hpg : p ≠ g := by
        rcases HX.out.at_ with ⟨h1, _⟩ | ⟨g1, o1, cs, h1, h2, h3, h4, h5⟩
        · cases h1
        · cases h1; have := lt_of_blk h4; rw [NP.out]; omega
      clear hB
      go_wp2_with fail
      go_roundw
      case rel => exact ⟨k + 1, by omega, by go_num, HN.out⟩
      case measure => simp [intOf]; omega
    · obtain rfl : k = n := by omega
      have HN := Lib.hid hB
      clear hB
      go_wp2_with fail
      go_end0
      exact ⟨rfl, HN.out.pnt⟩
set_option maxRecDepth 100000 in
set_option maxHeartbeats 1000000 in
theorem roomT {A : Option Addr} {n c lo hi : Nat} (s r : ByteArray) (w : World) (hx : GsIn lo hi w ⟨A, n, c, 9, 1⟩) :
    Calls Tryz.prog 136 #[.agg #[.slice A n c, .string s, .string r]] w (FillG ⟨A, n, c, 9, 1⟩ n c (fun _ => .string r) w) := by
  have hfit : n ≤ c := hx.fit
  have hmax : c * 1 ≤ 9223372036854775807 := hx.max
  have HX := Lib.hid hx
  clear hx
  have HP0 : Hid (GPb ⟨A, n, c, 9, 1⟩ n n (fun _ => .string r) w (w.alloc (.cells #[.slice A n c, .string s, .string r] 105)) w.heap.size (.cells #[.slice A n c, .string s, .string r] 105 (0, 0))) := Lib.hid ⟨Gp.start _ _ _ ((Below.refl _ _).alloc (Nat.le_refl _) _), heap_alloc_new _ _⟩
  have hA : (A = none ∧ n = 0 ∧ c = 0) ∨ ∃ g o, A = some ⟨g, o, none⟩ := by
    rcases HX.out.at_ with ⟨h1, h2⟩ | ⟨g, o, cs, h1, _⟩
    · have h2 : c = 0 := h2
      exact .inl ⟨h1, by omega, h2⟩
    · exact .inr ⟨g, o, h1⟩
  go_enter Tryz.func136, Tryz.ntmps136
  rcases hA with ⟨rfl, rfl, rfl⟩ | ⟨g, o, rfl⟩
  · go_wp2_with fail
    go_loop [3] (fun i => i = .int .i64 0) (fun i => 0)
    case atStart => rfl
    case round =>
      obtain rfl := hrel
      go_wp2_with fail
      go_end0
      exact ⟨rfl, HP0.out.pnt⟩
  · by_cases hcn : c = n
    · subst hcn
      go_wp2_with fail
      go_loop [3] (fun i => i = .int .i64 0) (fun i => 0)
      case atStart => rfl
      case round =>
        obtain rfl := hrel
        go_wp2_with fail
        go_end0
        exact ⟨rfl, HP0.out.pnt⟩
    · go_wp2_with fail
      obtain ⟨p, hp⟩ : ∃ p, p = w.heap.size := ⟨_, rfl⟩
      rw [← hp] at HP0 ⊢
      have NP := Lib.hid hp; clear hp
      have hpg : p ≠ g := by
        rcases HX.out.at_ with ⟨h1, _⟩ | ⟨g1, o1, cs, h1, h2, h3, h4, h5⟩
        · cases h1
        · cases h1; have := lt_of_blk h4; rw [NP.out]; omega
      go_loopw [3] (fun i wr => ∃ k : Nat, n + k ≤ c ∧ i = .int .i64 k ∧ GPb ⟨some ⟨g, o, none⟩, n, c, 9, 1⟩ n (n + k) (fun _ => .string r) w wr p (.cells #[.slice (some ⟨g, o, none⟩) n c, .string s, .string r] 105 (0, 0))) (fun i _ => c - n - (intOf i).toNat)
      case atStart => exact ⟨0, hfit, rfl, HP0.out⟩
      case round =>
        clear HP0
        obtain ⟨k, hk, rfl, hB⟩ := hrel
        have b2 := cell_blk hB.box 2
        simp only [List.getElem?_toArray, List.getElem?_cons_zero, List.getElem?_cons_succ] at b2
        by_cases hlt : n + k < c
        · obtain ⟨u, c0, f0⟩ := hB.pnt.cell HX.out rfl (k := n + k) (by show n + k < c * 1; omega)
          have HN := Lib.hid (hB.one (Nat.le_add_right _ _) HX.out rfl (by rw [NP.out]; exact Nat.le_refl _))
          rw [← Nat.add_assoc] at c0 f0 HN
          clear hB
          go_wp2_with fail
          go_roundw
          case rel => exact ⟨k + 1, by omega, by go_num, HN.out⟩
          case measure => simp [intOf]; omega
        · have e : n + k = c := by omega
          rw [e] at hB
          have HN := Lib.hid hB
          clear hB
          go_wp2_with fail
          go_end0
          exact ⟨rfl, HN.out.pnt⟩
set_option maxRecDepth 100000 in
set_option maxHeartbeats 1000000 in
theorem keptT {A : Option Addr} {n c lo hi : Nat} (s r : ByteArray) (w : World) (hx : GsIn lo hi w ⟨A, n, c, 9, 1⟩) (hs : GsIs w ⟨A, n, c, 9, 1⟩ 0 n (fun _ => .string s)) (hr : GsIs w ⟨A, n, c, 9, 1⟩ n (c * 1) (fun _ => .string r)) :
    Calls Tryz.prog 137 #[.agg #[.slice A n c, .string s, .string r]] w (KeptPost w) := by
  have hfit : n ≤ c := hx.fit
  have hmax : c * 1 ≤ 9223372036854775807 := hx.max
  have hA : (A = none ∧ n = 0 ∧ c = 0) ∨ ∃ g o, A = some ⟨g, o, none⟩ := by
    rcases hx.at_ with ⟨h1, h2⟩ | ⟨g, o, cs, h1, _⟩
    · have h2 : c = 0 := h2
      exact .inl ⟨h1, by omega, h2⟩
    · exact .inr ⟨g, o, h1⟩
  have hal : Below w.heap.size w (w.alloc (.cells #[.slice A n c, .string s, .string r] 105)) := (Below.refl _ _).alloc (Nat.le_refl _) _
  have HP0 : Hid (GKb ⟨A, n, c, 9, 1⟩ n (fun _ => .string s) (fun _ => .string r) w (w.alloc (.cells #[.slice A n c, .string s, .string r] 105)) w.heap.size (.cells #[.slice A n c, .string s, .string r] 105 (0, 0))) := Lib.hid ⟨hal, heap_alloc_new _ _, hs.step hal, hr.step hal⟩
  clear hx hs hr hal
  go_enter Tryz.func137, Tryz.ntmps137
  go_wp2_with fail
  obtain ⟨p, hp⟩ : ∃ p, p = w.heap.size := ⟨_, rfl⟩
  rw [← hp] at HP0 ⊢
  have NP := Lib.hid hp; clear hp
  go_loopw [3] (fun i wr => ∃ k : Nat, k ≤ n ∧ i = .int .i64 k ∧ GKb ⟨A, n, c, 9, 1⟩ n (fun _ => .string s) (fun _ => .string r) w wr p (.cells #[.slice A n c, .string s, .string r] 105 (0, 0))) (fun i _ => n - (intOf i).toNat)
  case atStart => exact ⟨0, Nat.zero_le _, rfl, HP0.out⟩
  case round =>
    clear HP0
    obtain ⟨k, hk, rfl, hB⟩ := hrel
    have b0 := cell_blk hB.box 0
    have b1 := cell_blk hB.box 1
    simp only [List.getElem?_toArray, List.getElem?_cons_zero, List.getElem?_cons_succ] at b0 b1
    have HB := Lib.hid hB
    clear hB
    by_cases hlt : k < n
    · rcases hA with ⟨rfl, rfl, rfl⟩ | ⟨g, o, rfl⟩
      · omega
      · have c0 := HB.out.ins g o rfl k (Nat.zero_le _) hlt
        go_wp2_with fail
        go_quiet (fail)
        go_wp2_with fail
        go_roundw
        case rel => exact ⟨k + 1, by omega, by go_num, HB.out.drewN _⟩
        case measure => simp [intOf]; omega
    · obtain rfl : k = n := by omega
      rcases hA with ⟨rfl, rfl, rfl⟩ | ⟨g, o, rfl⟩
      · go_wp2_with fail
        go_loop [5] (fun i => i = .int .i64 0) (fun i => 0)
        case atStart => rfl
        case round =>
          obtain rfl := hrel
          go_wp2_with fail
          go_ret
          exact ⟨rfl, by rw [← NP.out]; exact HB.out.below⟩
      · by_cases hcn : c = k
        · subst hcn
          go_wp2_with fail
          go_loop [5] (fun i => i = .int .i64 0) (fun i => 0)
          case atStart => rfl
          case round =>
            obtain rfl := hrel
            go_wp2_with fail
            go_ret
            exact ⟨rfl, by rw [← NP.out]; exact HB.out.below⟩
        · go_wp2_with fail
          go_loopw [5] (fun i wr => ∃ j : Nat, k + j ≤ c ∧ i = .int .i64 j ∧ GKb ⟨some ⟨g, o, none⟩, k, c, 9, 1⟩ k (fun _ => .string s) (fun _ => .string r) w wr p (.cells #[.slice (some ⟨g, o, none⟩) k c, .string s, .string r] 105 (0, 0))) (fun i _ => c - k - (intOf i).toNat)
          case atStart => exact ⟨0, hfit, rfl, HB.out⟩
          case round =>
            clear HB b0 b1
            obtain ⟨j, hj, rfl, hB⟩ := hrel
            have b2 := cell_blk hB.box 2
            simp only [List.getElem?_toArray, List.getElem?_cons_zero, List.getElem?_cons_succ] at b2
            have HB := Lib.hid hB
            clear hB
            by_cases hlt : k + j < c
            · have c0 := HB.out.outs g o rfl (k + j) (Nat.le_add_right _ _) (by show k + j < c * 1; omega)
              rw [← Nat.add_assoc] at c0
              go_wp2_with fail
              go_quiet (fail)
              go_wp2_with fail
              go_roundw
              case rel => exact ⟨j + 1, by omega, by go_num, HB.out.drewN _⟩
              case measure => simp [intOf]; omega
            · go_wp2_with fail
              go_ret
              exact ⟨rfl, by rw [← NP.out]; exact HB.out.below⟩
end Go.Proofs.YtfolamkjlgpgmaaGreatDoor


/- Strips of addresses: filled: the walks. No condition. (Printed by gMix.py.) -/
namespace Go.Proofs.YtfolamkjlgpgmaaGreatDoor
open Go.RowKit
set_option linter.unusedVariables false
set_option linter.unusedSimpArgs false
def sgF (y : Nat → Nat) : Nat → Value := fun i => .int .u8 (y (i % 16) : Int)
theorem sgF_vs (y : Nat → Nat) (k : Nat) : ∀ j v, (adrL y)[j]? = some v → v = sgF y (k * 16 + j) := by
  intro j v hj
  have h16 : j < 16 := by have := (List.getElem?_eq_some_iff.1 hj).1; rwa [adrL_length] at this
  unfold sgF
  rw [show (k * 16 + j) % 16 = j by omega]
  have := adrCells_get y h16
  unfold adrCells at this
  rw [List.getElem?_toArray] at this
  rw [this] at hj
  cases hj; rfl
theorem box_1 (v : Value) (y z : Nat → Nat) : (#[v, .int .u8 (y 0 : Int), .int .u8 (y 1 : Int), .int .u8 (y 2 : Int), .int .u8 (y 3 : Int), .int .u8 (y 4 : Int), .int .u8 (y 5 : Int), .int .u8 (y 6 : Int), .int .u8 (y 7 : Int), .int .u8 (y 8 : Int), .int .u8 (y 9 : Int), .int .u8 (y 10 : Int), .int .u8 (y 11 : Int), .int .u8 (y 12 : Int), .int .u8 (y 13 : Int), .int .u8 (y 14 : Int), .int .u8 (y 15 : Int), .int .u8 (z 0 : Int), .int .u8 (z 1 : Int), .int .u8 (z 2 : Int), .int .u8 (z 3 : Int), .int .u8 (z 4 : Int), .int .u8 (z 5 : Int), .int .u8 (z 6 : Int), .int .u8 (z 7 : Int), .int .u8 (z 8 : Int), .int .u8 (z 9 : Int), .int .u8 (z 10 : Int), .int .u8 (z 11 : Int), .int .u8 (z 12 : Int), .int .u8 (z 13 : Int), .int .u8 (z 14 : Int), .int .u8 (z 15 : Int)] : Array Value) = ([v] ++ adrL y ++ adrL z).toArray := by
  simp [adrL, List.range_succ]
theorem box_2 (v : Value) (y z : Nat → Nat) : (#[v, .int .u8 (y 0 : Int), .int .u8 (y 1 : Int), .int .u8 (y 2 : Int), .int .u8 (y 3 : Int), .int .u8 (y 4 : Int), .int .u8 (y 5 : Int), .int .u8 (y 6 : Int), .int .u8 (y 7 : Int), .int .u8 (y 8 : Int), .int .u8 (y 9 : Int), .int .u8 (y 10 : Int), .int .u8 (y 11 : Int), .int .u8 (y 12 : Int), .int .u8 (y 13 : Int), .int .u8 (y 14 : Int), .int .u8 (y 15 : Int), .int .u8 (z 0 : Int), .int .u8 (z 1 : Int), .int .u8 (z 2 : Int), .int .u8 (z 3 : Int), .int .u8 (z 4 : Int), .int .u8 (z 5 : Int), .int .u8 (z 6 : Int), .int .u8 (z 7 : Int), .int .u8 (z 8 : Int), .int .u8 (z 9 : Int), .int .u8 (z 10 : Int), .int .u8 (z 11 : Int), .int .u8 (z 12 : Int), .int .u8 (z 13 : Int), .int .u8 (z 14 : Int), .int .u8 (z 15 : Int)] : Array Value) = (([v] ++ adrL y) ++ adrL z ++ []).toArray := by
  simp [adrL, List.range_succ]
theorem range_mid {W : World} {p T : Nat} {A B C : List Value} (h : W.heap[p]? = some (.cells (A ++ B ++ C).toArray T (0, 0))) : W.rangeAt p A.length B := fun j v hj => by
  have := (List.getElem?_eq_some_iff.1 hj).1
  rw [cell_blk h, List.getElem?_toArray, List.append_assoc, List.getElem?_append_right (by omega), Nat.add_sub_cancel_left, List.getElem?_append_left this, hj]
set_option maxRecDepth 100000 in
set_option maxHeartbeats 1000000 in
theorem fillA {A : Option Addr} {n c lo hi : Nat} (y z : Nat → Nat) (w : World) (hx : GsIn lo hi w ⟨A, n, c, 32, 16⟩) :
    Calls Tryz.prog 132 #[.agg #[.slice A n c, .int .u8 (y 0 : Int), .int .u8 (y 1 : Int), .int .u8 (y 2 : Int), .int .u8 (y 3 : Int), .int .u8 (y 4 : Int), .int .u8 (y 5 : Int), .int .u8 (y 6 : Int), .int .u8 (y 7 : Int), .int .u8 (y 8 : Int), .int .u8 (y 9 : Int), .int .u8 (y 10 : Int), .int .u8 (y 11 : Int), .int .u8 (y 12 : Int), .int .u8 (y 13 : Int), .int .u8 (y 14 : Int), .int .u8 (y 15 : Int), .int .u8 (z 0 : Int), .int .u8 (z 1 : Int), .int .u8 (z 2 : Int), .int .u8 (z 3 : Int), .int .u8 (z 4 : Int), .int .u8 (z 5 : Int), .int .u8 (z 6 : Int), .int .u8 (z 7 : Int), .int .u8 (z 8 : Int), .int .u8 (z 9 : Int), .int .u8 (z 10 : Int), .int .u8 (z 11 : Int), .int .u8 (z 12 : Int), .int .u8 (z 13 : Int), .int .u8 (z 14 : Int), .int .u8 (z 15 : Int)]] w (FillG ⟨A, n, c, 32, 16⟩ 0 (n * 16) (sgF y) w) := by
  have hfit : n ≤ c := hx.fit
  have hmax : c * 16 ≤ 9223372036854775807 := hx.max
  have HX := Lib.hid hx
  have HSZ := Lib.hid (show (Tryz.prog.info? 32).map (·.size) = some 16 by kernel_rfl)
  have HSA : Hid ((Tryz.prog.info? 32).map (·.size) = some (adrL y).toArray.size) := Lib.hid (by rw [HSZ.out]; simp [adrL_length])
  clear hx
  go_enter Tryz.func132, Tryz.ntmps132
  go_wp2_with fail
  obtain ⟨p, hp⟩ : ∃ p, p = w.heap.size := ⟨_, rfl⟩
  have HP0 : Hid (GPb ⟨A, n, c, 32, 16⟩ 0 (0 * 16) (sgF y) w (w.alloc (.cells #[.slice A n c, .int .u8 (y 0 : Int), .int .u8 (y 1 : Int), .int .u8 (y 2 : Int), .int .u8 (y 3 : Int), .int .u8 (y 4 : Int), .int .u8 (y 5 : Int), .int .u8 (y 6 : Int), .int .u8 (y 7 : Int), .int .u8 (y 8 : Int), .int .u8 (y 9 : Int), .int .u8 (y 10 : Int), .int .u8 (y 11 : Int), .int .u8 (y 12 : Int), .int .u8 (y 13 : Int), .int .u8 (y 14 : Int), .int .u8 (y 15 : Int), .int .u8 (z 0 : Int), .int .u8 (z 1 : Int), .int .u8 (z 2 : Int), .int .u8 (z 3 : Int), .int .u8 (z 4 : Int), .int .u8 (z 5 : Int), .int .u8 (z 6 : Int), .int .u8 (z 7 : Int), .int .u8 (z 8 : Int), .int .u8 (z 9 : Int), .int .u8 (z 10 : Int), .int .u8 (z 11 : Int), .int .u8 (z 12 : Int), .int .u8 (z 13 : Int), .int .u8 (z 14 : Int), .int .u8 (z 15 : Int)] 103)) w.heap.size (.cells #[.slice A n c, .int .u8 (y 0 : Int), .int .u8 (y 1 : Int), .int .u8 (y 2 : Int), .int .u8 (y 3 : Int), .int .u8 (y 4 : Int), .int .u8 (y 5 : Int), .int .u8 (y 6 : Int), .int .u8 (y 7 : Int), .int .u8 (y 8 : Int), .int .u8 (y 9 : Int), .int .u8 (y 10 : Int), .int .u8 (y 11 : Int), .int .u8 (y 12 : Int), .int .u8 (y 13 : Int), .int .u8 (y 14 : Int), .int .u8 (y 15 : Int), .int .u8 (z 0 : Int), .int .u8 (z 1 : Int), .int .u8 (z 2 : Int), .int .u8 (z 3 : Int), .int .u8 (z 4 : Int), .int .u8 (z 5 : Int), .int .u8 (z 6 : Int), .int .u8 (z 7 : Int), .int .u8 (z 8 : Int), .int .u8 (z 9 : Int), .int .u8 (z 10 : Int), .int .u8 (z 11 : Int), .int .u8 (z 12 : Int), .int .u8 (z 13 : Int), .int .u8 (z 14 : Int), .int .u8 (z 15 : Int)] 103 (0, 0))) := Lib.hid ⟨Gp.start _ _ _ ((Below.refl _ _).alloc (Nat.le_refl _) _), heap_alloc_new _ _⟩
  rw [← hp] at HP0 ⊢
  have NP := Lib.hid hp; clear hp
  go_loopw [2] (fun i wr => ∃ k : Nat, k ≤ n ∧ i = .int .i64 k ∧ GPb ⟨A, n, c, 32, 16⟩ 0 (k * 16) (sgF y) w wr p (.cells #[.slice A n c, .int .u8 (y 0 : Int), .int .u8 (y 1 : Int), .int .u8 (y 2 : Int), .int .u8 (y 3 : Int), .int .u8 (y 4 : Int), .int .u8 (y 5 : Int), .int .u8 (y 6 : Int), .int .u8 (y 7 : Int), .int .u8 (y 8 : Int), .int .u8 (y 9 : Int), .int .u8 (y 10 : Int), .int .u8 (y 11 : Int), .int .u8 (y 12 : Int), .int .u8 (y 13 : Int), .int .u8 (y 14 : Int), .int .u8 (y 15 : Int), .int .u8 (z 0 : Int), .int .u8 (z 1 : Int), .int .u8 (z 2 : Int), .int .u8 (z 3 : Int), .int .u8 (z 4 : Int), .int .u8 (z 5 : Int), .int .u8 (z 6 : Int), .int .u8 (z 7 : Int), .int .u8 (z 8 : Int), .int .u8 (z 9 : Int), .int .u8 (z 10 : Int), .int .u8 (z 11 : Int), .int .u8 (z 12 : Int), .int .u8 (z 13 : Int), .int .u8 (z 14 : Int), .int .u8 (z 15 : Int)] 103 (0, 0))) (fun i _ => n - (intOf i).toNat)
  case atStart => exact ⟨0, Nat.zero_le _, rfl, HP0.out⟩
  case round =>
    clear HP0
    obtain ⟨k, hk, rfl, hB⟩ := hrel
    have b0 := cell_blk hB.box 0
    simp only [List.getElem?_toArray, List.getElem?_cons_zero] at b0
    by_cases hlt : k < n
    · obtain ⟨g, o, hA⟩ : ∃ g o, A = some ⟨g, o, none⟩ := by
        rcases HX.out.at_ with ⟨h1, h2⟩ | ⟨g, o, cs, h1, _⟩
        · have : c = 0 := h2
          omega
        · exact ⟨g, o, h1⟩
      subst hA
      have hb2 := hB.box
      rw [box_1] at hb2
      have RY : Hid (wr.rangeAt p 1 (adrL y)) := Lib.hid (range_mid hb2)
      clear hb2
      have HT := Lib.hid (hB.pnt.there HX.out rfl (k := k * 16) (n := (adrL y).toArray.size) (by rw [List.size_toArray, adrL_length]; show k * 16 + 16 ≤ c * 16; omega))
      have HN := Lib.hid (hB.many (Nat.zero_le _) HX.out rfl (by rw [NP.out]; exact Nat.le_refl _) _ (sgF_vs y k))
      have HN2 : Hid (GPb ⟨some ⟨g, o, none⟩, n, c, 32, 16⟩ 0 ((k + 1) * 16) (sgF y) w (wr.setCells g (o + k * 16) (adrL y)) p (.cells #[.slice (some ⟨g, o, none⟩) n c, .int .u8 (y 0 : Int), .int .u8 (y 1 : Int), .int .u8 (y 2 : Int), .int .u8 (y 3 : Int), .int .u8 (y 4 : Int), .int .u8 (y 5 : Int), .int .u8 (y 6 : Int), .int .u8 (y 7 : Int), .int .u8 (y 8 : Int), .int .u8 (y 9 : Int), .int .u8 (y 10 : Int), .int .u8 (y 11 : Int), .int .u8 (y 12 : Int), .int .u8 (y 13 : Int), .int .u8 (y 14 : Int), .int .u8 (y 15 : Int), .int .u8 (z 0 : Int), .int .u8 (z 1 : Int), .int .u8 (z 2 : Int), .int .u8 (z 3 : Int), .int .u8 (z 4 : Int), .int .u8 (z 5 : Int), .int .u8 (z 6 : Int), .int .u8 (z 7 : Int), .int .u8 (z 8 : Int), .int .u8 (z 9 : Int), .int .u8 (z 10 : Int), .int .u8 (z 11 : Int), .int .u8 (z 12 : Int), .int .u8 (z 13 : Int), .int .u8 (z 14 : Int), .int .u8 (z 15 : Int)] 103 (0, 0))) := Lib.hid (by have := HN.out; rw [adrL_length] at this; rw [show (k + 1) * 16 = k * 16 + 16 by omega]; exact this)
      clear hB HN
      go_wp2_with (first | (refine wpList_load_mid rfl 32 (.tmp 13) ?ho p 1 ?hx (adrL y) _ ?hr Tryz.underlying32 rfl ?hi ?_; (case ho => with_reducible rfl); (case hx => rfl); (case hi => rw [adrL_length]; exact HSZ.out); (case hr => exact RY.out)) | (refine wpList_store_mid rfl 32 (.tmp 15) (.tmp 14) ?ho g (o + k * 16) (adrL y).toArray ?hx ?hy ?ht HSA.out (all_oneCell_toArray (adrL_one _)) ?_; (case ho => with_reducible rfl); (case hx => rfl); (case hy => rfl); (case ht => exact HT.out)))
      go_roundw
      case rel => exact ⟨k + 1, by omega, by go_num, HN2.out⟩
      case measure => simp [intOf]; omega
    · obtain rfl : k = n := by omega
      have HN := Lib.hid hB
      clear hB
      go_wp2_with fail
      go_end0
      exact ⟨rfl, HN.out.pnt⟩
set_option maxRecDepth 100000 in
set_option maxHeartbeats 1000000 in
theorem roomA {A : Option Addr} {n c lo hi : Nat} (y z : Nat → Nat) (w : World) (hx : GsIn lo hi w ⟨A, n, c, 32, 16⟩) :
    Calls Tryz.prog 133 #[.agg #[.slice A n c, .int .u8 (y 0 : Int), .int .u8 (y 1 : Int), .int .u8 (y 2 : Int), .int .u8 (y 3 : Int), .int .u8 (y 4 : Int), .int .u8 (y 5 : Int), .int .u8 (y 6 : Int), .int .u8 (y 7 : Int), .int .u8 (y 8 : Int), .int .u8 (y 9 : Int), .int .u8 (y 10 : Int), .int .u8 (y 11 : Int), .int .u8 (y 12 : Int), .int .u8 (y 13 : Int), .int .u8 (y 14 : Int), .int .u8 (y 15 : Int), .int .u8 (z 0 : Int), .int .u8 (z 1 : Int), .int .u8 (z 2 : Int), .int .u8 (z 3 : Int), .int .u8 (z 4 : Int), .int .u8 (z 5 : Int), .int .u8 (z 6 : Int), .int .u8 (z 7 : Int), .int .u8 (z 8 : Int), .int .u8 (z 9 : Int), .int .u8 (z 10 : Int), .int .u8 (z 11 : Int), .int .u8 (z 12 : Int), .int .u8 (z 13 : Int), .int .u8 (z 14 : Int), .int .u8 (z 15 : Int)]] w (FillG ⟨A, n, c, 32, 16⟩ (n * 16) (c * 16) (sgF z) w) := by
  have hfit : n ≤ c := hx.fit
  have hmax : c * 16 ≤ 9223372036854775807 := hx.max
  have HX := Lib.hid hx
  have HSZ := Lib.hid (show (Tryz.prog.info? 32).map (·.size) = some 16 by kernel_rfl)
  have HSA : Hid ((Tryz.prog.info? 32).map (·.size) = some (adrL z).toArray.size) := Lib.hid (by rw [HSZ.out]; simp [adrL_length])
  clear hx
  have HP0 : Hid (GPb ⟨A, n, c, 32, 16⟩ (n * 16) (n * 16) (sgF z) w (w.alloc (.cells #[.slice A n c, .int .u8 (y 0 : Int), .int .u8 (y 1 : Int), .int .u8 (y 2 : Int), .int .u8 (y 3 : Int), .int .u8 (y 4 : Int), .int .u8 (y 5 : Int), .int .u8 (y 6 : Int), .int .u8 (y 7 : Int), .int .u8 (y 8 : Int), .int .u8 (y 9 : Int), .int .u8 (y 10 : Int), .int .u8 (y 11 : Int), .int .u8 (y 12 : Int), .int .u8 (y 13 : Int), .int .u8 (y 14 : Int), .int .u8 (y 15 : Int), .int .u8 (z 0 : Int), .int .u8 (z 1 : Int), .int .u8 (z 2 : Int), .int .u8 (z 3 : Int), .int .u8 (z 4 : Int), .int .u8 (z 5 : Int), .int .u8 (z 6 : Int), .int .u8 (z 7 : Int), .int .u8 (z 8 : Int), .int .u8 (z 9 : Int), .int .u8 (z 10 : Int), .int .u8 (z 11 : Int), .int .u8 (z 12 : Int), .int .u8 (z 13 : Int), .int .u8 (z 14 : Int), .int .u8 (z 15 : Int)] 103)) w.heap.size (.cells #[.slice A n c, .int .u8 (y 0 : Int), .int .u8 (y 1 : Int), .int .u8 (y 2 : Int), .int .u8 (y 3 : Int), .int .u8 (y 4 : Int), .int .u8 (y 5 : Int), .int .u8 (y 6 : Int), .int .u8 (y 7 : Int), .int .u8 (y 8 : Int), .int .u8 (y 9 : Int), .int .u8 (y 10 : Int), .int .u8 (y 11 : Int), .int .u8 (y 12 : Int), .int .u8 (y 13 : Int), .int .u8 (y 14 : Int), .int .u8 (y 15 : Int), .int .u8 (z 0 : Int), .int .u8 (z 1 : Int), .int .u8 (z 2 : Int), .int .u8 (z 3 : Int), .int .u8 (z 4 : Int), .int .u8 (z 5 : Int), .int .u8 (z 6 : Int), .int .u8 (z 7 : Int), .int .u8 (z 8 : Int), .int .u8 (z 9 : Int), .int .u8 (z 10 : Int), .int .u8 (z 11 : Int), .int .u8 (z 12 : Int), .int .u8 (z 13 : Int), .int .u8 (z 14 : Int), .int .u8 (z 15 : Int)] 103 (0, 0))) := Lib.hid ⟨Gp.start _ _ _ ((Below.refl _ _).alloc (Nat.le_refl _) _), heap_alloc_new _ _⟩
  have hA : (A = none ∧ n = 0 ∧ c = 0) ∨ ∃ g o, A = some ⟨g, o, none⟩ := by
    rcases HX.out.at_ with ⟨h1, h2⟩ | ⟨g, o, cs, h1, _⟩
    · have h2 : c = 0 := h2
      exact .inl ⟨h1, by omega, h2⟩
    · exact .inr ⟨g, o, h1⟩
  go_enter Tryz.func133, Tryz.ntmps133
  rcases hA with ⟨rfl, rfl, rfl⟩ | ⟨g, o, rfl⟩
  · go_wp2_with fail
    go_loop [3] (fun i => i = .int .i64 0) (fun i => 0)
    case atStart => rfl
    case round =>
      obtain rfl := hrel
      go_wp2_with fail
      go_end0
      exact ⟨rfl, HP0.out.pnt⟩
  · by_cases hcn : c = n
    · subst hcn
      go_wp2_with fail
      go_loop [3] (fun i => i = .int .i64 0) (fun i => 0)
      case atStart => rfl
      case round =>
        obtain rfl := hrel
        go_wp2_with fail
        go_end0
        exact ⟨rfl, HP0.out.pnt⟩
    · go_wp2_with fail
      obtain ⟨p, hp⟩ : ∃ p, p = w.heap.size := ⟨_, rfl⟩
      rw [← hp] at HP0 ⊢
      have NP := Lib.hid hp; clear hp
      go_loopw [3] (fun i wr => ∃ k : Nat, n + k ≤ c ∧ i = .int .i64 k ∧ GPb ⟨some ⟨g, o, none⟩, n, c, 32, 16⟩ (n * 16) ((n + k) * 16) (sgF z) w wr p (.cells #[.slice (some ⟨g, o, none⟩) n c, .int .u8 (y 0 : Int), .int .u8 (y 1 : Int), .int .u8 (y 2 : Int), .int .u8 (y 3 : Int), .int .u8 (y 4 : Int), .int .u8 (y 5 : Int), .int .u8 (y 6 : Int), .int .u8 (y 7 : Int), .int .u8 (y 8 : Int), .int .u8 (y 9 : Int), .int .u8 (y 10 : Int), .int .u8 (y 11 : Int), .int .u8 (y 12 : Int), .int .u8 (y 13 : Int), .int .u8 (y 14 : Int), .int .u8 (y 15 : Int), .int .u8 (z 0 : Int), .int .u8 (z 1 : Int), .int .u8 (z 2 : Int), .int .u8 (z 3 : Int), .int .u8 (z 4 : Int), .int .u8 (z 5 : Int), .int .u8 (z 6 : Int), .int .u8 (z 7 : Int), .int .u8 (z 8 : Int), .int .u8 (z 9 : Int), .int .u8 (z 10 : Int), .int .u8 (z 11 : Int), .int .u8 (z 12 : Int), .int .u8 (z 13 : Int), .int .u8 (z 14 : Int), .int .u8 (z 15 : Int)] 103 (0, 0))) (fun i _ => c - n - (intOf i).toNat)
      case atStart => exact ⟨0, hfit, rfl, HP0.out⟩
      case round =>
        clear HP0
        obtain ⟨k, hk, rfl, hB⟩ := hrel
        by_cases hlt : n + k < c
        · have hb2 := hB.box
          rw [box_2] at hb2
          have RZ : Hid (wr.rangeAt p 17 (adrL z)) := Lib.hid (by have := range_mid hb2; simpa [adrL_length] using this)
          clear hb2
          have HT : Hid (wr.there g (o + n * 16 + k * 16) (adrL z).toArray.size) := Lib.hid (by
            rw [List.size_toArray, adrL_length]
            have := hB.pnt.there HX.out rfl (k := (n + k) * 16) (n := 16) (by show (n + k) * 16 + 16 ≤ c * 16; omega)
            rwa [show o + (n + k) * 16 = o + n * 16 + k * 16 by omega] at this)
          have HN := Lib.hid (hB.many (by omega) HX.out rfl (by rw [NP.out]; exact Nat.le_refl _) _ (sgF_vs z (n + k)))
          have HN2 : Hid (GPb ⟨some ⟨g, o, none⟩, n, c, 32, 16⟩ (n * 16) ((n + (k + 1)) * 16) (sgF z) w (wr.setCells g (o + n * 16 + k * 16) (adrL z)) p (.cells #[.slice (some ⟨g, o, none⟩) n c, .int .u8 (y 0 : Int), .int .u8 (y 1 : Int), .int .u8 (y 2 : Int), .int .u8 (y 3 : Int), .int .u8 (y 4 : Int), .int .u8 (y 5 : Int), .int .u8 (y 6 : Int), .int .u8 (y 7 : Int), .int .u8 (y 8 : Int), .int .u8 (y 9 : Int), .int .u8 (y 10 : Int), .int .u8 (y 11 : Int), .int .u8 (y 12 : Int), .int .u8 (y 13 : Int), .int .u8 (y 14 : Int), .int .u8 (y 15 : Int), .int .u8 (z 0 : Int), .int .u8 (z 1 : Int), .int .u8 (z 2 : Int), .int .u8 (z 3 : Int), .int .u8 (z 4 : Int), .int .u8 (z 5 : Int), .int .u8 (z 6 : Int), .int .u8 (z 7 : Int), .int .u8 (z 8 : Int), .int .u8 (z 9 : Int), .int .u8 (z 10 : Int), .int .u8 (z 11 : Int), .int .u8 (z 12 : Int), .int .u8 (z 13 : Int), .int .u8 (z 14 : Int), .int .u8 (z 15 : Int)] 103 (0, 0))) := Lib.hid (by have := HN.out; rw [adrL_length] at this; rw [show (n + (k + 1)) * 16 = (n + k) * 16 + 16 by omega, show o + n * 16 + k * 16 = o + (n + k) * 16 by omega]; exact this)
          clear hB HN
          go_wp2_with (first | (refine wpList_load_mid rfl 32 (.tmp 21) ?ho p 17 ?hx (adrL z) _ ?hr Tryz.underlying32 rfl ?hi ?_; (case ho => with_reducible rfl); (case hx => rfl); (case hi => rw [adrL_length]; exact HSZ.out); (case hr => exact RZ.out)) | (refine wpList_store_mid rfl 32 (.tmp 23) (.tmp 22) ?ho g (o + n * 16 + k * 16) (adrL z).toArray ?hx ?hy ?ht HSA.out (all_oneCell_toArray (adrL_one _)) ?_; (case ho => with_reducible rfl); (case hx => rfl); (case hy => rfl); (case ht => exact HT.out)))
          go_roundw
          case rel => exact ⟨k + 1, by omega, by go_num, HN2.out⟩
          case measure => simp [intOf]; omega
        · have e : n + k = c := by omega
          rw [e] at hB
          have HN := Lib.hid hB
          clear hB
          go_wp2_with fail
          go_end0
          exact ⟨rfl, HN.out.pnt⟩
end Go.Proofs.YtfolamkjlgpgmaaGreatDoor

